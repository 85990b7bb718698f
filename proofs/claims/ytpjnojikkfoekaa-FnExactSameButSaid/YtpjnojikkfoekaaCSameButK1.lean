/- The functions as they are translated do what the pure functions say (printed). -/
import Derived.Test.YtpjnojikkfoekaaCSameButD
import Derived.Test.YtpjnojikkfoekaaTm40
import Derived.Test.YtpjnojikkfoekaaProg
set_option maxRecDepth 100000
set_option linter.unusedVariables false
set_option linter.unusedSimpArgs false
namespace Go.Tm
open Go.Proofs
theorem laws_szIntS_ok (u : Nat) (p0 : List Int) (p1 : Int) (r : Int) (h : laws_szIntS u p0 p1 = some r) : CallOK Try.prog 107 [.one (.t (.sl 1 (p0.map (eInt .i64)))), .one (.t (.int .i64 p1))] (.one (.t (.int .i64 r))) [] := by
  unfold laws_szIntS at h
  refine CallOK.of_bodyK (fn := Try.f107) (m := false) [.t (.sl 1 (p0.map (eInt .i64))), .t (.int .i64 p1)] kr rfl kr kr kr kr kr ?_
  refine Wp.srg [] [] ?_
  refine Runs.alln ?_
  refine Wp.fg ⟨[(0, .t (.sl 1 (p0.map (eInt .i64)))), (1, .t (.int .i64 p1)), (4, .t (.int .i64 0))], [], []⟩ ?_
  refine Wp.srg [] [] ?_
  refine Runs.batch 2 kr ?_
  refine Runs.lenT (y := .t (.sl 1 (p0.map (eInt .i64)))) (e := 3) (eInt .i64) p0 1 rfl rfl rfl kr kr kr kr kr ?_
  refine Runs.alln ?_
  refine Wp.fg ⟨[(1, .t (.int .i64 (bSub .i64 p1 ((p0.length : Int))))), (4, .t (.int .i64 0))], [], []⟩ ?_
  refine Wp.seq ?_
  refine Wp.srg [] [] ?_
  refine Runs.alln ?_
  refine Wp.fg ⟨[(1, .t (.int .i64 (bSub .i64 p1 ((p0.length : Int))))), (4, .t (.int .i64 0)), (10, .t (.bool (decide ((bSub .i64 p1 ((p0.length : Int))) < 0))))], [], []⟩ ?_
  refine Wp.cond2 (b := decide ((bSub .i64 p1 ((p0.length : Int))) < 0)) kr (fun hc => ?_) (fun hc => ?_)
  · have h := cond_t h hc
    refine Wp.srg [] [] ?_
    refine Runs.alln ?_
    refine Wp.fg ⟨[(1, .t (.int .i64 (bSub .i64 p1 ((p0.length : Int))))), (4, .t (.int .i64 (-1)))], [], []⟩ ?_
    refine Wp.ret ?_
    refine thenR ?_
    have hr := Option.some.inj h
    subst hr
    exact RetK [.t (.int .i64 (-1))] (.one (.t (.int .i64 (-1)))) [] kr kr (.refl _) .nil
  · have h := cond_f h hc
    refine Wp.skip ?_
    refine thenN ?_
    refine Wp.srg [] [] ?_
    refine Runs.alln ?_
    refine Wp.fg ⟨[(4, .t (.int .i64 (bSub .i64 p1 ((p0.length : Int)))))], [], []⟩ ?_
    refine Wp.ret ?_
    have hr := Option.some.inj h
    subst hr
    exact RetK [.t (.int .i64 (bSub .i64 p1 ((p0.length : Int))))] (.one (.t (.int .i64 (bSub .i64 p1 ((p0.length : Int)))))) [] kr kr (.refl _) .nil
theorem laws_szTree_ok (u : Nat) (p0 : Tree) (p1 : Int) (r : Int) (h : laws_szTree u p0 p1 = some r) : CallOK Try.prog 53 [.agg [.t (.sl 1 (p0.fUp.map (eInt .i64)))], .one (.t (.int .i64 p1))] (.one (.t (.int .i64 r))) [] := by
  unfold laws_szTree at h
  refine CallOK.of_bodyK (fn := Try.f53) (m := false) [.agg [.t (.sl 1 (p0.fUp.map (eInt .i64)))], .t (.int .i64 p1)] kr rfl kr kr kr kr kr ?_
  refine Wp.srg [] [] ?_
  refine Runs.alln ?_
  refine Wp.fg ⟨[(1, .t (.int .i64 p1)), (2, .obj 2 0), (4, .t (.int .i64 0))], [(2, [.t (.sl 1 (p0.fUp.map (eInt .i64)))])], []⟩ ?_
  refine Wp.srg [] [] ?_
  refine Runs.batch 3 kr ?_
  obtain ⟨r1, e_r1, h⟩ := bind_some h
  refine Runs.callK false 8 107 [] [.t (.sl 1 (p0.fUp.map (eInt .i64))), .t (.int .i64 p1)] [.one (.t (.sl 1 (p0.fUp.map (eInt .i64)))), .one (.t (.int .i64 p1))] (.one (.t (.int .i64 r1))) [] rfl rfl kr kr kr kr kr (laws_szIntS_ok u p0.fUp p1 r1 e_r1) kr ?_
  refine Runs.alln ?_
  refine Wp.fg ⟨[(1, .t (.int .i64 r1)), (4, .t (.int .i64 0))], [], []⟩ ?_
  refine Wp.seq ?_
  refine Wp.srg [] [] ?_
  refine Runs.alln ?_
  refine Wp.fg ⟨[(1, .t (.int .i64 r1)), (4, .t (.int .i64 0)), (10, .t (.bool (decide (r1 < 0))))], [], []⟩ ?_
  refine Wp.cond2 (b := decide (r1 < 0)) kr (fun hc => ?_) (fun hc => ?_)
  · have h := cond_t h hc
    refine Wp.srg [] [] ?_
    refine Runs.alln ?_
    refine Wp.fg ⟨[(1, .t (.int .i64 r1)), (4, .t (.int .i64 (-1)))], [], []⟩ ?_
    refine Wp.ret ?_
    refine thenR ?_
    have hr := Option.some.inj h
    subst hr
    exact RetK [.t (.int .i64 (-1))] (.one (.t (.int .i64 (-1)))) [] kr kr (.refl _) .nil
  · have h := cond_f h hc
    refine Wp.skip ?_
    refine thenN ?_
    refine Wp.srg [] [] ?_
    refine Runs.alln ?_
    refine Wp.fg ⟨[(4, .t (.int .i64 r1))], [], []⟩ ?_
    refine Wp.ret ?_
    have hr := Option.some.inj h
    subst hr
    exact RetK [.t (.int .i64 r1)] (.one (.t (.int .i64 r1))) [] kr kr (.refl _) .nil
theorem laws_szByteS_ok (u : Nat) (p0 : List Int) (p1 : Int) (r : Int) (h : laws_szByteS u p0 p1 = some r) : CallOK Try.prog 54 [.one (.t (.sl 1 (p0.map (eInt .u8)))), .one (.t (.int .i64 p1))] (.one (.t (.int .i64 r))) [] := by
  unfold laws_szByteS at h
  refine CallOK.of_bodyK (fn := Try.f54) (m := false) [.t (.sl 1 (p0.map (eInt .u8))), .t (.int .i64 p1)] kr rfl kr kr kr kr kr ?_
  refine Wp.srg [] [] ?_
  refine Runs.alln ?_
  refine Wp.fg ⟨[(0, .t (.sl 1 (p0.map (eInt .u8)))), (1, .t (.int .i64 p1)), (4, .t (.int .i64 0))], [], []⟩ ?_
  refine Wp.srg [] [] ?_
  refine Runs.batch 2 kr ?_
  refine Runs.lenT (y := .t (.sl 1 (p0.map (eInt .u8)))) (e := 5) (eInt .u8) p0 1 rfl rfl rfl kr kr kr kr kr ?_
  refine Runs.alln ?_
  refine Wp.fg ⟨[(1, .t (.int .i64 (bSub .i64 p1 ((p0.length : Int))))), (4, .t (.int .i64 0))], [], []⟩ ?_
  refine Wp.seq ?_
  refine Wp.srg [] [] ?_
  refine Runs.alln ?_
  refine Wp.fg ⟨[(1, .t (.int .i64 (bSub .i64 p1 ((p0.length : Int))))), (4, .t (.int .i64 0)), (10, .t (.bool (decide ((bSub .i64 p1 ((p0.length : Int))) < 0))))], [], []⟩ ?_
  refine Wp.cond2 (b := decide ((bSub .i64 p1 ((p0.length : Int))) < 0)) kr (fun hc => ?_) (fun hc => ?_)
  · have h := cond_t h hc
    refine Wp.srg [] [] ?_
    refine Runs.alln ?_
    refine Wp.fg ⟨[(1, .t (.int .i64 (bSub .i64 p1 ((p0.length : Int))))), (4, .t (.int .i64 (-1)))], [], []⟩ ?_
    refine Wp.ret ?_
    refine thenR ?_
    have hr := Option.some.inj h
    subst hr
    exact RetK [.t (.int .i64 (-1))] (.one (.t (.int .i64 (-1)))) [] kr kr (.refl _) .nil
  · have h := cond_f h hc
    refine Wp.skip ?_
    refine thenN ?_
    refine Wp.srg [] [] ?_
    refine Runs.alln ?_
    refine Wp.fg ⟨[(4, .t (.int .i64 (bSub .i64 p1 ((p0.length : Int)))))], [], []⟩ ?_
    refine Wp.ret ?_
    have hr := Option.some.inj h
    subst hr
    exact RetK [.t (.int .i64 (bSub .i64 p1 ((p0.length : Int))))] (.one (.t (.int .i64 (bSub .i64 p1 ((p0.length : Int)))))) [] kr kr (.refl _) .nil
theorem laws_szImage_ok (u : Nat) (p0 : Image) (p1 : Int) (r : Int) (h : laws_szImage u p0 p1 = some r) : CallOK Try.prog 42 [.agg [.t (.sl 1 (p0.fB.map (eInt .u8)))], .one (.t (.int .i64 p1))] (.one (.t (.int .i64 r))) [] := by
  unfold laws_szImage at h
  refine CallOK.of_bodyK (fn := Try.f42) (m := false) [.agg [.t (.sl 1 (p0.fB.map (eInt .u8)))], .t (.int .i64 p1)] kr rfl kr kr kr kr kr ?_
  refine Wp.srg [] [] ?_
  refine Runs.alln ?_
  refine Wp.fg ⟨[(1, .t (.int .i64 p1)), (2, .obj 2 0), (4, .t (.int .i64 0))], [(2, [.t (.sl 1 (p0.fB.map (eInt .u8)))])], []⟩ ?_
  refine Wp.srg [] [] ?_
  refine Runs.batch 3 kr ?_
  obtain ⟨r1, e_r1, h⟩ := bind_some h
  refine Runs.callK false 8 54 [] [.t (.sl 1 (p0.fB.map (eInt .u8))), .t (.int .i64 p1)] [.one (.t (.sl 1 (p0.fB.map (eInt .u8)))), .one (.t (.int .i64 p1))] (.one (.t (.int .i64 r1))) [] rfl rfl kr kr kr kr kr (laws_szByteS_ok u p0.fB p1 r1 e_r1) kr ?_
  refine Runs.alln ?_
  refine Wp.fg ⟨[(1, .t (.int .i64 r1)), (4, .t (.int .i64 0))], [], []⟩ ?_
  refine Wp.seq ?_
  refine Wp.srg [] [] ?_
  refine Runs.alln ?_
  refine Wp.fg ⟨[(1, .t (.int .i64 r1)), (4, .t (.int .i64 0)), (10, .t (.bool (decide (r1 < 0))))], [], []⟩ ?_
  refine Wp.cond2 (b := decide (r1 < 0)) kr (fun hc => ?_) (fun hc => ?_)
  · have h := cond_t h hc
    refine Wp.srg [] [] ?_
    refine Runs.alln ?_
    refine Wp.fg ⟨[(1, .t (.int .i64 r1)), (4, .t (.int .i64 (-1)))], [], []⟩ ?_
    refine Wp.ret ?_
    refine thenR ?_
    have hr := Option.some.inj h
    subst hr
    exact RetK [.t (.int .i64 (-1))] (.one (.t (.int .i64 (-1)))) [] kr kr (.refl _) .nil
  · have h := cond_f h hc
    refine Wp.skip ?_
    refine thenN ?_
    refine Wp.srg [] [] ?_
    refine Runs.alln ?_
    refine Wp.fg ⟨[(4, .t (.int .i64 r1))], [], []⟩ ?_
    refine Wp.ret ?_
    have hr := Option.some.inj h
    subst hr
    exact RetK [.t (.int .i64 r1)] (.one (.t (.int .i64 r1))) [] kr kr (.refl _) .nil
theorem laws_szImageS_ok (u : Nat) (p0 : List Image) (p1 : Int) (r : Int) (h : laws_szImageS u p0 p1 = some r) : CallOK Try.prog 17 [.one (.t (.sl 1 (p0.map Image.enc))), .one (.t (.int .i64 p1))] (.one (.t (.int .i64 r))) [] := by
  unfold laws_szImageS at h
  refine CallOK.of_bodyK (fn := Try.f17) (m := false) [.t (.sl 1 (p0.map Image.enc)), .t (.int .i64 p1)] kr rfl kr kr kr kr kr ?_
  refine Wp.srg [] [] ?_
  refine Runs.alln ?_
  refine Wp.fg ⟨[(0, .t (.sl 1 (p0.map Image.enc))), (1, .t (.int .i64 p1)), (4, .t (.int .i64 0))], [], []⟩ ?_
  refine Wp.srg [] [] ?_
  refine Runs.batch 2 kr ?_
  refine Runs.lenT (y := .t (.sl 1 (p0.map Image.enc))) (e := 70) Image.enc p0 1 rfl rfl rfl kr kr kr kr kr ?_
  refine Runs.alln ?_
  refine Wp.fg ⟨[(0, .t (.sl 1 (p0.map Image.enc))), (1, .t (.int .i64 (bSub .i64 p1 ((p0.length : Int))))), (4, .t (.int .i64 0))], [], []⟩ ?_
  refine Wp.seq ?_
  refine Wp.srg [] [] ?_
  refine Runs.alln ?_
  refine Wp.fg ⟨[(0, .t (.sl 1 (p0.map Image.enc))), (1, .t (.int .i64 (bSub .i64 p1 ((p0.length : Int))))), (4, .t (.int .i64 0)), (11, .t (.bool (decide ((bSub .i64 p1 ((p0.length : Int))) < 0))))], [], []⟩ ?_
  refine Wp.cond2 (b := decide ((bSub .i64 p1 ((p0.length : Int))) < 0)) kr (fun hc => ?_) (fun hc => ?_)
  · have h := cond_t h hc
    refine Wp.srg [] [] ?_
    refine Runs.alln ?_
    refine Wp.fg ⟨[(0, .t (.sl 1 (p0.map Image.enc))), (1, .t (.int .i64 (bSub .i64 p1 ((p0.length : Int))))), (4, .t (.int .i64 (-1)))], [], []⟩ ?_
    refine Wp.ret ?_
    refine thenR ?_
    have hr := Option.some.inj h
    subst hr
    exact RetK [.t (.int .i64 (-1))] (.one (.t (.int .i64 (-1)))) [] kr kr (.refl _) .nil
  · have h := cond_f h hc
    refine Wp.skip ?_
    refine thenN ?_
    refine Wp.seqJ (α := Int) (fun a => ⟨[(1, .t (.int .i64 a)), (4, .t (.int .i64 0))], [], []⟩) (fun a => laws_szImageS_j1 u a = some r) ?_ ?_
    · rintro x9 h
      change laws_szImageS_j1 u x9 = some r at h
      unfold laws_szImageS_j1 at h
      refine Wp.srg [] [] ?_
      refine Runs.alln ?_
      refine Wp.fg ⟨[(4, .t (.int .i64 x9))], [], []⟩ ?_
      refine Wp.ret ?_
      have hr := Option.some.inj h
      subst hr
      exact RetK [.t (.int .i64 x9)] (.one (.t (.int .i64 x9))) [] kr kr (.refl _) .nil
    · refine Wp.srg [] [] ?_
      refine Runs.alln ?_
      refine Wp.fg ⟨[(0, .t (.sl 1 (p0.map Image.enc))), (1, .t (.int .i64 (bSub .i64 p1 ((p0.length : Int))))), (4, .t (.int .i64 0)), (5, .t (.int .i64 0))], [], []⟩ ?_
      refine Wp.block ?_
      refine Wp.loopF (α := (List Image) × Int × Int) (fun a => ⟨[(0, .t (.sl 1 (a.1.map Image.enc))), (1, .t (.int .i64 a.2.1)), (4, .t (.int .i64 0)), (5, .t (.int .i64 a.2.2))], [], []⟩) (fun k_laws_szImageS_l2 a => laws_szImageS_l2 u k_laws_szImageS_l2 a.1 a.2.1 a.2.2 = some r) ?_ ?_ u (p0, bSub .i64 p1 ((p0.length : Int)), 0) h (Le.of (mo := []) (mr := []) kr kr kr kr)
      · intro a h; unfold laws_szImageS_l2 at h; cases h
      · rintro k_laws_szImageS_l2 ⟨p0, x3, x4⟩ h
        change laws_szImageS_l2 u (k_laws_szImageS_l2 + 1) p0 x3 x4 = some r at h
        rw [laws_szImageS_l2] at h
        refine Wp.seq ?_
        refine Wp.srg [] [] ?_
        refine Runs.batch 2 kr ?_
        refine Runs.lenT (y := .t (.sl 1 (p0.map Image.enc))) (e := 70) Image.enc p0 1 rfl rfl rfl kr kr kr kr kr ?_
        refine Runs.alln ?_
        refine Wp.fg ⟨[(0, .t (.sl 1 (p0.map Image.enc))), (1, .t (.int .i64 x3)), (4, .t (.int .i64 0)), (5, .t (.int .i64 x4)), (12, .t (.int .i64 x4)), (13, .t (.sl 1 (p0.map Image.enc))), (14, .t (.int .i64 ((p0.length : Int)))), (15, .t (.bool (decide (x4 < ((p0.length : Int))))))], [], []⟩ ?_
        refine Wp.cond2 (b := decide (x4 < ((p0.length : Int)))) kr (fun hc => ?_) (fun hc => ?_)
        · have h := cond_t h hc
          refine Wp.skip ?_
          refine thenN ?_
          refine Wp.seq ?_
          refine Wp.block ?_
          refine Wp.srg [] [] ?_
          refine Runs.batch 2 kr ?_
          obtain ⟨y7, e_y7, h⟩ := bind_some h
          refine Runs.idxT (e := 70) (kk := .i64) (sz := 1) Image.enc p0 x4 rfl kr kr kr kr kr kr e_y7 ?_
          refine Runs.batch 2 kr ?_
          obtain ⟨r8, e_r8, h⟩ := bind_some h
          refine Runs.callK false 23 42 [] [.agg [.t (.sl 1 (y7.fB.map (eInt .u8)))], .t (.int .i64 x3)] [.agg [.t (.sl 1 (y7.fB.map (eInt .u8)))], .one (.t (.int .i64 x3))] (.one (.t (.int .i64 r8))) [] rfl rfl kr kr kr kr kr (laws_szImage_ok u y7 x3 r8 e_r8) kr ?_
          refine Runs.alln ?_
          refine Wp.fg ⟨[(0, .t (.sl 1 (p0.map Image.enc))), (1, .t (.int .i64 r8)), (4, .t (.int .i64 0)), (5, .t (.int .i64 x4)), (12, .t (.int .i64 x4)), (13, .t (.sl 1 (p0.map Image.enc))), (14, .t (.int .i64 ((p0.length : Int)))), (15, .t (.bool (decide (x4 < ((p0.length : Int)))))), (18, .t (.sl 1 (p0.map Image.enc))), (19, .t (.int .i64 x4)), (20, .fadr [.sl 1 (y7.fB.map (eInt .u8))]), (21, .agg [.t (.sl 1 (y7.fB.map (eInt .u8)))]), (22, .t (.int .i64 x3)), (23, .t (.int .i64 r8))], [], []⟩ ?_
          refine Wp.srg [] [] ?_
          refine Runs.alln ?_
          refine Wp.fg ⟨[(0, .t (.sl 1 (p0.map Image.enc))), (1, .t (.int .i64 r8)), (4, .t (.int .i64 0)), (5, .t (.int .i64 x4)), (12, .t (.int .i64 x4)), (13, .t (.sl 1 (p0.map Image.enc))), (14, .t (.int .i64 ((p0.length : Int)))), (15, .t (.bool (decide (x4 < ((p0.length : Int)))))), (18, .t (.sl 1 (p0.map Image.enc))), (19, .t (.int .i64 x4)), (20, .fadr [.sl 1 (y7.fB.map (eInt .u8))]), (21, .agg [.t (.sl 1 (y7.fB.map (eInt .u8)))]), (22, .t (.int .i64 x3)), (23, .t (.int .i64 r8)), (24, .t (.int .i64 r8)), (25, .t (.bool (decide (r8 < 0))))], [], []⟩ ?_
          refine Wp.cond2 (b := decide (r8 < 0)) kr (fun hc => ?_) (fun hc => ?_)
          · have h := cond_t h hc
            refine Wp.srg [] [] ?_
            refine Runs.alln ?_
            refine Wp.fg ⟨[(0, .t (.sl 1 (p0.map Image.enc))), (1, .t (.int .i64 r8)), (4, .t (.int .i64 (-1))), (5, .t (.int .i64 x4)), (12, .t (.int .i64 x4)), (13, .t (.sl 1 (p0.map Image.enc))), (14, .t (.int .i64 ((p0.length : Int)))), (15, .t (.bool (decide (x4 < ((p0.length : Int)))))), (18, .t (.sl 1 (p0.map Image.enc))), (19, .t (.int .i64 x4)), (20, .fadr [.sl 1 (y7.fB.map (eInt .u8))]), (21, .agg [.t (.sl 1 (y7.fB.map (eInt .u8)))]), (22, .t (.int .i64 x3)), (23, .t (.int .i64 r8)), (24, .t (.int .i64 r8)), (25, .t (.bool (decide (r8 < 0))))], [], []⟩ ?_
            refine Wp.ret ?_
            refine blkR ?_
            refine thenR ?_
            refine thenR ?_
            refine blkR ?_
            refine thenR ?_
            have hr := Option.some.inj h
            subst hr
            exact RetK [.t (.int .i64 (-1))] (.one (.t (.int .i64 (-1)))) [] kr kr (.refl _) .nil
          · have h := cond_f h hc
            refine Wp.skip ?_
            refine blkN ?_
            refine thenN ?_
            refine Wp.rg [] [] ?_
            refine Runs.alln ?_
            exact ⟨(p0, r8, bAdd .i64 x4 1), h, Le.of (mo := []) (mr := []) kr kr kr kr⟩
        · have h := cond_f h hc
          refine Wp.exit ?_
          refine thenE ?_
          refine thenE ?_
          refine blkE ?_
          refine thenN ?_
          exact ⟨x3, h, Le.of (mo := []) (mr := []) kr kr kr kr⟩
theorem laws_szSumS_ok (u : Nat) (p0 : List Sum) (p1 : Int) (r : Int) (h : laws_szSumS u p0 p1 = some r) : CallOK Try.prog 181 [.one (.t (.sl 2 (p0.map Sum.enc))), .one (.t (.int .i64 p1))] (.one (.t (.int .i64 r))) [] := by
  unfold laws_szSumS at h
  refine CallOK.of_bodyK (fn := Try.f181) (m := false) [.t (.sl 2 (p0.map Sum.enc)), .t (.int .i64 p1)] kr rfl kr kr kr kr kr ?_
  refine Wp.srg [] [] ?_
  refine Runs.alln ?_
  refine Wp.fg ⟨[(0, .t (.sl 2 (p0.map Sum.enc))), (1, .t (.int .i64 p1)), (4, .t (.int .i64 0))], [], []⟩ ?_
  refine Wp.srg [] [] ?_
  refine Runs.batch 2 kr ?_
  refine Runs.lenT (y := .t (.sl 2 (p0.map Sum.enc))) (e := 208) Sum.enc p0 2 rfl rfl rfl kr kr kr kr kr ?_
  refine Runs.alln ?_
  refine Wp.fg ⟨[(1, .t (.int .i64 (bSub .i64 p1 ((p0.length : Int))))), (4, .t (.int .i64 0))], [], []⟩ ?_
  refine Wp.seq ?_
  refine Wp.srg [] [] ?_
  refine Runs.alln ?_
  refine Wp.fg ⟨[(1, .t (.int .i64 (bSub .i64 p1 ((p0.length : Int))))), (4, .t (.int .i64 0)), (10, .t (.bool (decide ((bSub .i64 p1 ((p0.length : Int))) < 0))))], [], []⟩ ?_
  refine Wp.cond2 (b := decide ((bSub .i64 p1 ((p0.length : Int))) < 0)) kr (fun hc => ?_) (fun hc => ?_)
  · have h := cond_t h hc
    refine Wp.srg [] [] ?_
    refine Runs.alln ?_
    refine Wp.fg ⟨[(1, .t (.int .i64 (bSub .i64 p1 ((p0.length : Int))))), (4, .t (.int .i64 (-1)))], [], []⟩ ?_
    refine Wp.ret ?_
    refine thenR ?_
    have hr := Option.some.inj h
    subst hr
    exact RetK [.t (.int .i64 (-1))] (.one (.t (.int .i64 (-1)))) [] kr kr (.refl _) .nil
  · have h := cond_f h hc
    refine Wp.skip ?_
    refine thenN ?_
    refine Wp.srg [] [] ?_
    refine Runs.alln ?_
    refine Wp.fg ⟨[(4, .t (.int .i64 (bSub .i64 p1 ((p0.length : Int)))))], [], []⟩ ?_
    refine Wp.ret ?_
    have hr := Option.some.inj h
    subst hr
    exact RetK [.t (.int .i64 (bSub .i64 p1 ((p0.length : Int))))] (.one (.t (.int .i64 (bSub .i64 p1 ((p0.length : Int)))))) [] kr kr (.refl _) .nil
theorem laws_szManifest_ok (u : Nat) (p0 : Manifest) (p1 : Int) (r : Int) (h : laws_szManifest u p0 p1 = some r) : CallOK Try.prog 149 [.agg [.t (.int .i64 p0.fGen), .t (.int .i64 p0.fSize), .t (.int .i64 p0.fLen), .t (.sl 2 (p0.fSums.map Sum.enc))], .one (.t (.int .i64 p1))] (.one (.t (.int .i64 r))) [] := by
  unfold laws_szManifest at h
  refine CallOK.of_bodyK (fn := Try.f149) (m := false) [.agg ((Manifest.enc p0).map .t), .t (.int .i64 p1)] kr rfl kr kr kr kr kr ?_
  refine Wp.srg [] [] ?_
  refine Runs.alln ?_
  refine Wp.fg ⟨[(1, .t (.int .i64 p1)), (2, .obj 2 0), (4, .t (.int .i64 0))], [(2, ((Manifest.enc p0).map .t))], []⟩ ?_
  refine Wp.srg [] [] ?_
  refine Runs.batch 3 kr ?_
  obtain ⟨r1, e_r1, h⟩ := bind_some h
  refine Runs.callK false 8 181 [] [.t (.sl 2 (p0.fSums.map Sum.enc)), .t (.int .i64 p1)] [.one (.t (.sl 2 (p0.fSums.map Sum.enc))), .one (.t (.int .i64 p1))] (.one (.t (.int .i64 r1))) [] rfl rfl kr kr kr kr kr (laws_szSumS_ok u p0.fSums p1 r1 e_r1) kr ?_
  refine Runs.alln ?_
  refine Wp.fg ⟨[(1, .t (.int .i64 r1)), (4, .t (.int .i64 0))], [], []⟩ ?_
  refine Wp.seq ?_
  refine Wp.srg [] [] ?_
  refine Runs.alln ?_
  refine Wp.fg ⟨[(1, .t (.int .i64 r1)), (4, .t (.int .i64 0)), (10, .t (.bool (decide (r1 < 0))))], [], []⟩ ?_
  refine Wp.cond2 (b := decide (r1 < 0)) kr (fun hc => ?_) (fun hc => ?_)
  · have h := cond_t h hc
    refine Wp.srg [] [] ?_
    refine Runs.alln ?_
    refine Wp.fg ⟨[(1, .t (.int .i64 r1)), (4, .t (.int .i64 (-1)))], [], []⟩ ?_
    refine Wp.ret ?_
    refine thenR ?_
    have hr := Option.some.inj h
    subst hr
    exact RetK [.t (.int .i64 (-1))] (.one (.t (.int .i64 (-1)))) [] kr kr (.refl _) .nil
  · have h := cond_f h hc
    refine Wp.skip ?_
    refine thenN ?_
    refine Wp.srg [] [] ?_
    refine Runs.alln ?_
    refine Wp.fg ⟨[(4, .t (.int .i64 r1))], [], []⟩ ?_
    refine Wp.ret ?_
    have hr := Option.some.inj h
    subst hr
    exact RetK [.t (.int .i64 r1)] (.one (.t (.int .i64 r1))) [] kr kr (.refl _) .nil
theorem laws_szBuild_ok (u : Nat) (p0 : Build) (p1 : Int) (r : Int) (h : laws_szBuild u p0 p1 = some r) : CallOK Try.prog 150 [.agg [.t (.int .i64 p0.fHave), .t (.sl 1 (p0.fBuf.map (eInt .u8)))], .one (.t (.int .i64 p1))] (.one (.t (.int .i64 r))) [] := by
  unfold laws_szBuild at h
  refine CallOK.of_bodyK (fn := Try.f150) (m := false) [.agg [.t (.int .i64 p0.fHave), .t (.sl 1 (p0.fBuf.map (eInt .u8)))], .t (.int .i64 p1)] kr rfl kr kr kr kr kr ?_
  refine Wp.srg [] [] ?_
  refine Runs.alln ?_
  refine Wp.fg ⟨[(1, .t (.int .i64 p1)), (2, .obj 2 0), (4, .t (.int .i64 0))], [(2, [.t (.int .i64 p0.fHave), .t (.sl 1 (p0.fBuf.map (eInt .u8)))])], []⟩ ?_
  refine Wp.srg [] [] ?_
  refine Runs.batch 3 kr ?_
  obtain ⟨r1, e_r1, h⟩ := bind_some h
  refine Runs.callK false 8 54 [] [.t (.sl 1 (p0.fBuf.map (eInt .u8))), .t (.int .i64 p1)] [.one (.t (.sl 1 (p0.fBuf.map (eInt .u8)))), .one (.t (.int .i64 p1))] (.one (.t (.int .i64 r1))) [] rfl rfl kr kr kr kr kr (laws_szByteS_ok u p0.fBuf p1 r1 e_r1) kr ?_
  refine Runs.alln ?_
  refine Wp.fg ⟨[(1, .t (.int .i64 r1)), (4, .t (.int .i64 0))], [], []⟩ ?_
  refine Wp.seq ?_
  refine Wp.srg [] [] ?_
  refine Runs.alln ?_
  refine Wp.fg ⟨[(1, .t (.int .i64 r1)), (4, .t (.int .i64 0)), (10, .t (.bool (decide (r1 < 0))))], [], []⟩ ?_
  refine Wp.cond2 (b := decide (r1 < 0)) kr (fun hc => ?_) (fun hc => ?_)
  · have h := cond_t h hc
    refine Wp.srg [] [] ?_
    refine Runs.alln ?_
    refine Wp.fg ⟨[(1, .t (.int .i64 r1)), (4, .t (.int .i64 (-1)))], [], []⟩ ?_
    refine Wp.ret ?_
    refine thenR ?_
    have hr := Option.some.inj h
    subst hr
    exact RetK [.t (.int .i64 (-1))] (.one (.t (.int .i64 (-1)))) [] kr kr (.refl _) .nil
  · have h := cond_f h hc
    refine Wp.skip ?_
    refine thenN ?_
    refine Wp.srg [] [] ?_
    refine Runs.alln ?_
    refine Wp.fg ⟨[(4, .t (.int .i64 r1))], [], []⟩ ?_
    refine Wp.ret ?_
    have hr := Option.some.inj h
    subst hr
    exact RetK [.t (.int .i64 r1)] (.one (.t (.int .i64 r1))) [] kr kr (.refl _) .nil
theorem laws_szKidS_ok (u : Nat) (p0 : List Kid) (p1 : Int) (r : Int) (h : laws_szKidS u p0 p1 = some r) : CallOK Try.prog 151 [.one (.t (.sl 5 (p0.map Kid.enc))), .one (.t (.int .i64 p1))] (.one (.t (.int .i64 r))) [] := by
  unfold laws_szKidS at h
  refine CallOK.of_bodyK (fn := Try.f151) (m := false) [.t (.sl 5 (p0.map Kid.enc)), .t (.int .i64 p1)] kr rfl kr kr kr kr kr ?_
  refine Wp.srg [] [] ?_
  refine Runs.alln ?_
  refine Wp.fg ⟨[(0, .t (.sl 5 (p0.map Kid.enc))), (1, .t (.int .i64 p1)), (4, .t (.int .i64 0))], [], []⟩ ?_
  refine Wp.srg [] [] ?_
  refine Runs.batch 2 kr ?_
  refine Runs.lenT (y := .t (.sl 5 (p0.map Kid.enc))) (e := 199) Kid.enc p0 5 rfl rfl rfl kr kr kr kr kr ?_
  refine Runs.alln ?_
  refine Wp.fg ⟨[(1, .t (.int .i64 (bSub .i64 p1 ((p0.length : Int))))), (4, .t (.int .i64 0))], [], []⟩ ?_
  refine Wp.seq ?_
  refine Wp.srg [] [] ?_
  refine Runs.alln ?_
  refine Wp.fg ⟨[(1, .t (.int .i64 (bSub .i64 p1 ((p0.length : Int))))), (4, .t (.int .i64 0)), (10, .t (.bool (decide ((bSub .i64 p1 ((p0.length : Int))) < 0))))], [], []⟩ ?_
  refine Wp.cond2 (b := decide ((bSub .i64 p1 ((p0.length : Int))) < 0)) kr (fun hc => ?_) (fun hc => ?_)
  · have h := cond_t h hc
    refine Wp.srg [] [] ?_
    refine Runs.alln ?_
    refine Wp.fg ⟨[(1, .t (.int .i64 (bSub .i64 p1 ((p0.length : Int))))), (4, .t (.int .i64 (-1)))], [], []⟩ ?_
    refine Wp.ret ?_
    refine thenR ?_
    have hr := Option.some.inj h
    subst hr
    exact RetK [.t (.int .i64 (-1))] (.one (.t (.int .i64 (-1)))) [] kr kr (.refl _) .nil
  · have h := cond_f h hc
    refine Wp.skip ?_
    refine thenN ?_
    refine Wp.srg [] [] ?_
    refine Runs.alln ?_
    refine Wp.fg ⟨[(4, .t (.int .i64 (bSub .i64 p1 ((p0.length : Int)))))], [], []⟩ ?_
    refine Wp.ret ?_
    have hr := Option.some.inj h
    subst hr
    exact RetK [.t (.int .i64 (bSub .i64 p1 ((p0.length : Int))))] (.one (.t (.int .i64 (bSub .i64 p1 ((p0.length : Int)))))) [] kr kr (.refl _) .nil
theorem laws_szNode_ok (u : Nat) (p0 : Node) (p1 : Int) (r : Int) (h : laws_szNode u p0 p1 = some r) : CallOK Try.prog 108 [.agg [.t (.bool p0.fOn), .t (.int .i64 p0.fBoss), .t (.int .i64 p0.fQuiet), .t (.int .i64 p0.fMan.fGen), .t (.int .i64 p0.fMan.fSize), .t (.int .i64 p0.fMan.fLen), .t (.sl 2 (p0.fMan.fSums.map Sum.enc)), .t (.int .i64 p0.fBld.fHave), .t (.sl 1 (p0.fBld.fBuf.map (eInt .u8))), .t (.int .i64 p0.fPhase), .t (.sl 5 (p0.fKids.map Kid.enc)), .t (.int .i64 p0.fDrops)], .one (.t (.int .i64 p1))] (.one (.t (.int .i64 r))) [] := by
  unfold laws_szNode at h
  refine CallOK.of_bodyK (fn := Try.f108) (m := false) [.agg ((Node.enc p0).map .t), .t (.int .i64 p1)] kr rfl kr kr kr kr kr ?_
  refine Wp.srg [] [] ?_
  refine Runs.alln ?_
  refine Wp.fg ⟨[(1, .t (.int .i64 p1)), (2, .obj 2 0), (4, .t (.int .i64 0))], [(2, ((Node.enc p0).map .t))], []⟩ ?_
  refine Wp.srg [] [] ?_
  refine Runs.batch 3 kr ?_
  obtain ⟨r1, e_r1, h⟩ := bind_some h
  refine Runs.callK false 8 149 [] [.agg ((Manifest.enc p0.fMan).map .t), .t (.int .i64 p1)] [.agg ((Manifest.enc p0.fMan).map .t), .one (.t (.int .i64 p1))] (.one (.t (.int .i64 r1))) [] rfl rfl kr kr kr kr kr (laws_szManifest_ok u p0.fMan p1 r1 e_r1) kr ?_
  refine Runs.alln ?_
  refine Wp.fg ⟨[(1, .t (.int .i64 r1)), (2, .obj 2 0), (4, .t (.int .i64 0))], [(2, ((Node.enc p0).map .t))], []⟩ ?_
  refine Wp.seq ?_
  refine Wp.srg [] [] ?_
  refine Runs.alln ?_
  refine Wp.fg ⟨[(1, .t (.int .i64 r1)), (2, .obj 2 0), (4, .t (.int .i64 0)), (10, .t (.bool (decide (r1 < 0))))], [(2, ((Node.enc p0).map .t))], []⟩ ?_
  refine Wp.cond2 (b := decide (r1 < 0)) kr (fun hc => ?_) (fun hc => ?_)
  · have h := cond_t h hc
    refine Wp.srg [] [] ?_
    refine Runs.alln ?_
    refine Wp.fg ⟨[(1, .t (.int .i64 r1)), (2, .obj 2 0), (4, .t (.int .i64 (-1)))], [(2, ((Node.enc p0).map .t))], []⟩ ?_
    refine Wp.ret ?_
    refine thenR ?_
    have hr := Option.some.inj h
    subst hr
    exact RetK [.t (.int .i64 (-1))] (.one (.t (.int .i64 (-1)))) [] kr kr (.refl _) .nil
  · have h := cond_f h hc
    refine Wp.skip ?_
    refine thenN ?_
    refine Wp.srg [] [] ?_
    refine Runs.batch 3 kr ?_
    obtain ⟨r2, e_r2, h⟩ := bind_some h
    refine Runs.callK false 14 150 [] [.agg [.t (.int .i64 p0.fBld.fHave), .t (.sl 1 (p0.fBld.fBuf.map (eInt .u8)))], .t (.int .i64 r1)] [.agg [.t (.int .i64 p0.fBld.fHave), .t (.sl 1 (p0.fBld.fBuf.map (eInt .u8)))], .one (.t (.int .i64 r1))] (.one (.t (.int .i64 r2))) [] rfl rfl kr kr kr kr kr (laws_szBuild_ok u p0.fBld r1 r2 e_r2) kr ?_
    refine Runs.alln ?_
    refine Wp.fg ⟨[(1, .t (.int .i64 r2)), (2, .obj 2 0), (4, .t (.int .i64 0))], [(2, ((Node.enc p0).map .t))], []⟩ ?_
    refine Wp.seq ?_
    refine Wp.srg [] [] ?_
    refine Runs.alln ?_
    refine Wp.fg ⟨[(1, .t (.int .i64 r2)), (2, .obj 2 0), (4, .t (.int .i64 0)), (16, .t (.bool (decide (r2 < 0))))], [(2, ((Node.enc p0).map .t))], []⟩ ?_
    refine Wp.cond2 (b := decide (r2 < 0)) kr (fun hc => ?_) (fun hc => ?_)
    · have h := cond_t h hc
      refine Wp.srg [] [] ?_
      refine Runs.alln ?_
      refine Wp.fg ⟨[(1, .t (.int .i64 r2)), (2, .obj 2 0), (4, .t (.int .i64 (-1)))], [(2, ((Node.enc p0).map .t))], []⟩ ?_
      refine Wp.ret ?_
      refine thenR ?_
      have hr := Option.some.inj h
      subst hr
      exact RetK [.t (.int .i64 (-1))] (.one (.t (.int .i64 (-1)))) [] kr kr (.refl _) .nil
    · have h := cond_f h hc
      refine Wp.skip ?_
      refine thenN ?_
      refine Wp.srg [] [] ?_
      refine Runs.batch 3 kr ?_
      obtain ⟨r3, e_r3, h⟩ := bind_some h
      refine Runs.callK false 20 151 [] [.t (.sl 5 (p0.fKids.map Kid.enc)), .t (.int .i64 r2)] [.one (.t (.sl 5 (p0.fKids.map Kid.enc))), .one (.t (.int .i64 r2))] (.one (.t (.int .i64 r3))) [] rfl rfl kr kr kr kr kr (laws_szKidS_ok u p0.fKids r2 r3 e_r3) kr ?_
      refine Runs.alln ?_
      refine Wp.fg ⟨[(1, .t (.int .i64 r3)), (4, .t (.int .i64 0))], [], []⟩ ?_
      refine Wp.seq ?_
      refine Wp.srg [] [] ?_
      refine Runs.alln ?_
      refine Wp.fg ⟨[(1, .t (.int .i64 r3)), (4, .t (.int .i64 0)), (22, .t (.bool (decide (r3 < 0))))], [], []⟩ ?_
      refine Wp.cond2 (b := decide (r3 < 0)) kr (fun hc => ?_) (fun hc => ?_)
      · have h := cond_t h hc
        refine Wp.srg [] [] ?_
        refine Runs.alln ?_
        refine Wp.fg ⟨[(1, .t (.int .i64 r3)), (4, .t (.int .i64 (-1)))], [], []⟩ ?_
        refine Wp.ret ?_
        refine thenR ?_
        have hr := Option.some.inj h
        subst hr
        exact RetK [.t (.int .i64 (-1))] (.one (.t (.int .i64 (-1)))) [] kr kr (.refl _) .nil
      · have h := cond_f h hc
        refine Wp.skip ?_
        refine thenN ?_
        refine Wp.srg [] [] ?_
        refine Runs.alln ?_
        refine Wp.fg ⟨[(4, .t (.int .i64 r3))], [], []⟩ ?_
        refine Wp.ret ?_
        have hr := Option.some.inj h
        subst hr
        exact RetK [.t (.int .i64 r3)] (.one (.t (.int .i64 r3))) [] kr kr (.refl _) .nil
theorem laws_szNodeS_ok (u : Nat) (p0 : List Node) (p1 : Int) (r : Int) (h : laws_szNodeS u p0 p1 = some r) : CallOK Try.prog 55 [.one (.t (.sl 12 (p0.map Node.enc))), .one (.t (.int .i64 p1))] (.one (.t (.int .i64 r))) [] := by
  unfold laws_szNodeS at h
  refine CallOK.of_bodyK (fn := Try.f55) (m := false) [.t (.sl 12 (p0.map Node.enc)), .t (.int .i64 p1)] kr rfl kr kr kr kr kr ?_
  refine Wp.srg [] [] ?_
  refine Runs.alln ?_
  refine Wp.fg ⟨[(0, .t (.sl 12 (p0.map Node.enc))), (1, .t (.int .i64 p1)), (4, .t (.int .i64 0))], [], []⟩ ?_
  refine Wp.srg [] [] ?_
  refine Runs.batch 2 kr ?_
  refine Runs.lenT (y := .t (.sl 12 (p0.map Node.enc))) (e := 134) Node.enc p0 12 rfl rfl rfl kr kr kr kr kr ?_
  refine Runs.alln ?_
  refine Wp.fg ⟨[(0, .t (.sl 12 (p0.map Node.enc))), (1, .t (.int .i64 (bSub .i64 p1 ((p0.length : Int))))), (4, .t (.int .i64 0))], [], []⟩ ?_
  refine Wp.seq ?_
  refine Wp.srg [] [] ?_
  refine Runs.alln ?_
  refine Wp.fg ⟨[(0, .t (.sl 12 (p0.map Node.enc))), (1, .t (.int .i64 (bSub .i64 p1 ((p0.length : Int))))), (4, .t (.int .i64 0)), (11, .t (.bool (decide ((bSub .i64 p1 ((p0.length : Int))) < 0))))], [], []⟩ ?_
  refine Wp.cond2 (b := decide ((bSub .i64 p1 ((p0.length : Int))) < 0)) kr (fun hc => ?_) (fun hc => ?_)
  · have h := cond_t h hc
    refine Wp.srg [] [] ?_
    refine Runs.alln ?_
    refine Wp.fg ⟨[(0, .t (.sl 12 (p0.map Node.enc))), (1, .t (.int .i64 (bSub .i64 p1 ((p0.length : Int))))), (4, .t (.int .i64 (-1)))], [], []⟩ ?_
    refine Wp.ret ?_
    refine thenR ?_
    have hr := Option.some.inj h
    subst hr
    exact RetK [.t (.int .i64 (-1))] (.one (.t (.int .i64 (-1)))) [] kr kr (.refl _) .nil
  · have h := cond_f h hc
    refine Wp.skip ?_
    refine thenN ?_
    refine Wp.seqJ (α := Int) (fun a => ⟨[(1, .t (.int .i64 a)), (4, .t (.int .i64 0))], [], []⟩) (fun a => laws_szNodeS_j1 u a = some r) ?_ ?_
    · rintro x9 h
      change laws_szNodeS_j1 u x9 = some r at h
      unfold laws_szNodeS_j1 at h
      refine Wp.srg [] [] ?_
      refine Runs.alln ?_
      refine Wp.fg ⟨[(4, .t (.int .i64 x9))], [], []⟩ ?_
      refine Wp.ret ?_
      have hr := Option.some.inj h
      subst hr
      exact RetK [.t (.int .i64 x9)] (.one (.t (.int .i64 x9))) [] kr kr (.refl _) .nil
    · refine Wp.srg [] [] ?_
      refine Runs.alln ?_
      refine Wp.fg ⟨[(0, .t (.sl 12 (p0.map Node.enc))), (1, .t (.int .i64 (bSub .i64 p1 ((p0.length : Int))))), (4, .t (.int .i64 0)), (5, .t (.int .i64 0))], [], []⟩ ?_
      refine Wp.block ?_
      refine Wp.loopF (α := (List Node) × Int × Int) (fun a => ⟨[(0, .t (.sl 12 (a.1.map Node.enc))), (1, .t (.int .i64 a.2.1)), (4, .t (.int .i64 0)), (5, .t (.int .i64 a.2.2))], [], []⟩) (fun k_laws_szNodeS_l2 a => laws_szNodeS_l2 u k_laws_szNodeS_l2 a.1 a.2.1 a.2.2 = some r) ?_ ?_ u (p0, bSub .i64 p1 ((p0.length : Int)), 0) h (Le.of (mo := []) (mr := []) kr kr kr kr)
      · intro a h; unfold laws_szNodeS_l2 at h; cases h
      · rintro k_laws_szNodeS_l2 ⟨p0, x3, x4⟩ h
        change laws_szNodeS_l2 u (k_laws_szNodeS_l2 + 1) p0 x3 x4 = some r at h
        rw [laws_szNodeS_l2] at h
        refine Wp.seq ?_
        refine Wp.srg [] [] ?_
        refine Runs.batch 2 kr ?_
        refine Runs.lenT (y := .t (.sl 12 (p0.map Node.enc))) (e := 134) Node.enc p0 12 rfl rfl rfl kr kr kr kr kr ?_
        refine Runs.alln ?_
        refine Wp.fg ⟨[(0, .t (.sl 12 (p0.map Node.enc))), (1, .t (.int .i64 x3)), (4, .t (.int .i64 0)), (5, .t (.int .i64 x4)), (12, .t (.int .i64 x4)), (13, .t (.sl 12 (p0.map Node.enc))), (14, .t (.int .i64 ((p0.length : Int)))), (15, .t (.bool (decide (x4 < ((p0.length : Int))))))], [], []⟩ ?_
        refine Wp.cond2 (b := decide (x4 < ((p0.length : Int)))) kr (fun hc => ?_) (fun hc => ?_)
        · have h := cond_t h hc
          refine Wp.skip ?_
          refine thenN ?_
          refine Wp.seq ?_
          refine Wp.block ?_
          refine Wp.srg [] [] ?_
          refine Runs.batch 2 kr ?_
          obtain ⟨y7, e_y7, h⟩ := bind_some h
          refine Runs.idxT (e := 134) (kk := .i64) (sz := 12) Node.enc p0 x4 rfl kr kr kr kr kr kr e_y7 ?_
          refine Runs.batch 2 kr ?_
          obtain ⟨r8, e_r8, h⟩ := bind_some h
          refine Runs.callK false 23 108 [] [.agg ((Node.enc y7).map .t), .t (.int .i64 x3)] [.agg ((Node.enc y7).map .t), .one (.t (.int .i64 x3))] (.one (.t (.int .i64 r8))) [] rfl rfl kr kr kr kr kr (laws_szNode_ok u y7 x3 r8 e_r8) kr ?_
          refine Runs.alln ?_
          refine Wp.fg ⟨[(0, .t (.sl 12 (p0.map Node.enc))), (1, .t (.int .i64 r8)), (4, .t (.int .i64 0)), (5, .t (.int .i64 x4)), (12, .t (.int .i64 x4)), (13, .t (.sl 12 (p0.map Node.enc))), (14, .t (.int .i64 ((p0.length : Int)))), (15, .t (.bool (decide (x4 < ((p0.length : Int)))))), (18, .t (.sl 12 (p0.map Node.enc))), (19, .t (.int .i64 x4)), (20, .fadr (Node.enc y7)), (21, .agg ((Node.enc y7).map .t)), (22, .t (.int .i64 x3)), (23, .t (.int .i64 r8))], [], []⟩ ?_
          refine Wp.srg [] [] ?_
          refine Runs.alln ?_
          refine Wp.fg ⟨[(0, .t (.sl 12 (p0.map Node.enc))), (1, .t (.int .i64 r8)), (4, .t (.int .i64 0)), (5, .t (.int .i64 x4)), (12, .t (.int .i64 x4)), (13, .t (.sl 12 (p0.map Node.enc))), (14, .t (.int .i64 ((p0.length : Int)))), (15, .t (.bool (decide (x4 < ((p0.length : Int)))))), (18, .t (.sl 12 (p0.map Node.enc))), (19, .t (.int .i64 x4)), (20, .fadr (Node.enc y7)), (21, .agg ((Node.enc y7).map .t)), (22, .t (.int .i64 x3)), (23, .t (.int .i64 r8)), (24, .t (.int .i64 r8)), (25, .t (.bool (decide (r8 < 0))))], [], []⟩ ?_
          refine Wp.cond2 (b := decide (r8 < 0)) kr (fun hc => ?_) (fun hc => ?_)
          · have h := cond_t h hc
            refine Wp.srg [] [] ?_
            refine Runs.alln ?_
            refine Wp.fg ⟨[(0, .t (.sl 12 (p0.map Node.enc))), (1, .t (.int .i64 r8)), (4, .t (.int .i64 (-1))), (5, .t (.int .i64 x4)), (12, .t (.int .i64 x4)), (13, .t (.sl 12 (p0.map Node.enc))), (14, .t (.int .i64 ((p0.length : Int)))), (15, .t (.bool (decide (x4 < ((p0.length : Int)))))), (18, .t (.sl 12 (p0.map Node.enc))), (19, .t (.int .i64 x4)), (20, .fadr (Node.enc y7)), (21, .agg ((Node.enc y7).map .t)), (22, .t (.int .i64 x3)), (23, .t (.int .i64 r8)), (24, .t (.int .i64 r8)), (25, .t (.bool (decide (r8 < 0))))], [], []⟩ ?_
            refine Wp.ret ?_
            refine blkR ?_
            refine thenR ?_
            refine thenR ?_
            refine blkR ?_
            refine thenR ?_
            have hr := Option.some.inj h
            subst hr
            exact RetK [.t (.int .i64 (-1))] (.one (.t (.int .i64 (-1)))) [] kr kr (.refl _) .nil
          · have h := cond_f h hc
            refine Wp.skip ?_
            refine blkN ?_
            refine thenN ?_
            refine Wp.rg [] [] ?_
            refine Runs.alln ?_
            exact ⟨(p0, r8, bAdd .i64 x4 1), h, Le.of (mo := []) (mr := []) kr kr kr kr⟩
        · have h := cond_f h hc
          refine Wp.exit ?_
          refine thenE ?_
          refine thenE ?_
          refine blkE ?_
          refine thenN ?_
          exact ⟨x3, h, Le.of (mo := []) (mr := []) kr kr kr kr⟩
theorem laws_szPut_ok (u : Nat) (p0 : Put) (p1 : Int) (r : Int) (h : laws_szPut u p0 p1 = some r) : CallOK Try.prog 182 [.agg [.t (.int .i64 p0.fWhat), .t (.int .i64 p0.fAt), .t (.sl 1 (p0.fB.map (eInt .u8))), .t (.int .i64 p0.fR.fGen), .t (.int .i64 p0.fR.fSlot), .t (.int .i64 p0.fR.fLen)], .one (.t (.int .i64 p1))] (.one (.t (.int .i64 r))) [] := by
  unfold laws_szPut at h
  refine CallOK.of_bodyK (fn := Try.f182) (m := false) [.agg ((Put.enc p0).map .t), .t (.int .i64 p1)] kr rfl kr kr kr kr kr ?_
  refine Wp.srg [] [] ?_
  refine Runs.alln ?_
  refine Wp.fg ⟨[(1, .t (.int .i64 p1)), (2, .obj 2 0), (4, .t (.int .i64 0))], [(2, ((Put.enc p0).map .t))], []⟩ ?_
  refine Wp.srg [] [] ?_
  refine Runs.batch 3 kr ?_
  obtain ⟨r1, e_r1, h⟩ := bind_some h
  refine Runs.callK false 8 54 [] [.t (.sl 1 (p0.fB.map (eInt .u8))), .t (.int .i64 p1)] [.one (.t (.sl 1 (p0.fB.map (eInt .u8)))), .one (.t (.int .i64 p1))] (.one (.t (.int .i64 r1))) [] rfl rfl kr kr kr kr kr (laws_szByteS_ok u p0.fB p1 r1 e_r1) kr ?_
  refine Runs.alln ?_
  refine Wp.fg ⟨[(1, .t (.int .i64 r1)), (4, .t (.int .i64 0))], [], []⟩ ?_
  refine Wp.seq ?_
  refine Wp.srg [] [] ?_
  refine Runs.alln ?_
  refine Wp.fg ⟨[(1, .t (.int .i64 r1)), (4, .t (.int .i64 0)), (10, .t (.bool (decide (r1 < 0))))], [], []⟩ ?_
  refine Wp.cond2 (b := decide (r1 < 0)) kr (fun hc => ?_) (fun hc => ?_)
  · have h := cond_t h hc
    refine Wp.srg [] [] ?_
    refine Runs.alln ?_
    refine Wp.fg ⟨[(1, .t (.int .i64 r1)), (4, .t (.int .i64 (-1)))], [], []⟩ ?_
    refine Wp.ret ?_
    refine thenR ?_
    have hr := Option.some.inj h
    subst hr
    exact RetK [.t (.int .i64 (-1))] (.one (.t (.int .i64 (-1)))) [] kr kr (.refl _) .nil
  · have h := cond_f h hc
    refine Wp.skip ?_
    refine thenN ?_
    refine Wp.srg [] [] ?_
    refine Runs.alln ?_
    refine Wp.fg ⟨[(4, .t (.int .i64 r1))], [], []⟩ ?_
    refine Wp.ret ?_
    have hr := Option.some.inj h
    subst hr
    exact RetK [.t (.int .i64 r1)] (.one (.t (.int .i64 r1))) [] kr kr (.refl _) .nil
theorem laws_szPutS_ok (u : Nat) (p0 : List Put) (p1 : Int) (r : Int) (h : laws_szPutS u p0 p1 = some r) : CallOK Try.prog 152 [.one (.t (.sl 6 (p0.map Put.enc))), .one (.t (.int .i64 p1))] (.one (.t (.int .i64 r))) [] := by
  unfold laws_szPutS at h
  refine CallOK.of_bodyK (fn := Try.f152) (m := false) [.t (.sl 6 (p0.map Put.enc)), .t (.int .i64 p1)] kr rfl kr kr kr kr kr ?_
  refine Wp.srg [] [] ?_
  refine Runs.alln ?_
  refine Wp.fg ⟨[(0, .t (.sl 6 (p0.map Put.enc))), (1, .t (.int .i64 p1)), (4, .t (.int .i64 0))], [], []⟩ ?_
  refine Wp.srg [] [] ?_
  refine Runs.batch 2 kr ?_
  refine Runs.lenT (y := .t (.sl 6 (p0.map Put.enc))) (e := 196) Put.enc p0 6 rfl rfl rfl kr kr kr kr kr ?_
  refine Runs.alln ?_
  refine Wp.fg ⟨[(0, .t (.sl 6 (p0.map Put.enc))), (1, .t (.int .i64 (bSub .i64 p1 ((p0.length : Int))))), (4, .t (.int .i64 0))], [], []⟩ ?_
  refine Wp.seq ?_
  refine Wp.srg [] [] ?_
  refine Runs.alln ?_
  refine Wp.fg ⟨[(0, .t (.sl 6 (p0.map Put.enc))), (1, .t (.int .i64 (bSub .i64 p1 ((p0.length : Int))))), (4, .t (.int .i64 0)), (11, .t (.bool (decide ((bSub .i64 p1 ((p0.length : Int))) < 0))))], [], []⟩ ?_
  refine Wp.cond2 (b := decide ((bSub .i64 p1 ((p0.length : Int))) < 0)) kr (fun hc => ?_) (fun hc => ?_)
  · have h := cond_t h hc
    refine Wp.srg [] [] ?_
    refine Runs.alln ?_
    refine Wp.fg ⟨[(0, .t (.sl 6 (p0.map Put.enc))), (1, .t (.int .i64 (bSub .i64 p1 ((p0.length : Int))))), (4, .t (.int .i64 (-1)))], [], []⟩ ?_
    refine Wp.ret ?_
    refine thenR ?_
    have hr := Option.some.inj h
    subst hr
    exact RetK [.t (.int .i64 (-1))] (.one (.t (.int .i64 (-1)))) [] kr kr (.refl _) .nil
  · have h := cond_f h hc
    refine Wp.skip ?_
    refine thenN ?_
    refine Wp.seqJ (α := Int) (fun a => ⟨[(1, .t (.int .i64 a)), (4, .t (.int .i64 0))], [], []⟩) (fun a => laws_szPutS_j1 u a = some r) ?_ ?_
    · rintro x9 h
      change laws_szPutS_j1 u x9 = some r at h
      unfold laws_szPutS_j1 at h
      refine Wp.srg [] [] ?_
      refine Runs.alln ?_
      refine Wp.fg ⟨[(4, .t (.int .i64 x9))], [], []⟩ ?_
      refine Wp.ret ?_
      have hr := Option.some.inj h
      subst hr
      exact RetK [.t (.int .i64 x9)] (.one (.t (.int .i64 x9))) [] kr kr (.refl _) .nil
    · refine Wp.srg [] [] ?_
      refine Runs.alln ?_
      refine Wp.fg ⟨[(0, .t (.sl 6 (p0.map Put.enc))), (1, .t (.int .i64 (bSub .i64 p1 ((p0.length : Int))))), (4, .t (.int .i64 0)), (5, .t (.int .i64 0))], [], []⟩ ?_
      refine Wp.block ?_
      refine Wp.loopF (α := (List Put) × Int × Int) (fun a => ⟨[(0, .t (.sl 6 (a.1.map Put.enc))), (1, .t (.int .i64 a.2.1)), (4, .t (.int .i64 0)), (5, .t (.int .i64 a.2.2))], [], []⟩) (fun k_laws_szPutS_l2 a => laws_szPutS_l2 u k_laws_szPutS_l2 a.1 a.2.1 a.2.2 = some r) ?_ ?_ u (p0, bSub .i64 p1 ((p0.length : Int)), 0) h (Le.of (mo := []) (mr := []) kr kr kr kr)
      · intro a h; unfold laws_szPutS_l2 at h; cases h
      · rintro k_laws_szPutS_l2 ⟨p0, x3, x4⟩ h
        change laws_szPutS_l2 u (k_laws_szPutS_l2 + 1) p0 x3 x4 = some r at h
        rw [laws_szPutS_l2] at h
        refine Wp.seq ?_
        refine Wp.srg [] [] ?_
        refine Runs.batch 2 kr ?_
        refine Runs.lenT (y := .t (.sl 6 (p0.map Put.enc))) (e := 196) Put.enc p0 6 rfl rfl rfl kr kr kr kr kr ?_
        refine Runs.alln ?_
        refine Wp.fg ⟨[(0, .t (.sl 6 (p0.map Put.enc))), (1, .t (.int .i64 x3)), (4, .t (.int .i64 0)), (5, .t (.int .i64 x4)), (12, .t (.int .i64 x4)), (13, .t (.sl 6 (p0.map Put.enc))), (14, .t (.int .i64 ((p0.length : Int)))), (15, .t (.bool (decide (x4 < ((p0.length : Int))))))], [], []⟩ ?_
        refine Wp.cond2 (b := decide (x4 < ((p0.length : Int)))) kr (fun hc => ?_) (fun hc => ?_)
        · have h := cond_t h hc
          refine Wp.skip ?_
          refine thenN ?_
          refine Wp.seq ?_
          refine Wp.block ?_
          refine Wp.srg [] [] ?_
          refine Runs.batch 2 kr ?_
          obtain ⟨y7, e_y7, h⟩ := bind_some h
          refine Runs.idxT (e := 196) (kk := .i64) (sz := 6) Put.enc p0 x4 rfl kr kr kr kr kr kr e_y7 ?_
          refine Runs.batch 2 kr ?_
          obtain ⟨r8, e_r8, h⟩ := bind_some h
          refine Runs.callK false 23 182 [] [.agg ((Put.enc y7).map .t), .t (.int .i64 x3)] [.agg ((Put.enc y7).map .t), .one (.t (.int .i64 x3))] (.one (.t (.int .i64 r8))) [] rfl rfl kr kr kr kr kr (laws_szPut_ok u y7 x3 r8 e_r8) kr ?_
          refine Runs.alln ?_
          refine Wp.fg ⟨[(0, .t (.sl 6 (p0.map Put.enc))), (1, .t (.int .i64 r8)), (4, .t (.int .i64 0)), (5, .t (.int .i64 x4)), (12, .t (.int .i64 x4)), (13, .t (.sl 6 (p0.map Put.enc))), (14, .t (.int .i64 ((p0.length : Int)))), (15, .t (.bool (decide (x4 < ((p0.length : Int)))))), (18, .t (.sl 6 (p0.map Put.enc))), (19, .t (.int .i64 x4)), (20, .fadr (Put.enc y7)), (21, .agg ((Put.enc y7).map .t)), (22, .t (.int .i64 x3)), (23, .t (.int .i64 r8))], [], []⟩ ?_
          refine Wp.srg [] [] ?_
          refine Runs.alln ?_
          refine Wp.fg ⟨[(0, .t (.sl 6 (p0.map Put.enc))), (1, .t (.int .i64 r8)), (4, .t (.int .i64 0)), (5, .t (.int .i64 x4)), (12, .t (.int .i64 x4)), (13, .t (.sl 6 (p0.map Put.enc))), (14, .t (.int .i64 ((p0.length : Int)))), (15, .t (.bool (decide (x4 < ((p0.length : Int)))))), (18, .t (.sl 6 (p0.map Put.enc))), (19, .t (.int .i64 x4)), (20, .fadr (Put.enc y7)), (21, .agg ((Put.enc y7).map .t)), (22, .t (.int .i64 x3)), (23, .t (.int .i64 r8)), (24, .t (.int .i64 r8)), (25, .t (.bool (decide (r8 < 0))))], [], []⟩ ?_
          refine Wp.cond2 (b := decide (r8 < 0)) kr (fun hc => ?_) (fun hc => ?_)
          · have h := cond_t h hc
            refine Wp.srg [] [] ?_
            refine Runs.alln ?_
            refine Wp.fg ⟨[(0, .t (.sl 6 (p0.map Put.enc))), (1, .t (.int .i64 r8)), (4, .t (.int .i64 (-1))), (5, .t (.int .i64 x4)), (12, .t (.int .i64 x4)), (13, .t (.sl 6 (p0.map Put.enc))), (14, .t (.int .i64 ((p0.length : Int)))), (15, .t (.bool (decide (x4 < ((p0.length : Int)))))), (18, .t (.sl 6 (p0.map Put.enc))), (19, .t (.int .i64 x4)), (20, .fadr (Put.enc y7)), (21, .agg ((Put.enc y7).map .t)), (22, .t (.int .i64 x3)), (23, .t (.int .i64 r8)), (24, .t (.int .i64 r8)), (25, .t (.bool (decide (r8 < 0))))], [], []⟩ ?_
            refine Wp.ret ?_
            refine blkR ?_
            refine thenR ?_
            refine thenR ?_
            refine blkR ?_
            refine thenR ?_
            have hr := Option.some.inj h
            subst hr
            exact RetK [.t (.int .i64 (-1))] (.one (.t (.int .i64 (-1)))) [] kr kr (.refl _) .nil
          · have h := cond_f h hc
            refine Wp.skip ?_
            refine blkN ?_
            refine thenN ?_
            refine Wp.rg [] [] ?_
            refine Runs.alln ?_
            exact ⟨(p0, r8, bAdd .i64 x4 1), h, Le.of (mo := []) (mr := []) kr kr kr kr⟩
        · have h := cond_f h hc
          refine Wp.exit ?_
          refine thenE ?_
          refine thenE ?_
          refine blkE ?_
          refine thenN ?_
          exact ⟨x3, h, Le.of (mo := []) (mr := []) kr kr kr kr⟩
theorem laws_szDisk_ok (u : Nat) (p0 : Disk) (p1 : Int) (r : Int) (h : laws_szDisk u p0 p1 = some r) : CallOK Try.prog 109 [.agg [.t (.sl 1 (p0.fA.map (eInt .u8))), .t (.sl 1 (p0.fB.map (eInt .u8))), .t (.int .i64 p0.fR.fGen), .t (.int .i64 p0.fR.fSlot), .t (.int .i64 p0.fR.fLen), .t (.sl 6 (p0.fP.map Put.enc))], .one (.t (.int .i64 p1))] (.one (.t (.int .i64 r))) [] := by
  unfold laws_szDisk at h
  refine CallOK.of_bodyK (fn := Try.f109) (m := false) [.agg ((Disk.enc p0).map .t), .t (.int .i64 p1)] kr rfl kr kr kr kr kr ?_
  refine Wp.srg [] [] ?_
  refine Runs.alln ?_
  refine Wp.fg ⟨[(1, .t (.int .i64 p1)), (2, .obj 2 0), (4, .t (.int .i64 0))], [(2, ((Disk.enc p0).map .t))], []⟩ ?_
  refine Wp.srg [] [] ?_
  refine Runs.batch 3 kr ?_
  obtain ⟨r1, e_r1, h⟩ := bind_some h
  refine Runs.callK false 8 54 [] [.t (.sl 1 (p0.fA.map (eInt .u8))), .t (.int .i64 p1)] [.one (.t (.sl 1 (p0.fA.map (eInt .u8)))), .one (.t (.int .i64 p1))] (.one (.t (.int .i64 r1))) [] rfl rfl kr kr kr kr kr (laws_szByteS_ok u p0.fA p1 r1 e_r1) kr ?_
  refine Runs.alln ?_
  refine Wp.fg ⟨[(1, .t (.int .i64 r1)), (2, .obj 2 0), (4, .t (.int .i64 0))], [(2, ((Disk.enc p0).map .t))], []⟩ ?_
  refine Wp.seq ?_
  refine Wp.srg [] [] ?_
  refine Runs.alln ?_
  refine Wp.fg ⟨[(1, .t (.int .i64 r1)), (2, .obj 2 0), (4, .t (.int .i64 0)), (10, .t (.bool (decide (r1 < 0))))], [(2, ((Disk.enc p0).map .t))], []⟩ ?_
  refine Wp.cond2 (b := decide (r1 < 0)) kr (fun hc => ?_) (fun hc => ?_)
  · have h := cond_t h hc
    refine Wp.srg [] [] ?_
    refine Runs.alln ?_
    refine Wp.fg ⟨[(1, .t (.int .i64 r1)), (2, .obj 2 0), (4, .t (.int .i64 (-1)))], [(2, ((Disk.enc p0).map .t))], []⟩ ?_
    refine Wp.ret ?_
    refine thenR ?_
    have hr := Option.some.inj h
    subst hr
    exact RetK [.t (.int .i64 (-1))] (.one (.t (.int .i64 (-1)))) [] kr kr (.refl _) .nil
  · have h := cond_f h hc
    refine Wp.skip ?_
    refine thenN ?_
    refine Wp.srg [] [] ?_
    refine Runs.batch 3 kr ?_
    obtain ⟨r2, e_r2, h⟩ := bind_some h
    refine Runs.callK false 14 54 [] [.t (.sl 1 (p0.fB.map (eInt .u8))), .t (.int .i64 r1)] [.one (.t (.sl 1 (p0.fB.map (eInt .u8)))), .one (.t (.int .i64 r1))] (.one (.t (.int .i64 r2))) [] rfl rfl kr kr kr kr kr (laws_szByteS_ok u p0.fB r1 r2 e_r2) kr ?_
    refine Runs.alln ?_
    refine Wp.fg ⟨[(1, .t (.int .i64 r2)), (2, .obj 2 0), (4, .t (.int .i64 0))], [(2, ((Disk.enc p0).map .t))], []⟩ ?_
    refine Wp.seq ?_
    refine Wp.srg [] [] ?_
    refine Runs.alln ?_
    refine Wp.fg ⟨[(1, .t (.int .i64 r2)), (2, .obj 2 0), (4, .t (.int .i64 0)), (16, .t (.bool (decide (r2 < 0))))], [(2, ((Disk.enc p0).map .t))], []⟩ ?_
    refine Wp.cond2 (b := decide (r2 < 0)) kr (fun hc => ?_) (fun hc => ?_)
    · have h := cond_t h hc
      refine Wp.srg [] [] ?_
      refine Runs.alln ?_
      refine Wp.fg ⟨[(1, .t (.int .i64 r2)), (2, .obj 2 0), (4, .t (.int .i64 (-1)))], [(2, ((Disk.enc p0).map .t))], []⟩ ?_
      refine Wp.ret ?_
      refine thenR ?_
      have hr := Option.some.inj h
      subst hr
      exact RetK [.t (.int .i64 (-1))] (.one (.t (.int .i64 (-1)))) [] kr kr (.refl _) .nil
    · have h := cond_f h hc
      refine Wp.skip ?_
      refine thenN ?_
      refine Wp.srg [] [] ?_
      refine Runs.batch 3 kr ?_
      obtain ⟨r3, e_r3, h⟩ := bind_some h
      refine Runs.callK false 20 152 [] [.t (.sl 6 (p0.fP.map Put.enc)), .t (.int .i64 r2)] [.one (.t (.sl 6 (p0.fP.map Put.enc))), .one (.t (.int .i64 r2))] (.one (.t (.int .i64 r3))) [] rfl rfl kr kr kr kr kr (laws_szPutS_ok u p0.fP r2 r3 e_r3) kr ?_
      refine Runs.alln ?_
      refine Wp.fg ⟨[(1, .t (.int .i64 r3)), (4, .t (.int .i64 0))], [], []⟩ ?_
      refine Wp.seq ?_
      refine Wp.srg [] [] ?_
      refine Runs.alln ?_
      refine Wp.fg ⟨[(1, .t (.int .i64 r3)), (4, .t (.int .i64 0)), (22, .t (.bool (decide (r3 < 0))))], [], []⟩ ?_
      refine Wp.cond2 (b := decide (r3 < 0)) kr (fun hc => ?_) (fun hc => ?_)
      · have h := cond_t h hc
        refine Wp.srg [] [] ?_
        refine Runs.alln ?_
        refine Wp.fg ⟨[(1, .t (.int .i64 r3)), (4, .t (.int .i64 (-1)))], [], []⟩ ?_
        refine Wp.ret ?_
        refine thenR ?_
        have hr := Option.some.inj h
        subst hr
        exact RetK [.t (.int .i64 (-1))] (.one (.t (.int .i64 (-1)))) [] kr kr (.refl _) .nil
      · have h := cond_f h hc
        refine Wp.skip ?_
        refine thenN ?_
        refine Wp.srg [] [] ?_
        refine Runs.alln ?_
        refine Wp.fg ⟨[(4, .t (.int .i64 r3))], [], []⟩ ?_
        refine Wp.ret ?_
        have hr := Option.some.inj h
        subst hr
        exact RetK [.t (.int .i64 r3)] (.one (.t (.int .i64 r3))) [] kr kr (.refl _) .nil
theorem laws_szDiskS_ok (u : Nat) (p0 : List Disk) (p1 : Int) (r : Int) (h : laws_szDiskS u p0 p1 = some r) : CallOK Try.prog 56 [.one (.t (.sl 6 (p0.map Disk.enc))), .one (.t (.int .i64 p1))] (.one (.t (.int .i64 r))) [] := by
  unfold laws_szDiskS at h
  refine CallOK.of_bodyK (fn := Try.f56) (m := false) [.t (.sl 6 (p0.map Disk.enc)), .t (.int .i64 p1)] kr rfl kr kr kr kr kr ?_
  refine Wp.srg [] [] ?_
  refine Runs.alln ?_
  refine Wp.fg ⟨[(0, .t (.sl 6 (p0.map Disk.enc))), (1, .t (.int .i64 p1)), (4, .t (.int .i64 0))], [], []⟩ ?_
  refine Wp.srg [] [] ?_
  refine Runs.batch 2 kr ?_
  refine Runs.lenT (y := .t (.sl 6 (p0.map Disk.enc))) (e := 139) Disk.enc p0 6 rfl rfl rfl kr kr kr kr kr ?_
  refine Runs.alln ?_
  refine Wp.fg ⟨[(0, .t (.sl 6 (p0.map Disk.enc))), (1, .t (.int .i64 (bSub .i64 p1 ((p0.length : Int))))), (4, .t (.int .i64 0))], [], []⟩ ?_
  refine Wp.seq ?_
  refine Wp.srg [] [] ?_
  refine Runs.alln ?_
  refine Wp.fg ⟨[(0, .t (.sl 6 (p0.map Disk.enc))), (1, .t (.int .i64 (bSub .i64 p1 ((p0.length : Int))))), (4, .t (.int .i64 0)), (11, .t (.bool (decide ((bSub .i64 p1 ((p0.length : Int))) < 0))))], [], []⟩ ?_
  refine Wp.cond2 (b := decide ((bSub .i64 p1 ((p0.length : Int))) < 0)) kr (fun hc => ?_) (fun hc => ?_)
  · have h := cond_t h hc
    refine Wp.srg [] [] ?_
    refine Runs.alln ?_
    refine Wp.fg ⟨[(0, .t (.sl 6 (p0.map Disk.enc))), (1, .t (.int .i64 (bSub .i64 p1 ((p0.length : Int))))), (4, .t (.int .i64 (-1)))], [], []⟩ ?_
    refine Wp.ret ?_
    refine thenR ?_
    have hr := Option.some.inj h
    subst hr
    exact RetK [.t (.int .i64 (-1))] (.one (.t (.int .i64 (-1)))) [] kr kr (.refl _) .nil
  · have h := cond_f h hc
    refine Wp.skip ?_
    refine thenN ?_
    refine Wp.seqJ (α := Int) (fun a => ⟨[(1, .t (.int .i64 a)), (4, .t (.int .i64 0))], [], []⟩) (fun a => laws_szDiskS_j1 u a = some r) ?_ ?_
    · rintro x9 h
      change laws_szDiskS_j1 u x9 = some r at h
      unfold laws_szDiskS_j1 at h
      refine Wp.srg [] [] ?_
      refine Runs.alln ?_
      refine Wp.fg ⟨[(4, .t (.int .i64 x9))], [], []⟩ ?_
      refine Wp.ret ?_
      have hr := Option.some.inj h
      subst hr
      exact RetK [.t (.int .i64 x9)] (.one (.t (.int .i64 x9))) [] kr kr (.refl _) .nil
    · refine Wp.srg [] [] ?_
      refine Runs.alln ?_
      refine Wp.fg ⟨[(0, .t (.sl 6 (p0.map Disk.enc))), (1, .t (.int .i64 (bSub .i64 p1 ((p0.length : Int))))), (4, .t (.int .i64 0)), (5, .t (.int .i64 0))], [], []⟩ ?_
      refine Wp.block ?_
      refine Wp.loopF (α := (List Disk) × Int × Int) (fun a => ⟨[(0, .t (.sl 6 (a.1.map Disk.enc))), (1, .t (.int .i64 a.2.1)), (4, .t (.int .i64 0)), (5, .t (.int .i64 a.2.2))], [], []⟩) (fun k_laws_szDiskS_l2 a => laws_szDiskS_l2 u k_laws_szDiskS_l2 a.1 a.2.1 a.2.2 = some r) ?_ ?_ u (p0, bSub .i64 p1 ((p0.length : Int)), 0) h (Le.of (mo := []) (mr := []) kr kr kr kr)
      · intro a h; unfold laws_szDiskS_l2 at h; cases h
      · rintro k_laws_szDiskS_l2 ⟨p0, x3, x4⟩ h
        change laws_szDiskS_l2 u (k_laws_szDiskS_l2 + 1) p0 x3 x4 = some r at h
        rw [laws_szDiskS_l2] at h
        refine Wp.seq ?_
        refine Wp.srg [] [] ?_
        refine Runs.batch 2 kr ?_
        refine Runs.lenT (y := .t (.sl 6 (p0.map Disk.enc))) (e := 139) Disk.enc p0 6 rfl rfl rfl kr kr kr kr kr ?_
        refine Runs.alln ?_
        refine Wp.fg ⟨[(0, .t (.sl 6 (p0.map Disk.enc))), (1, .t (.int .i64 x3)), (4, .t (.int .i64 0)), (5, .t (.int .i64 x4)), (12, .t (.int .i64 x4)), (13, .t (.sl 6 (p0.map Disk.enc))), (14, .t (.int .i64 ((p0.length : Int)))), (15, .t (.bool (decide (x4 < ((p0.length : Int))))))], [], []⟩ ?_
        refine Wp.cond2 (b := decide (x4 < ((p0.length : Int)))) kr (fun hc => ?_) (fun hc => ?_)
        · have h := cond_t h hc
          refine Wp.skip ?_
          refine thenN ?_
          refine Wp.seq ?_
          refine Wp.block ?_
          refine Wp.srg [] [] ?_
          refine Runs.batch 2 kr ?_
          obtain ⟨y7, e_y7, h⟩ := bind_some h
          refine Runs.idxT (e := 139) (kk := .i64) (sz := 6) Disk.enc p0 x4 rfl kr kr kr kr kr kr e_y7 ?_
          refine Runs.batch 2 kr ?_
          obtain ⟨r8, e_r8, h⟩ := bind_some h
          refine Runs.callK false 23 109 [] [.agg ((Disk.enc y7).map .t), .t (.int .i64 x3)] [.agg ((Disk.enc y7).map .t), .one (.t (.int .i64 x3))] (.one (.t (.int .i64 r8))) [] rfl rfl kr kr kr kr kr (laws_szDisk_ok u y7 x3 r8 e_r8) kr ?_
          refine Runs.alln ?_
          refine Wp.fg ⟨[(0, .t (.sl 6 (p0.map Disk.enc))), (1, .t (.int .i64 r8)), (4, .t (.int .i64 0)), (5, .t (.int .i64 x4)), (12, .t (.int .i64 x4)), (13, .t (.sl 6 (p0.map Disk.enc))), (14, .t (.int .i64 ((p0.length : Int)))), (15, .t (.bool (decide (x4 < ((p0.length : Int)))))), (18, .t (.sl 6 (p0.map Disk.enc))), (19, .t (.int .i64 x4)), (20, .fadr (Disk.enc y7)), (21, .agg ((Disk.enc y7).map .t)), (22, .t (.int .i64 x3)), (23, .t (.int .i64 r8))], [], []⟩ ?_
          refine Wp.srg [] [] ?_
          refine Runs.alln ?_
          refine Wp.fg ⟨[(0, .t (.sl 6 (p0.map Disk.enc))), (1, .t (.int .i64 r8)), (4, .t (.int .i64 0)), (5, .t (.int .i64 x4)), (12, .t (.int .i64 x4)), (13, .t (.sl 6 (p0.map Disk.enc))), (14, .t (.int .i64 ((p0.length : Int)))), (15, .t (.bool (decide (x4 < ((p0.length : Int)))))), (18, .t (.sl 6 (p0.map Disk.enc))), (19, .t (.int .i64 x4)), (20, .fadr (Disk.enc y7)), (21, .agg ((Disk.enc y7).map .t)), (22, .t (.int .i64 x3)), (23, .t (.int .i64 r8)), (24, .t (.int .i64 r8)), (25, .t (.bool (decide (r8 < 0))))], [], []⟩ ?_
          refine Wp.cond2 (b := decide (r8 < 0)) kr (fun hc => ?_) (fun hc => ?_)
          · have h := cond_t h hc
            refine Wp.srg [] [] ?_
            refine Runs.alln ?_
            refine Wp.fg ⟨[(0, .t (.sl 6 (p0.map Disk.enc))), (1, .t (.int .i64 r8)), (4, .t (.int .i64 (-1))), (5, .t (.int .i64 x4)), (12, .t (.int .i64 x4)), (13, .t (.sl 6 (p0.map Disk.enc))), (14, .t (.int .i64 ((p0.length : Int)))), (15, .t (.bool (decide (x4 < ((p0.length : Int)))))), (18, .t (.sl 6 (p0.map Disk.enc))), (19, .t (.int .i64 x4)), (20, .fadr (Disk.enc y7)), (21, .agg ((Disk.enc y7).map .t)), (22, .t (.int .i64 x3)), (23, .t (.int .i64 r8)), (24, .t (.int .i64 r8)), (25, .t (.bool (decide (r8 < 0))))], [], []⟩ ?_
            refine Wp.ret ?_
            refine blkR ?_
            refine thenR ?_
            refine thenR ?_
            refine blkR ?_
            refine thenR ?_
            have hr := Option.some.inj h
            subst hr
            exact RetK [.t (.int .i64 (-1))] (.one (.t (.int .i64 (-1)))) [] kr kr (.refl _) .nil
          · have h := cond_f h hc
            refine Wp.skip ?_
            refine blkN ?_
            refine thenN ?_
            refine Wp.rg [] [] ?_
            refine Runs.alln ?_
            exact ⟨(p0, r8, bAdd .i64 x4 1), h, Le.of (mo := []) (mr := []) kr kr kr kr⟩
        · have h := cond_f h hc
          refine Wp.exit ?_
          refine thenE ?_
          refine thenE ?_
          refine blkE ?_
          refine thenN ?_
          exact ⟨x3, h, Le.of (mo := []) (mr := []) kr kr kr kr⟩
theorem laws_szPacket_ok (u : Nat) (p0 : Packet) (p1 : Int) (r : Int) (h : laws_szPacket u p0 p1 = some r) : CallOK Try.prog 110 [.agg [.t (.int .i64 p0.fFrom), .t (.int .i64 p0.fTo), .t (.sl 1 (p0.fB.map (eInt .u8)))], .one (.t (.int .i64 p1))] (.one (.t (.int .i64 r))) [] := by
  unfold laws_szPacket at h
  refine CallOK.of_bodyK (fn := Try.f110) (m := false) [.agg ((Packet.enc p0).map .t), .t (.int .i64 p1)] kr rfl kr kr kr kr kr ?_
  refine Wp.srg [] [] ?_
  refine Runs.alln ?_
  refine Wp.fg ⟨[(1, .t (.int .i64 p1)), (2, .obj 2 0), (4, .t (.int .i64 0))], [(2, ((Packet.enc p0).map .t))], []⟩ ?_
  refine Wp.srg [] [] ?_
  refine Runs.batch 3 kr ?_
  obtain ⟨r1, e_r1, h⟩ := bind_some h
  refine Runs.callK false 8 54 [] [.t (.sl 1 (p0.fB.map (eInt .u8))), .t (.int .i64 p1)] [.one (.t (.sl 1 (p0.fB.map (eInt .u8)))), .one (.t (.int .i64 p1))] (.one (.t (.int .i64 r1))) [] rfl rfl kr kr kr kr kr (laws_szByteS_ok u p0.fB p1 r1 e_r1) kr ?_
  refine Runs.alln ?_
  refine Wp.fg ⟨[(1, .t (.int .i64 r1)), (4, .t (.int .i64 0))], [], []⟩ ?_
  refine Wp.seq ?_
  refine Wp.srg [] [] ?_
  refine Runs.alln ?_
  refine Wp.fg ⟨[(1, .t (.int .i64 r1)), (4, .t (.int .i64 0)), (10, .t (.bool (decide (r1 < 0))))], [], []⟩ ?_
  refine Wp.cond2 (b := decide (r1 < 0)) kr (fun hc => ?_) (fun hc => ?_)
  · have h := cond_t h hc
    refine Wp.srg [] [] ?_
    refine Runs.alln ?_
    refine Wp.fg ⟨[(1, .t (.int .i64 r1)), (4, .t (.int .i64 (-1)))], [], []⟩ ?_
    refine Wp.ret ?_
    refine thenR ?_
    have hr := Option.some.inj h
    subst hr
    exact RetK [.t (.int .i64 (-1))] (.one (.t (.int .i64 (-1)))) [] kr kr (.refl _) .nil
  · have h := cond_f h hc
    refine Wp.skip ?_
    refine thenN ?_
    refine Wp.srg [] [] ?_
    refine Runs.alln ?_
    refine Wp.fg ⟨[(4, .t (.int .i64 r1))], [], []⟩ ?_
    refine Wp.ret ?_
    have hr := Option.some.inj h
    subst hr
    exact RetK [.t (.int .i64 r1)] (.one (.t (.int .i64 r1))) [] kr kr (.refl _) .nil
theorem laws_szPacketS_ok (u : Nat) (p0 : List Packet) (p1 : Int) (r : Int) (h : laws_szPacketS u p0 p1 = some r) : CallOK Try.prog 57 [.one (.t (.sl 3 (p0.map Packet.enc))), .one (.t (.int .i64 p1))] (.one (.t (.int .i64 r))) [] := by
  unfold laws_szPacketS at h
  refine CallOK.of_bodyK (fn := Try.f57) (m := false) [.t (.sl 3 (p0.map Packet.enc)), .t (.int .i64 p1)] kr rfl kr kr kr kr kr ?_
  refine Wp.srg [] [] ?_
  refine Runs.alln ?_
  refine Wp.fg ⟨[(0, .t (.sl 3 (p0.map Packet.enc))), (1, .t (.int .i64 p1)), (4, .t (.int .i64 0))], [], []⟩ ?_
  refine Wp.srg [] [] ?_
  refine Runs.batch 2 kr ?_
  refine Runs.lenT (y := .t (.sl 3 (p0.map Packet.enc))) (e := 142) Packet.enc p0 3 rfl rfl rfl kr kr kr kr kr ?_
  refine Runs.alln ?_
  refine Wp.fg ⟨[(0, .t (.sl 3 (p0.map Packet.enc))), (1, .t (.int .i64 (bSub .i64 p1 ((p0.length : Int))))), (4, .t (.int .i64 0))], [], []⟩ ?_
  refine Wp.seq ?_
  refine Wp.srg [] [] ?_
  refine Runs.alln ?_
  refine Wp.fg ⟨[(0, .t (.sl 3 (p0.map Packet.enc))), (1, .t (.int .i64 (bSub .i64 p1 ((p0.length : Int))))), (4, .t (.int .i64 0)), (11, .t (.bool (decide ((bSub .i64 p1 ((p0.length : Int))) < 0))))], [], []⟩ ?_
  refine Wp.cond2 (b := decide ((bSub .i64 p1 ((p0.length : Int))) < 0)) kr (fun hc => ?_) (fun hc => ?_)
  · have h := cond_t h hc
    refine Wp.srg [] [] ?_
    refine Runs.alln ?_
    refine Wp.fg ⟨[(0, .t (.sl 3 (p0.map Packet.enc))), (1, .t (.int .i64 (bSub .i64 p1 ((p0.length : Int))))), (4, .t (.int .i64 (-1)))], [], []⟩ ?_
    refine Wp.ret ?_
    refine thenR ?_
    have hr := Option.some.inj h
    subst hr
    exact RetK [.t (.int .i64 (-1))] (.one (.t (.int .i64 (-1)))) [] kr kr (.refl _) .nil
  · have h := cond_f h hc
    refine Wp.skip ?_
    refine thenN ?_
    refine Wp.seqJ (α := Int) (fun a => ⟨[(1, .t (.int .i64 a)), (4, .t (.int .i64 0))], [], []⟩) (fun a => laws_szPacketS_j1 u a = some r) ?_ ?_
    · rintro x9 h
      change laws_szPacketS_j1 u x9 = some r at h
      unfold laws_szPacketS_j1 at h
      refine Wp.srg [] [] ?_
      refine Runs.alln ?_
      refine Wp.fg ⟨[(4, .t (.int .i64 x9))], [], []⟩ ?_
      refine Wp.ret ?_
      have hr := Option.some.inj h
      subst hr
      exact RetK [.t (.int .i64 x9)] (.one (.t (.int .i64 x9))) [] kr kr (.refl _) .nil
    · refine Wp.srg [] [] ?_
      refine Runs.alln ?_
      refine Wp.fg ⟨[(0, .t (.sl 3 (p0.map Packet.enc))), (1, .t (.int .i64 (bSub .i64 p1 ((p0.length : Int))))), (4, .t (.int .i64 0)), (5, .t (.int .i64 0))], [], []⟩ ?_
      refine Wp.block ?_
      refine Wp.loopF (α := (List Packet) × Int × Int) (fun a => ⟨[(0, .t (.sl 3 (a.1.map Packet.enc))), (1, .t (.int .i64 a.2.1)), (4, .t (.int .i64 0)), (5, .t (.int .i64 a.2.2))], [], []⟩) (fun k_laws_szPacketS_l2 a => laws_szPacketS_l2 u k_laws_szPacketS_l2 a.1 a.2.1 a.2.2 = some r) ?_ ?_ u (p0, bSub .i64 p1 ((p0.length : Int)), 0) h (Le.of (mo := []) (mr := []) kr kr kr kr)
      · intro a h; unfold laws_szPacketS_l2 at h; cases h
      · rintro k_laws_szPacketS_l2 ⟨p0, x3, x4⟩ h
        change laws_szPacketS_l2 u (k_laws_szPacketS_l2 + 1) p0 x3 x4 = some r at h
        rw [laws_szPacketS_l2] at h
        refine Wp.seq ?_
        refine Wp.srg [] [] ?_
        refine Runs.batch 2 kr ?_
        refine Runs.lenT (y := .t (.sl 3 (p0.map Packet.enc))) (e := 142) Packet.enc p0 3 rfl rfl rfl kr kr kr kr kr ?_
        refine Runs.alln ?_
        refine Wp.fg ⟨[(0, .t (.sl 3 (p0.map Packet.enc))), (1, .t (.int .i64 x3)), (4, .t (.int .i64 0)), (5, .t (.int .i64 x4)), (12, .t (.int .i64 x4)), (13, .t (.sl 3 (p0.map Packet.enc))), (14, .t (.int .i64 ((p0.length : Int)))), (15, .t (.bool (decide (x4 < ((p0.length : Int))))))], [], []⟩ ?_
        refine Wp.cond2 (b := decide (x4 < ((p0.length : Int)))) kr (fun hc => ?_) (fun hc => ?_)
        · have h := cond_t h hc
          refine Wp.skip ?_
          refine thenN ?_
          refine Wp.seq ?_
          refine Wp.block ?_
          refine Wp.srg [] [] ?_
          refine Runs.batch 2 kr ?_
          obtain ⟨y7, e_y7, h⟩ := bind_some h
          refine Runs.idxT (e := 142) (kk := .i64) (sz := 3) Packet.enc p0 x4 rfl kr kr kr kr kr kr e_y7 ?_
          refine Runs.batch 2 kr ?_
          obtain ⟨r8, e_r8, h⟩ := bind_some h
          refine Runs.callK false 23 110 [] [.agg ((Packet.enc y7).map .t), .t (.int .i64 x3)] [.agg ((Packet.enc y7).map .t), .one (.t (.int .i64 x3))] (.one (.t (.int .i64 r8))) [] rfl rfl kr kr kr kr kr (laws_szPacket_ok u y7 x3 r8 e_r8) kr ?_
          refine Runs.alln ?_
          refine Wp.fg ⟨[(0, .t (.sl 3 (p0.map Packet.enc))), (1, .t (.int .i64 r8)), (4, .t (.int .i64 0)), (5, .t (.int .i64 x4)), (12, .t (.int .i64 x4)), (13, .t (.sl 3 (p0.map Packet.enc))), (14, .t (.int .i64 ((p0.length : Int)))), (15, .t (.bool (decide (x4 < ((p0.length : Int)))))), (18, .t (.sl 3 (p0.map Packet.enc))), (19, .t (.int .i64 x4)), (20, .fadr (Packet.enc y7)), (21, .agg ((Packet.enc y7).map .t)), (22, .t (.int .i64 x3)), (23, .t (.int .i64 r8))], [], []⟩ ?_
          refine Wp.srg [] [] ?_
          refine Runs.alln ?_
          refine Wp.fg ⟨[(0, .t (.sl 3 (p0.map Packet.enc))), (1, .t (.int .i64 r8)), (4, .t (.int .i64 0)), (5, .t (.int .i64 x4)), (12, .t (.int .i64 x4)), (13, .t (.sl 3 (p0.map Packet.enc))), (14, .t (.int .i64 ((p0.length : Int)))), (15, .t (.bool (decide (x4 < ((p0.length : Int)))))), (18, .t (.sl 3 (p0.map Packet.enc))), (19, .t (.int .i64 x4)), (20, .fadr (Packet.enc y7)), (21, .agg ((Packet.enc y7).map .t)), (22, .t (.int .i64 x3)), (23, .t (.int .i64 r8)), (24, .t (.int .i64 r8)), (25, .t (.bool (decide (r8 < 0))))], [], []⟩ ?_
          refine Wp.cond2 (b := decide (r8 < 0)) kr (fun hc => ?_) (fun hc => ?_)
          · have h := cond_t h hc
            refine Wp.srg [] [] ?_
            refine Runs.alln ?_
            refine Wp.fg ⟨[(0, .t (.sl 3 (p0.map Packet.enc))), (1, .t (.int .i64 r8)), (4, .t (.int .i64 (-1))), (5, .t (.int .i64 x4)), (12, .t (.int .i64 x4)), (13, .t (.sl 3 (p0.map Packet.enc))), (14, .t (.int .i64 ((p0.length : Int)))), (15, .t (.bool (decide (x4 < ((p0.length : Int)))))), (18, .t (.sl 3 (p0.map Packet.enc))), (19, .t (.int .i64 x4)), (20, .fadr (Packet.enc y7)), (21, .agg ((Packet.enc y7).map .t)), (22, .t (.int .i64 x3)), (23, .t (.int .i64 r8)), (24, .t (.int .i64 r8)), (25, .t (.bool (decide (r8 < 0))))], [], []⟩ ?_
            refine Wp.ret ?_
            refine blkR ?_
            refine thenR ?_
            refine thenR ?_
            refine blkR ?_
            refine thenR ?_
            have hr := Option.some.inj h
            subst hr
            exact RetK [.t (.int .i64 (-1))] (.one (.t (.int .i64 (-1)))) [] kr kr (.refl _) .nil
          · have h := cond_f h hc
            refine Wp.skip ?_
            refine blkN ?_
            refine thenN ?_
            refine Wp.rg [] [] ?_
            refine Runs.alln ?_
            exact ⟨(p0, r8, bAdd .i64 x4 1), h, Le.of (mo := []) (mr := []) kr kr kr kr⟩
        · have h := cond_f h hc
          refine Wp.exit ?_
          refine thenE ?_
          refine thenE ?_
          refine blkE ?_
          refine thenN ?_
          exact ⟨x3, h, Le.of (mo := []) (mr := []) kr kr kr kr⟩
theorem laws_szSentS_ok (u : Nat) (p0 : List Sent) (p1 : Int) (r : Int) (h : laws_szSentS u p0 p1 = some r) : CallOK Try.prog 58 [.one (.t (.sl 3 (p0.map Sent.enc))), .one (.t (.int .i64 p1))] (.one (.t (.int .i64 r))) [] := by
  unfold laws_szSentS at h
  refine CallOK.of_bodyK (fn := Try.f58) (m := false) [.t (.sl 3 (p0.map Sent.enc)), .t (.int .i64 p1)] kr rfl kr kr kr kr kr ?_
  refine Wp.srg [] [] ?_
  refine Runs.alln ?_
  refine Wp.fg ⟨[(0, .t (.sl 3 (p0.map Sent.enc))), (1, .t (.int .i64 p1)), (4, .t (.int .i64 0))], [], []⟩ ?_
  refine Wp.srg [] [] ?_
  refine Runs.batch 2 kr ?_
  refine Runs.lenT (y := .t (.sl 3 (p0.map Sent.enc))) (e := 149) Sent.enc p0 3 rfl rfl rfl kr kr kr kr kr ?_
  refine Runs.alln ?_
  refine Wp.fg ⟨[(1, .t (.int .i64 (bSub .i64 p1 ((p0.length : Int))))), (4, .t (.int .i64 0))], [], []⟩ ?_
  refine Wp.seq ?_
  refine Wp.srg [] [] ?_
  refine Runs.alln ?_
  refine Wp.fg ⟨[(1, .t (.int .i64 (bSub .i64 p1 ((p0.length : Int))))), (4, .t (.int .i64 0)), (10, .t (.bool (decide ((bSub .i64 p1 ((p0.length : Int))) < 0))))], [], []⟩ ?_
  refine Wp.cond2 (b := decide ((bSub .i64 p1 ((p0.length : Int))) < 0)) kr (fun hc => ?_) (fun hc => ?_)
  · have h := cond_t h hc
    refine Wp.srg [] [] ?_
    refine Runs.alln ?_
    refine Wp.fg ⟨[(1, .t (.int .i64 (bSub .i64 p1 ((p0.length : Int))))), (4, .t (.int .i64 (-1)))], [], []⟩ ?_
    refine Wp.ret ?_
    refine thenR ?_
    have hr := Option.some.inj h
    subst hr
    exact RetK [.t (.int .i64 (-1))] (.one (.t (.int .i64 (-1)))) [] kr kr (.refl _) .nil
  · have h := cond_f h hc
    refine Wp.skip ?_
    refine thenN ?_
    refine Wp.srg [] [] ?_
    refine Runs.alln ?_
    refine Wp.fg ⟨[(4, .t (.int .i64 (bSub .i64 p1 ((p0.length : Int)))))], [], []⟩ ?_
    refine Wp.ret ?_
    have hr := Option.some.inj h
    subst hr
    exact RetK [.t (.int .i64 (bSub .i64 p1 ((p0.length : Int))))] (.one (.t (.int .i64 (bSub .i64 p1 ((p0.length : Int)))))) [] kr kr (.refl _) .nil
theorem laws_szWorld_ok (u : Nat) (p0 : World) (p1 : Int) (r : Int) (h : laws_szWorld u p0 p1 = some r) : CallOK Try.prog 24 [.agg [.t (.int .i64 p0.fC.fSize), .t (.int .i64 p0.fC.fWindow), .t (.int .i64 p0.fC.fSuspect), .t (.int .i64 p0.fC.fForget), .t (.sl 1 (p0.fT.fUp.map (eInt .i64))), .t (.sl 1 (p0.fNew.map (eInt .u8))), .t (.sl 1 (p0.fOld.map Image.enc)), .t (.sl 12 (p0.fN.map Node.enc)), .t (.sl 6 (p0.fD.map Disk.enc)), .t (.sl 3 (p0.fNet.map Packet.enc)), .t (.sl 3 (p0.fLog.map Sent.enc)), .t (.int .i64 p0.fLost)], .one (.t (.int .i64 p1))] (.one (.t (.int .i64 r))) [] := by
  unfold laws_szWorld at h
  refine CallOK.of_bodyK (fn := Try.f24) (m := false) [.agg ((World.enc p0).map .t), .t (.int .i64 p1)] kr rfl kr kr kr kr kr ?_
  refine Wp.srg [] [] ?_
  refine Runs.alln ?_
  refine Wp.fg ⟨[(1, .t (.int .i64 p1)), (2, .obj 2 0), (4, .t (.int .i64 0))], [(2, ((World.enc p0).map .t))], []⟩ ?_
  refine Wp.srg [] [] ?_
  refine Runs.batch 3 kr ?_
  obtain ⟨r1, e_r1, h⟩ := bind_some h
  refine Runs.callK false 8 53 [] [.agg [.t (.sl 1 (p0.fT.fUp.map (eInt .i64)))], .t (.int .i64 p1)] [.agg [.t (.sl 1 (p0.fT.fUp.map (eInt .i64)))], .one (.t (.int .i64 p1))] (.one (.t (.int .i64 r1))) [] rfl rfl kr kr kr kr kr (laws_szTree_ok u p0.fT p1 r1 e_r1) kr ?_
  refine Runs.alln ?_
  refine Wp.fg ⟨[(1, .t (.int .i64 r1)), (2, .obj 2 0), (4, .t (.int .i64 0))], [(2, ((World.enc p0).map .t))], []⟩ ?_
  refine Wp.seq ?_
  refine Wp.srg [] [] ?_
  refine Runs.alln ?_
  refine Wp.fg ⟨[(1, .t (.int .i64 r1)), (2, .obj 2 0), (4, .t (.int .i64 0)), (10, .t (.bool (decide (r1 < 0))))], [(2, ((World.enc p0).map .t))], []⟩ ?_
  refine Wp.cond2 (b := decide (r1 < 0)) kr (fun hc => ?_) (fun hc => ?_)
  · have h := cond_t h hc
    refine Wp.srg [] [] ?_
    refine Runs.alln ?_
    refine Wp.fg ⟨[(1, .t (.int .i64 r1)), (2, .obj 2 0), (4, .t (.int .i64 (-1)))], [(2, ((World.enc p0).map .t))], []⟩ ?_
    refine Wp.ret ?_
    refine thenR ?_
    have hr := Option.some.inj h
    subst hr
    exact RetK [.t (.int .i64 (-1))] (.one (.t (.int .i64 (-1)))) [] kr kr (.refl _) .nil
  · have h := cond_f h hc
    refine Wp.skip ?_
    refine thenN ?_
    refine Wp.srg [] [] ?_
    refine Runs.batch 3 kr ?_
    obtain ⟨r2, e_r2, h⟩ := bind_some h
    refine Runs.callK false 14 54 [] [.t (.sl 1 (p0.fNew.map (eInt .u8))), .t (.int .i64 r1)] [.one (.t (.sl 1 (p0.fNew.map (eInt .u8)))), .one (.t (.int .i64 r1))] (.one (.t (.int .i64 r2))) [] rfl rfl kr kr kr kr kr (laws_szByteS_ok u p0.fNew r1 r2 e_r2) kr ?_
    refine Runs.alln ?_
    refine Wp.fg ⟨[(1, .t (.int .i64 r2)), (2, .obj 2 0), (4, .t (.int .i64 0))], [(2, ((World.enc p0).map .t))], []⟩ ?_
    refine Wp.seq ?_
    refine Wp.srg [] [] ?_
    refine Runs.alln ?_
    refine Wp.fg ⟨[(1, .t (.int .i64 r2)), (2, .obj 2 0), (4, .t (.int .i64 0)), (16, .t (.bool (decide (r2 < 0))))], [(2, ((World.enc p0).map .t))], []⟩ ?_
    refine Wp.cond2 (b := decide (r2 < 0)) kr (fun hc => ?_) (fun hc => ?_)
    · have h := cond_t h hc
      refine Wp.srg [] [] ?_
      refine Runs.alln ?_
      refine Wp.fg ⟨[(1, .t (.int .i64 r2)), (2, .obj 2 0), (4, .t (.int .i64 (-1)))], [(2, ((World.enc p0).map .t))], []⟩ ?_
      refine Wp.ret ?_
      refine thenR ?_
      have hr := Option.some.inj h
      subst hr
      exact RetK [.t (.int .i64 (-1))] (.one (.t (.int .i64 (-1)))) [] kr kr (.refl _) .nil
    · have h := cond_f h hc
      refine Wp.skip ?_
      refine thenN ?_
      refine Wp.srg [] [] ?_
      refine Runs.batch 3 kr ?_
      obtain ⟨r3, e_r3, h⟩ := bind_some h
      refine Runs.callK false 20 17 [] [.t (.sl 1 (p0.fOld.map Image.enc)), .t (.int .i64 r2)] [.one (.t (.sl 1 (p0.fOld.map Image.enc))), .one (.t (.int .i64 r2))] (.one (.t (.int .i64 r3))) [] rfl rfl kr kr kr kr kr (laws_szImageS_ok u p0.fOld r2 r3 e_r3) kr ?_
      refine Runs.alln ?_
      refine Wp.fg ⟨[(1, .t (.int .i64 r3)), (2, .obj 2 0), (4, .t (.int .i64 0))], [(2, ((World.enc p0).map .t))], []⟩ ?_
      refine Wp.seq ?_
      refine Wp.srg [] [] ?_
      refine Runs.alln ?_
      refine Wp.fg ⟨[(1, .t (.int .i64 r3)), (2, .obj 2 0), (4, .t (.int .i64 0)), (22, .t (.bool (decide (r3 < 0))))], [(2, ((World.enc p0).map .t))], []⟩ ?_
      refine Wp.cond2 (b := decide (r3 < 0)) kr (fun hc => ?_) (fun hc => ?_)
      · have h := cond_t h hc
        refine Wp.srg [] [] ?_
        refine Runs.alln ?_
        refine Wp.fg ⟨[(1, .t (.int .i64 r3)), (2, .obj 2 0), (4, .t (.int .i64 (-1)))], [(2, ((World.enc p0).map .t))], []⟩ ?_
        refine Wp.ret ?_
        refine thenR ?_
        have hr := Option.some.inj h
        subst hr
        exact RetK [.t (.int .i64 (-1))] (.one (.t (.int .i64 (-1)))) [] kr kr (.refl _) .nil
      · have h := cond_f h hc
        refine Wp.skip ?_
        refine thenN ?_
        refine Wp.srg [] [] ?_
        refine Runs.batch 3 kr ?_
        obtain ⟨r4, e_r4, h⟩ := bind_some h
        refine Runs.callK false 26 55 [] [.t (.sl 12 (p0.fN.map Node.enc)), .t (.int .i64 r3)] [.one (.t (.sl 12 (p0.fN.map Node.enc))), .one (.t (.int .i64 r3))] (.one (.t (.int .i64 r4))) [] rfl rfl kr kr kr kr kr (laws_szNodeS_ok u p0.fN r3 r4 e_r4) kr ?_
        refine Runs.alln ?_
        refine Wp.fg ⟨[(1, .t (.int .i64 r4)), (2, .obj 2 0), (4, .t (.int .i64 0))], [(2, ((World.enc p0).map .t))], []⟩ ?_
        refine Wp.seq ?_
        refine Wp.srg [] [] ?_
        refine Runs.alln ?_
        refine Wp.fg ⟨[(1, .t (.int .i64 r4)), (2, .obj 2 0), (4, .t (.int .i64 0)), (28, .t (.bool (decide (r4 < 0))))], [(2, ((World.enc p0).map .t))], []⟩ ?_
        refine Wp.cond2 (b := decide (r4 < 0)) kr (fun hc => ?_) (fun hc => ?_)
        · have h := cond_t h hc
          refine Wp.srg [] [] ?_
          refine Runs.alln ?_
          refine Wp.fg ⟨[(1, .t (.int .i64 r4)), (2, .obj 2 0), (4, .t (.int .i64 (-1)))], [(2, ((World.enc p0).map .t))], []⟩ ?_
          refine Wp.ret ?_
          refine thenR ?_
          have hr := Option.some.inj h
          subst hr
          exact RetK [.t (.int .i64 (-1))] (.one (.t (.int .i64 (-1)))) [] kr kr (.refl _) .nil
        · have h := cond_f h hc
          refine Wp.skip ?_
          refine thenN ?_
          refine Wp.srg [] [] ?_
          refine Runs.batch 3 kr ?_
          obtain ⟨r5, e_r5, h⟩ := bind_some h
          refine Runs.callK false 32 56 [] [.t (.sl 6 (p0.fD.map Disk.enc)), .t (.int .i64 r4)] [.one (.t (.sl 6 (p0.fD.map Disk.enc))), .one (.t (.int .i64 r4))] (.one (.t (.int .i64 r5))) [] rfl rfl kr kr kr kr kr (laws_szDiskS_ok u p0.fD r4 r5 e_r5) kr ?_
          refine Runs.alln ?_
          refine Wp.fg ⟨[(1, .t (.int .i64 r5)), (2, .obj 2 0), (4, .t (.int .i64 0))], [(2, ((World.enc p0).map .t))], []⟩ ?_
          refine Wp.seq ?_
          refine Wp.srg [] [] ?_
          refine Runs.alln ?_
          refine Wp.fg ⟨[(1, .t (.int .i64 r5)), (2, .obj 2 0), (4, .t (.int .i64 0)), (34, .t (.bool (decide (r5 < 0))))], [(2, ((World.enc p0).map .t))], []⟩ ?_
          refine Wp.cond2 (b := decide (r5 < 0)) kr (fun hc => ?_) (fun hc => ?_)
          · have h := cond_t h hc
            refine Wp.srg [] [] ?_
            refine Runs.alln ?_
            refine Wp.fg ⟨[(1, .t (.int .i64 r5)), (2, .obj 2 0), (4, .t (.int .i64 (-1)))], [(2, ((World.enc p0).map .t))], []⟩ ?_
            refine Wp.ret ?_
            refine thenR ?_
            have hr := Option.some.inj h
            subst hr
            exact RetK [.t (.int .i64 (-1))] (.one (.t (.int .i64 (-1)))) [] kr kr (.refl _) .nil
          · have h := cond_f h hc
            refine Wp.skip ?_
            refine thenN ?_
            refine Wp.srg [] [] ?_
            refine Runs.batch 3 kr ?_
            obtain ⟨r6, e_r6, h⟩ := bind_some h
            refine Runs.callK false 38 57 [] [.t (.sl 3 (p0.fNet.map Packet.enc)), .t (.int .i64 r5)] [.one (.t (.sl 3 (p0.fNet.map Packet.enc))), .one (.t (.int .i64 r5))] (.one (.t (.int .i64 r6))) [] rfl rfl kr kr kr kr kr (laws_szPacketS_ok u p0.fNet r5 r6 e_r6) kr ?_
            refine Runs.alln ?_
            refine Wp.fg ⟨[(1, .t (.int .i64 r6)), (2, .obj 2 0), (4, .t (.int .i64 0))], [(2, ((World.enc p0).map .t))], []⟩ ?_
            refine Wp.seq ?_
            refine Wp.srg [] [] ?_
            refine Runs.alln ?_
            refine Wp.fg ⟨[(1, .t (.int .i64 r6)), (2, .obj 2 0), (4, .t (.int .i64 0)), (40, .t (.bool (decide (r6 < 0))))], [(2, ((World.enc p0).map .t))], []⟩ ?_
            refine Wp.cond2 (b := decide (r6 < 0)) kr (fun hc => ?_) (fun hc => ?_)
            · have h := cond_t h hc
              refine Wp.srg [] [] ?_
              refine Runs.alln ?_
              refine Wp.fg ⟨[(1, .t (.int .i64 r6)), (2, .obj 2 0), (4, .t (.int .i64 (-1)))], [(2, ((World.enc p0).map .t))], []⟩ ?_
              refine Wp.ret ?_
              refine thenR ?_
              have hr := Option.some.inj h
              subst hr
              exact RetK [.t (.int .i64 (-1))] (.one (.t (.int .i64 (-1)))) [] kr kr (.refl _) .nil
            · have h := cond_f h hc
              refine Wp.skip ?_
              refine thenN ?_
              refine Wp.srg [] [] ?_
              refine Runs.batch 3 kr ?_
              obtain ⟨r7, e_r7, h⟩ := bind_some h
              refine Runs.callK false 44 58 [] [.t (.sl 3 (p0.fLog.map Sent.enc)), .t (.int .i64 r6)] [.one (.t (.sl 3 (p0.fLog.map Sent.enc))), .one (.t (.int .i64 r6))] (.one (.t (.int .i64 r7))) [] rfl rfl kr kr kr kr kr (laws_szSentS_ok u p0.fLog r6 r7 e_r7) kr ?_
              refine Runs.alln ?_
              refine Wp.fg ⟨[(1, .t (.int .i64 r7)), (4, .t (.int .i64 0))], [], []⟩ ?_
              refine Wp.seq ?_
              refine Wp.srg [] [] ?_
              refine Runs.alln ?_
              refine Wp.fg ⟨[(1, .t (.int .i64 r7)), (4, .t (.int .i64 0)), (46, .t (.bool (decide (r7 < 0))))], [], []⟩ ?_
              refine Wp.cond2 (b := decide (r7 < 0)) kr (fun hc => ?_) (fun hc => ?_)
              · have h := cond_t h hc
                refine Wp.srg [] [] ?_
                refine Runs.alln ?_
                refine Wp.fg ⟨[(1, .t (.int .i64 r7)), (4, .t (.int .i64 (-1)))], [], []⟩ ?_
                refine Wp.ret ?_
                refine thenR ?_
                have hr := Option.some.inj h
                subst hr
                exact RetK [.t (.int .i64 (-1))] (.one (.t (.int .i64 (-1)))) [] kr kr (.refl _) .nil
              · have h := cond_f h hc
                refine Wp.skip ?_
                refine thenN ?_
                refine Wp.srg [] [] ?_
                refine Runs.alln ?_
                refine Wp.fg ⟨[(4, .t (.int .i64 r7))], [], []⟩ ?_
                refine Wp.ret ?_
                have hr := Option.some.inj h
                subst hr
                exact RetK [.t (.int .i64 r7)] (.one (.t (.int .i64 r7))) [] kr kr (.refl _) .nil
theorem laws_toConf_ok (u : Nat) (p0 : Conf) (r : Conf) (h : laws_toConf u p0 = some r) : CallOK Try.prog 59 [.agg [.t (.int .i64 p0.fSize), .t (.int .i64 p0.fWindow), .t (.int .i64 p0.fSuspect), .t (.int .i64 p0.fForget)]] (.agg [.t (.int .i64 r.fSize), .t (.int .i64 r.fWindow), .t (.int .i64 r.fSuspect), .t (.int .i64 r.fForget)]) [] := by
  unfold laws_toConf at h
  refine CallOK.of_bodyK (fn := Try.f59) (m := false) [.agg ((Conf.enc p0).map .t)] kr rfl kr kr kr kr kr ?_
  refine Wp.srg [] [] ?_
  refine Runs.alln ?_
  refine Wp.fg ⟨[(1, .obj 1 0), (2, .obj 2 0)], [(1, ((Conf.enc p0).map .t)), (2, [.t (.int .i64 0), .t (.int .i64 0), .t (.int .i64 0), .t (.int .i64 0)])], []⟩ ?_
  refine Wp.srg [] [] ?_
  refine Runs.alln ?_
  refine Wp.fg ⟨[(1, .obj 1 0), (2, .obj 2 0), (3, .obj 3 0)], [(1, ((Conf.enc p0).map .t)), (2, [.t (.int .i64 0), .t (.int .i64 0), .t (.int .i64 0), .t (.int .i64 0)]), (3, [.t (.int .i64 0), .t (.int .i64 0), .t (.int .i64 0), .t (.int .i64 0)])], []⟩ ?_
  refine Wp.srg [] [] ?_
  refine Runs.alln ?_
  refine Wp.fg ⟨[(1, .obj 1 0), (2, .obj 2 0), (3, .obj 3 0)], [(1, ((Conf.enc p0).map .t)), (2, [.t (.int .i64 0), .t (.int .i64 0), .t (.int .i64 0), .t (.int .i64 0)]), (3, [.t (.int .i64 p0.fSize), .t (.int .i64 0), .t (.int .i64 0), .t (.int .i64 0)])], []⟩ ?_
  refine Wp.srg [] [] ?_
  refine Runs.alln ?_
  refine Wp.fg ⟨[(1, .obj 1 0), (2, .obj 2 0), (3, .obj 3 0)], [(1, ((Conf.enc p0).map .t)), (2, [.t (.int .i64 0), .t (.int .i64 0), .t (.int .i64 0), .t (.int .i64 0)]), (3, [.t (.int .i64 p0.fSize), .t (.int .i64 p0.fWindow), .t (.int .i64 0), .t (.int .i64 0)])], []⟩ ?_
  refine Wp.srg [] [] ?_
  refine Runs.alln ?_
  refine Wp.fg ⟨[(1, .obj 1 0), (2, .obj 2 0), (3, .obj 3 0)], [(1, ((Conf.enc p0).map .t)), (2, [.t (.int .i64 0), .t (.int .i64 0), .t (.int .i64 0), .t (.int .i64 0)]), (3, [.t (.int .i64 p0.fSize), .t (.int .i64 p0.fWindow), .t (.int .i64 p0.fSuspect), .t (.int .i64 0)])], []⟩ ?_
  refine Wp.srg [] [] ?_
  refine Runs.alln ?_
  refine Wp.fg ⟨[(2, .obj 2 0), (3, .obj 3 0)], [(2, [.t (.int .i64 0), .t (.int .i64 0), .t (.int .i64 0), .t (.int .i64 0)]), (3, ((Conf.enc p0).map .t))], []⟩ ?_
  refine Wp.srg [] [] ?_
  refine Runs.alln ?_
  refine Wp.fg ⟨[(2, .obj 2 0)], [(2, ((Conf.enc p0).map .t))], []⟩ ?_
  refine Wp.ret ?_
  have hr := Option.some.inj h
  subst hr
  exact RetK [.agg ((Conf.enc p0).map .t)] (.agg ((Conf.enc p0).map .t)) [] kr kr (.refl _) .nil
theorem laws_toIntS_ok (u : Nat) (p0 : List Int) (r : (List Int)) (h : laws_toIntS u p0 = some r) : CallOK Try.prog 111 [.one (.t (.sl 1 (p0.map (eInt .i64))))] (.one (.ow 3 1 (r.map (eInt .i64)))) [] := by
  unfold laws_toIntS at h
  refine CallOK.of_bodyK (fn := Try.f111) (m := true) [.t (.sl 1 (p0.map (eInt .i64)))] kr rfl kr kr kr kr kr ?_
  refine Wp.srg [] [] ?_
  refine Runs.alln ?_
  refine Wp.fg ⟨[(0, .t (.sl 1 (p0.map (eInt .i64)))), (2, .nil)], [], []⟩ ?_
  refine Wp.srg [] [] ?_
  refine Runs.batch 1 kr ?_
  refine Runs.lenT (y := .t (.sl 1 (p0.map (eInt .i64)))) (e := 3) (eInt .i64) p0 1 rfl rfl rfl kr kr kr kr kr ?_
  obtain ⟨_, e_1, h⟩ := bind_some h
  obtain ⟨_, e_2, h⟩ := bind_some h
  refine Runs.mkS (eInt .i64) (0 : Int) 7 3 1 8 ((p0.length : Int)) ((p0.length : Int)) rfl rfl kr kr kr kr kr kr (chk_some e_1) (of_decide_eq_true (chk_some e_2)) kr ?_
  refine Runs.alln ?_
  refine Wp.fg ⟨[(0, .t (.sl 1 (p0.map (eInt .i64)))), (2, .nil), (3, .own 458752)], [], [(458752, .live 3 1 ((List.replicate (Int.toNat ((p0.length : Int))) (0 : Int)).map (eInt .i64)))]⟩ ?_
  refine Wp.seqJ (α := (List Int)) (fun a => ⟨[(2, .nil), (3, .own 196609)], [], [(196609, .live 3 1 (a.map (eInt .i64)))]⟩) (fun a => laws_toIntS_j1 u a = some r) ?_ ?_
  · rintro x11 h
    change laws_toIntS_j1 u x11 = some r at h
    unfold laws_toIntS_j1 at h
    refine Wp.srg [] [] ?_
    refine Runs.alln ?_
    refine Wp.fg ⟨[(2, .own 196609)], [], [(196609, .live 3 1 (x11.map (eInt .i64)))]⟩ ?_
    refine Wp.ret ?_
    have hr := Option.some.inj h
    subst hr
    exact RetK [.own 196609] (.one (.ow 3 1 (x11.map (eInt .i64)))) [] kr kr (.refl _) .nil
  · refine Wp.srg [] [] ?_
    refine Runs.alln ?_
    refine Wp.fg ⟨[(0, .t (.sl 1 (p0.map (eInt .i64)))), (2, .nil), (3, .own 458752), (4, .t (.int .i64 0))], [], [(458752, .live 3 1 ((List.replicate (Int.toNat ((p0.length : Int))) (0 : Int)).map (eInt .i64)))]⟩ ?_
    refine Wp.block ?_
    refine Wp.loopF (α := (List Int) × (List Int) × Int) (fun a => ⟨[(0, .t (.sl 1 (a.1.map (eInt .i64)))), (2, .nil), (3, .own 196609), (4, .t (.int .i64 a.2.2))], [], [(196609, .live 3 1 (a.2.1.map (eInt .i64)))]⟩) (fun k_laws_toIntS_l2 a => laws_toIntS_l2 u k_laws_toIntS_l2 a.1 a.2.1 a.2.2 = some r) ?_ ?_ u (p0, List.replicate (Int.toNat ((p0.length : Int))) (0 : Int), 0) h (Le.of (mo := []) (mr := [(196609, 458752)]) kr kr kr kr)
    · intro a h; unfold laws_toIntS_l2 at h; cases h
    · rintro k_laws_toIntS_l2 ⟨p0, x5, x6⟩ h
      change laws_toIntS_l2 u (k_laws_toIntS_l2 + 1) p0 x5 x6 = some r at h
      rw [laws_toIntS_l2] at h
      refine Wp.seq ?_
      refine Wp.srg [] [] ?_
      refine Runs.batch 2 kr ?_
      refine Runs.lenT (y := .t (.sl 1 (p0.map (eInt .i64)))) (e := 3) (eInt .i64) p0 1 rfl rfl rfl kr kr kr kr kr ?_
      refine Runs.alln ?_
      refine Wp.fg ⟨[(0, .t (.sl 1 (p0.map (eInt .i64)))), (2, .nil), (3, .own 196609), (4, .t (.int .i64 x6)), (8, .t (.int .i64 x6)), (9, .t (.sl 1 (p0.map (eInt .i64)))), (10, .t (.int .i64 ((p0.length : Int)))), (11, .t (.bool (decide (x6 < ((p0.length : Int))))))], [], [(196609, .live 3 1 (x5.map (eInt .i64)))]⟩ ?_
      refine Wp.cond2 (b := decide (x6 < ((p0.length : Int)))) kr (fun hc => ?_) (fun hc => ?_)
      · have h := cond_t h hc
        refine Wp.skip ?_
        refine thenN ?_
        refine Wp.seq ?_
        refine Wp.block ?_
        refine Wp.rg [] [] ?_
        refine Runs.batch 4 kr ?_
        obtain ⟨y9, e_y9, h⟩ := bind_some h
        refine Runs.idxT (e := 3) (kk := .i64) (sz := 1) (eInt .i64) p0 x6 rfl kr kr kr kr kr kr e_y9 ?_
        refine Runs.batch 1 kr ?_
        obtain ⟨y10, e_y10, h⟩ := bind_some h
        refine Runs.idxO (e := 3) (e' := 3) (kk := .i64) (sz := 1) (eInt .i64) x5 x6 196609 rfl kr kr kr kr kr kr kr e_y10 ?_
        refine Runs.storeT (e := 3) (sz := 1) (m := 1) (eInt .i64) x5 196609 (Int.toNat x6) 0 y9 (.t (.int .i64 y9)) [.int .i64 y9] rfl kr kr kr kr kr kr kr kr (idx_some e_y10).2 kr kr ?_
        refine Runs.done ?_
        refine blkN ?_
        refine thenN ?_
        refine Wp.rg [] [] ?_
        refine Runs.alln ?_
        exact ⟨(p0, x5.set (Int.toNat x6) y9, bAdd .i64 x6 1), h, Le.of (mo := []) (mr := []) kr kr kr kr⟩
      · have h := cond_f h hc
        refine Wp.exit ?_
        refine thenE ?_
        refine thenE ?_
        refine blkE ?_
        refine thenN ?_
        exact ⟨x5, h, Le.of (mo := []) (mr := []) kr kr kr kr⟩
theorem laws_toTree_ok (u : Nat) (p0 : Tree) (r : Tree) (h : laws_toTree u p0 = some r) : CallOK Try.prog 60 [.agg [.t (.sl 1 (p0.fUp.map (eInt .i64)))]] (.agg [.ow 3 1 (r.fUp.map (eInt .i64))]) [] := by
  unfold laws_toTree at h
  refine CallOK.of_bodyK (fn := Try.f60) (m := true) [.agg [.t (.sl 1 (p0.fUp.map (eInt .i64)))]] kr rfl kr kr kr kr kr ?_
  refine Wp.srg [] [] ?_
  refine Runs.alln ?_
  refine Wp.fg ⟨[(1, .obj 1 0), (2, .obj 2 0)], [(1, [.t (.sl 1 (p0.fUp.map (eInt .i64)))]), (2, [.nil])], []⟩ ?_
  refine Wp.srg [] [] ?_
  refine Runs.alln ?_
  refine Wp.fg ⟨[(1, .obj 1 0), (2, .obj 2 0), (3, .obj 3 0)], [(1, [.t (.sl 1 (p0.fUp.map (eInt .i64)))]), (2, [.nil]), (3, [.nil])], []⟩ ?_
  refine Wp.srg [] [] ?_
  refine Runs.batch 2 kr ?_
  obtain ⟨r1, e_r1, h⟩ := bind_some h
  refine Runs.callK false 6 111 [] [.t (.sl 1 (p0.fUp.map (eInt .i64)))] [.one (.t (.sl 1 (p0.fUp.map (eInt .i64))))] (.one (.ow 3 1 (r1.map (eInt .i64)))) [] rfl rfl kr kr kr kr kr (laws_toIntS_ok u p0.fUp r1 e_r1) kr ?_
  refine Runs.alln ?_
  refine Wp.fg ⟨[(2, .obj 2 0), (3, .obj 3 0)], [(2, [.nil]), (3, [.own 393216])], [(393216, .live 3 1 (r1.map (eInt .i64)))]⟩ ?_
  refine Wp.srg [] [] ?_
  refine Runs.alln ?_
  refine Wp.fg ⟨[(2, .obj 2 0)], [(2, [.own 393216])], [(393216, .live 3 1 (r1.map (eInt .i64)))]⟩ ?_
  refine Wp.ret ?_
  have hr := Option.some.inj h
  subst hr
  exact RetK [.agg [.own 393216]] (.agg [.ow 3 1 (r1.map (eInt .i64))]) [] kr kr (.refl _) .nil
theorem laws_toByteS_ok (u : Nat) (p0 : List Int) (r : (List Int)) (h : laws_toByteS u p0 = some r) : CallOK Try.prog 14 [.one (.t (.sl 1 (p0.map (eInt .u8))))] (.one (.ow 5 1 (r.map (eInt .u8)))) [] := by
  unfold laws_toByteS at h
  refine CallOK.of_bodyK (fn := Try.f14) (m := true) [.t (.sl 1 (p0.map (eInt .u8)))] kr rfl kr kr kr kr kr ?_
  refine Wp.srg [] [] ?_
  refine Runs.alln ?_
  refine Wp.fg ⟨[(0, .t (.sl 1 (p0.map (eInt .u8)))), (2, .nil)], [], []⟩ ?_
  refine Wp.srg [] [] ?_
  refine Runs.batch 1 kr ?_
  refine Runs.lenT (y := .t (.sl 1 (p0.map (eInt .u8)))) (e := 5) (eInt .u8) p0 1 rfl rfl rfl kr kr kr kr kr ?_
  obtain ⟨_, e_1, h⟩ := bind_some h
  obtain ⟨_, e_2, h⟩ := bind_some h
  refine Runs.mkS (eInt .u8) (0 : Int) 7 5 1 1 ((p0.length : Int)) ((p0.length : Int)) rfl rfl kr kr kr kr kr kr (chk_some e_1) (of_decide_eq_true (chk_some e_2)) kr ?_
  refine Runs.alln ?_
  refine Wp.fg ⟨[(0, .t (.sl 1 (p0.map (eInt .u8)))), (2, .nil), (3, .own 458752)], [], [(458752, .live 5 1 ((List.replicate (Int.toNat ((p0.length : Int))) (0 : Int)).map (eInt .u8)))]⟩ ?_
  refine Wp.seqJ (α := (List Int)) (fun a => ⟨[(2, .nil), (3, .own 196609)], [], [(196609, .live 5 1 (a.map (eInt .u8)))]⟩) (fun a => laws_toByteS_j1 u a = some r) ?_ ?_
  · rintro x11 h
    change laws_toByteS_j1 u x11 = some r at h
    unfold laws_toByteS_j1 at h
    refine Wp.srg [] [] ?_
    refine Runs.alln ?_
    refine Wp.fg ⟨[(2, .own 196609)], [], [(196609, .live 5 1 (x11.map (eInt .u8)))]⟩ ?_
    refine Wp.ret ?_
    have hr := Option.some.inj h
    subst hr
    exact RetK [.own 196609] (.one (.ow 5 1 (x11.map (eInt .u8)))) [] kr kr (.refl _) .nil
  · refine Wp.srg [] [] ?_
    refine Runs.alln ?_
    refine Wp.fg ⟨[(0, .t (.sl 1 (p0.map (eInt .u8)))), (2, .nil), (3, .own 458752), (4, .t (.int .i64 0))], [], [(458752, .live 5 1 ((List.replicate (Int.toNat ((p0.length : Int))) (0 : Int)).map (eInt .u8)))]⟩ ?_
    refine Wp.block ?_
    refine Wp.loopF (α := (List Int) × (List Int) × Int) (fun a => ⟨[(0, .t (.sl 1 (a.1.map (eInt .u8)))), (2, .nil), (3, .own 196609), (4, .t (.int .i64 a.2.2))], [], [(196609, .live 5 1 (a.2.1.map (eInt .u8)))]⟩) (fun k_laws_toByteS_l2 a => laws_toByteS_l2 u k_laws_toByteS_l2 a.1 a.2.1 a.2.2 = some r) ?_ ?_ u (p0, List.replicate (Int.toNat ((p0.length : Int))) (0 : Int), 0) h (Le.of (mo := []) (mr := [(196609, 458752)]) kr kr kr kr)
    · intro a h; unfold laws_toByteS_l2 at h; cases h
    · rintro k_laws_toByteS_l2 ⟨p0, x5, x6⟩ h
      change laws_toByteS_l2 u (k_laws_toByteS_l2 + 1) p0 x5 x6 = some r at h
      rw [laws_toByteS_l2] at h
      refine Wp.seq ?_
      refine Wp.srg [] [] ?_
      refine Runs.batch 2 kr ?_
      refine Runs.lenT (y := .t (.sl 1 (p0.map (eInt .u8)))) (e := 5) (eInt .u8) p0 1 rfl rfl rfl kr kr kr kr kr ?_
      refine Runs.alln ?_
      refine Wp.fg ⟨[(0, .t (.sl 1 (p0.map (eInt .u8)))), (2, .nil), (3, .own 196609), (4, .t (.int .i64 x6)), (8, .t (.int .i64 x6)), (9, .t (.sl 1 (p0.map (eInt .u8)))), (10, .t (.int .i64 ((p0.length : Int)))), (11, .t (.bool (decide (x6 < ((p0.length : Int))))))], [], [(196609, .live 5 1 (x5.map (eInt .u8)))]⟩ ?_
      refine Wp.cond2 (b := decide (x6 < ((p0.length : Int)))) kr (fun hc => ?_) (fun hc => ?_)
      · have h := cond_t h hc
        refine Wp.skip ?_
        refine thenN ?_
        refine Wp.seq ?_
        refine Wp.block ?_
        refine Wp.rg [] [] ?_
        refine Runs.batch 4 kr ?_
        obtain ⟨y9, e_y9, h⟩ := bind_some h
        refine Runs.idxT (e := 5) (kk := .i64) (sz := 1) (eInt .u8) p0 x6 rfl kr kr kr kr kr kr e_y9 ?_
        refine Runs.batch 1 kr ?_
        obtain ⟨y10, e_y10, h⟩ := bind_some h
        refine Runs.idxO (e := 5) (e' := 5) (kk := .i64) (sz := 1) (eInt .u8) x5 x6 196609 rfl kr kr kr kr kr kr kr e_y10 ?_
        refine Runs.storeT (e := 5) (sz := 1) (m := 1) (eInt .u8) x5 196609 (Int.toNat x6) 0 y9 (.t (.int .u8 y9)) [.int .u8 y9] rfl kr kr kr kr kr kr kr kr (idx_some e_y10).2 kr kr ?_
        refine Runs.done ?_
        refine blkN ?_
        refine thenN ?_
        refine Wp.rg [] [] ?_
        refine Runs.alln ?_
        exact ⟨(p0, x5.set (Int.toNat x6) y9, bAdd .i64 x6 1), h, Le.of (mo := []) (mr := []) kr kr kr kr⟩
      · have h := cond_f h hc
        refine Wp.exit ?_
        refine thenE ?_
        refine thenE ?_
        refine blkE ?_
        refine thenN ?_
        exact ⟨x5, h, Le.of (mo := []) (mr := []) kr kr kr kr⟩
theorem laws_toImage_ok (u : Nat) (p0 : Image) (r : Image) (h : laws_toImage u p0 = some r) : CallOK Try.prog 47 [.agg [.t (.sl 1 (p0.fB.map (eInt .u8)))]] (.agg [.ow 5 1 (r.fB.map (eInt .u8))]) [] := by
  unfold laws_toImage at h
  refine CallOK.of_bodyK (fn := Try.f47) (m := true) [.agg [.t (.sl 1 (p0.fB.map (eInt .u8)))]] kr rfl kr kr kr kr kr ?_
  refine Wp.srg [] [] ?_
  refine Runs.alln ?_
  refine Wp.fg ⟨[(1, .obj 1 0), (2, .obj 2 0)], [(1, [.t (.sl 1 (p0.fB.map (eInt .u8)))]), (2, [.nil])], []⟩ ?_
  refine Wp.srg [] [] ?_
  refine Runs.alln ?_
  refine Wp.fg ⟨[(1, .obj 1 0), (2, .obj 2 0), (3, .obj 3 0)], [(1, [.t (.sl 1 (p0.fB.map (eInt .u8)))]), (2, [.nil]), (3, [.nil])], []⟩ ?_
  refine Wp.srg [] [] ?_
  refine Runs.batch 2 kr ?_
  obtain ⟨r1, e_r1, h⟩ := bind_some h
  refine Runs.callK false 6 14 [] [.t (.sl 1 (p0.fB.map (eInt .u8)))] [.one (.t (.sl 1 (p0.fB.map (eInt .u8))))] (.one (.ow 5 1 (r1.map (eInt .u8)))) [] rfl rfl kr kr kr kr kr (laws_toByteS_ok u p0.fB r1 e_r1) kr ?_
  refine Runs.alln ?_
  refine Wp.fg ⟨[(2, .obj 2 0), (3, .obj 3 0)], [(2, [.nil]), (3, [.own 393216])], [(393216, .live 5 1 (r1.map (eInt .u8)))]⟩ ?_
  refine Wp.srg [] [] ?_
  refine Runs.alln ?_
  refine Wp.fg ⟨[(2, .obj 2 0)], [(2, [.own 393216])], [(393216, .live 5 1 (r1.map (eInt .u8)))]⟩ ?_
  refine Wp.ret ?_
  have hr := Option.some.inj h
  subst hr
  exact RetK [.agg [.own 393216]] (.agg [.ow 5 1 (r1.map (eInt .u8))]) [] kr kr (.refl _) .nil
theorem laws_toImageS_ok (u : Nat) (p0 : List Image) (r : (List Image)) (h : laws_toImageS u p0 = some r) : CallOK Try.prog 19 [.one (.t (.sl 1 (p0.map Image.enc)))] (.one (.ow 67 1 (r.map Image.enc))) [] := by
  unfold laws_toImageS at h
  refine CallOK.of_bodyK (fn := Try.f19) (m := true) [.t (.sl 1 (p0.map Image.enc))] kr rfl kr kr kr kr kr ?_
  refine Wp.srg [] [] ?_
  refine Runs.alln ?_
  refine Wp.fg ⟨[(0, .t (.sl 1 (p0.map Image.enc))), (2, .nil)], [], []⟩ ?_
  refine Wp.srg [] [] ?_
  refine Runs.batch 1 kr ?_
  refine Runs.lenT (y := .t (.sl 1 (p0.map Image.enc))) (e := 70) Image.enc p0 1 rfl rfl rfl kr kr kr kr kr ?_
  obtain ⟨_, e_1, h⟩ := bind_some h
  obtain ⟨_, e_2, h⟩ := bind_some h
  refine Runs.mkS Image.enc ((Image.mk ([])) : Image) 7 67 1 24 ((p0.length : Int)) ((p0.length : Int)) rfl rfl kr kr kr kr kr kr (chk_some e_1) (of_decide_eq_true (chk_some e_2)) kr ?_
  refine Runs.alln ?_
  refine Wp.fg ⟨[(0, .t (.sl 1 (p0.map Image.enc))), (2, .nil), (3, .own 458752)], [], [(458752, .live 67 1 ((List.replicate (Int.toNat ((p0.length : Int))) ((Image.mk ([])) : Image)).map Image.enc))]⟩ ?_
  refine Wp.seqJ (α := (List Image)) (fun a => ⟨[(2, .nil), (3, .own 196609)], [], [(196609, .live 67 1 (a.map Image.enc))]⟩) (fun a => laws_toImageS_j1 u a = some r) ?_ ?_
  · rintro x12 h
    change laws_toImageS_j1 u x12 = some r at h
    unfold laws_toImageS_j1 at h
    refine Wp.srg [] [] ?_
    refine Runs.alln ?_
    refine Wp.fg ⟨[(2, .own 196609)], [], [(196609, .live 67 1 (x12.map Image.enc))]⟩ ?_
    refine Wp.ret ?_
    have hr := Option.some.inj h
    subst hr
    exact RetK [.own 196609] (.one (.ow 67 1 (x12.map Image.enc))) [] kr kr (.refl _) .nil
  · refine Wp.srg [] [] ?_
    refine Runs.alln ?_
    refine Wp.fg ⟨[(0, .t (.sl 1 (p0.map Image.enc))), (2, .nil), (3, .own 458752), (4, .t (.int .i64 0))], [], [(458752, .live 67 1 ((List.replicate (Int.toNat ((p0.length : Int))) ((Image.mk ([])) : Image)).map Image.enc))]⟩ ?_
    refine Wp.block ?_
    refine Wp.loopF (α := (List Image) × (List Image) × Int) (fun a => ⟨[(0, .t (.sl 1 (a.1.map Image.enc))), (2, .nil), (3, .own 196609), (4, .t (.int .i64 a.2.2))], [], [(196609, .live 67 1 (a.2.1.map Image.enc))]⟩) (fun k_laws_toImageS_l2 a => laws_toImageS_l2 u k_laws_toImageS_l2 a.1 a.2.1 a.2.2 = some r) ?_ ?_ u (p0, List.replicate (Int.toNat ((p0.length : Int))) ((Image.mk ([])) : Image), 0) h (Le.of (mo := []) (mr := [(196609, 458752)]) kr kr kr kr)
    · intro a h; unfold laws_toImageS_l2 at h; cases h
    · rintro k_laws_toImageS_l2 ⟨p0, x5, x6⟩ h
      change laws_toImageS_l2 u (k_laws_toImageS_l2 + 1) p0 x5 x6 = some r at h
      rw [laws_toImageS_l2] at h
      refine Wp.seq ?_
      refine Wp.srg [] [] ?_
      refine Runs.batch 2 kr ?_
      refine Runs.lenT (y := .t (.sl 1 (p0.map Image.enc))) (e := 70) Image.enc p0 1 rfl rfl rfl kr kr kr kr kr ?_
      refine Runs.alln ?_
      refine Wp.fg ⟨[(0, .t (.sl 1 (p0.map Image.enc))), (2, .nil), (3, .own 196609), (4, .t (.int .i64 x6)), (8, .t (.int .i64 x6)), (9, .t (.sl 1 (p0.map Image.enc))), (10, .t (.int .i64 ((p0.length : Int)))), (11, .t (.bool (decide (x6 < ((p0.length : Int))))))], [], [(196609, .live 67 1 (x5.map Image.enc))]⟩ ?_
      refine Wp.cond2 (b := decide (x6 < ((p0.length : Int)))) kr (fun hc => ?_) (fun hc => ?_)
      · have h := cond_t h hc
        refine Wp.skip ?_
        refine thenN ?_
        refine Wp.seq ?_
        refine Wp.block ?_
        refine Wp.rg [] [] ?_
        refine Runs.batch 4 kr ?_
        obtain ⟨y9, e_y9, h⟩ := bind_some h
        refine Runs.idxT (e := 70) (kk := .i64) (sz := 1) Image.enc p0 x6 rfl kr kr kr kr kr kr e_y9 ?_
        refine Runs.batch 1 kr ?_
        obtain ⟨r10, e_r10, h⟩ := bind_some h
        refine Runs.callK false 20 47 [] [.agg [.t (.sl 1 (y9.fB.map (eInt .u8)))]] [.agg [.t (.sl 1 (y9.fB.map (eInt .u8)))]] (.agg [.ow 5 1 (r10.fB.map (eInt .u8))]) [] rfl rfl kr kr kr kr kr (laws_toImage_ok u y9 r10 e_r10) kr ?_
        obtain ⟨y11, e_y11, h⟩ := bind_some h
        refine Runs.idxO (e := 67) (e' := 67) (kk := .i64) (sz := 1) Image.enc x5 x6 196609 rfl kr kr kr kr kr kr kr e_y11 ?_
        refine Runs.storeU (e := 67) (sz := 1) (m := 1) Image.enc x5 196609 (Int.toNat x6) 0 r10 (.agg [.own 1310720]) [.sl 1 (r10.fB.map (eInt .u8))] rfl kr kr kr kr kr kr kr kr (idx_some e_y11).2 kr kr ?_
        refine Runs.done ?_
        refine blkN ?_
        refine thenN ?_
        refine Wp.rg [] [] ?_
        refine Runs.alln ?_
        exact ⟨(p0, x5.set (Int.toNat x6) r10, bAdd .i64 x6 1), h, Le.of (mo := []) (mr := []) kr kr kr kr⟩
      · have h := cond_f h hc
        refine Wp.exit ?_
        refine thenE ?_
        refine thenE ?_
        refine blkE ?_
        refine thenN ?_
        exact ⟨x5, h, Le.of (mo := []) (mr := []) kr kr kr kr⟩
theorem laws_toSum_ok (u : Nat) (p0 : Sum) (r : Sum) (h : laws_toSum u p0 = some r) : CallOK Try.prog 198 [.agg [.t (.int .i64 p0.fW), .t (.int .i64 p0.fS)]] (.agg [.t (.int .i64 r.fW), .t (.int .i64 r.fS)]) [] := by
  unfold laws_toSum at h
  refine CallOK.of_bodyK (fn := Try.f198) (m := false) [.agg [.t (.int .i64 p0.fW), .t (.int .i64 p0.fS)]] kr rfl kr kr kr kr kr ?_
  refine Wp.srg [] [] ?_
  refine Runs.alln ?_
  refine Wp.fg ⟨[(1, .obj 1 0), (2, .obj 2 0)], [(1, [.t (.int .i64 p0.fW), .t (.int .i64 p0.fS)]), (2, [.t (.int .i64 0), .t (.int .i64 0)])], []⟩ ?_
  refine Wp.srg [] [] ?_
  refine Runs.alln ?_
  refine Wp.fg ⟨[(1, .obj 1 0), (2, .obj 2 0), (3, .obj 3 0)], [(1, [.t (.int .i64 p0.fW), .t (.int .i64 p0.fS)]), (2, [.t (.int .i64 0), .t (.int .i64 0)]), (3, [.t (.int .i64 0), .t (.int .i64 0)])], []⟩ ?_
  refine Wp.srg [] [] ?_
  refine Runs.alln ?_
  refine Wp.fg ⟨[(1, .obj 1 0), (2, .obj 2 0), (3, .obj 3 0)], [(1, [.t (.int .i64 p0.fW), .t (.int .i64 p0.fS)]), (2, [.t (.int .i64 0), .t (.int .i64 0)]), (3, [.t (.int .i64 p0.fW), .t (.int .i64 0)])], []⟩ ?_
  refine Wp.srg [] [] ?_
  refine Runs.alln ?_
  refine Wp.fg ⟨[(2, .obj 2 0), (3, .obj 3 0)], [(2, [.t (.int .i64 0), .t (.int .i64 0)]), (3, [.t (.int .i64 p0.fW), .t (.int .i64 p0.fS)])], []⟩ ?_
  refine Wp.srg [] [] ?_
  refine Runs.alln ?_
  refine Wp.fg ⟨[(2, .obj 2 0)], [(2, [.t (.int .i64 p0.fW), .t (.int .i64 p0.fS)])], []⟩ ?_
  refine Wp.ret ?_
  have hr := Option.some.inj h
  subst hr
  exact RetK [.agg [.t (.int .i64 p0.fW), .t (.int .i64 p0.fS)]] (.agg [.t (.int .i64 p0.fW), .t (.int .i64 p0.fS)]) [] kr kr (.refl _) .nil
theorem laws_toSumS_ok (u : Nat) (p0 : List Sum) (r : (List Sum)) (h : laws_toSumS u p0 = some r) : CallOK Try.prog 183 [.one (.t (.sl 2 (p0.map Sum.enc)))] (.one (.ow 166 2 (r.map Sum.enc))) [] := by
  unfold laws_toSumS at h
  refine CallOK.of_bodyK (fn := Try.f183) (m := true) [.t (.sl 2 (p0.map Sum.enc))] kr rfl kr kr kr kr kr ?_
  refine Wp.srg [] [] ?_
  refine Runs.alln ?_
  refine Wp.fg ⟨[(0, .t (.sl 2 (p0.map Sum.enc))), (2, .nil)], [], []⟩ ?_
  refine Wp.srg [] [] ?_
  refine Runs.batch 1 kr ?_
  refine Runs.lenT (y := .t (.sl 2 (p0.map Sum.enc))) (e := 208) Sum.enc p0 2 rfl rfl rfl kr kr kr kr kr ?_
  obtain ⟨_, e_1, h⟩ := bind_some h
  obtain ⟨_, e_2, h⟩ := bind_some h
  refine Runs.mkS Sum.enc ((Sum.mk 0 0) : Sum) 7 166 2 16 ((p0.length : Int)) ((p0.length : Int)) rfl rfl kr kr kr kr kr kr (chk_some e_1) (of_decide_eq_true (chk_some e_2)) kr ?_
  refine Runs.alln ?_
  refine Wp.fg ⟨[(0, .t (.sl 2 (p0.map Sum.enc))), (2, .nil), (3, .own 458752)], [], [(458752, .live 166 2 ((List.replicate (Int.toNat ((p0.length : Int))) ((Sum.mk 0 0) : Sum)).map Sum.enc))]⟩ ?_
  refine Wp.seqJ (α := (List Sum)) (fun a => ⟨[(2, .nil), (3, .own 196609)], [], [(196609, .live 166 2 (a.map Sum.enc))]⟩) (fun a => laws_toSumS_j1 u a = some r) ?_ ?_
  · rintro x12 h
    change laws_toSumS_j1 u x12 = some r at h
    unfold laws_toSumS_j1 at h
    refine Wp.srg [] [] ?_
    refine Runs.alln ?_
    refine Wp.fg ⟨[(2, .own 196609)], [], [(196609, .live 166 2 (x12.map Sum.enc))]⟩ ?_
    refine Wp.ret ?_
    have hr := Option.some.inj h
    subst hr
    exact RetK [.own 196609] (.one (.ow 166 2 (x12.map Sum.enc))) [] kr kr (.refl _) .nil
  · refine Wp.srg [] [] ?_
    refine Runs.alln ?_
    refine Wp.fg ⟨[(0, .t (.sl 2 (p0.map Sum.enc))), (2, .nil), (3, .own 458752), (4, .t (.int .i64 0))], [], [(458752, .live 166 2 ((List.replicate (Int.toNat ((p0.length : Int))) ((Sum.mk 0 0) : Sum)).map Sum.enc))]⟩ ?_
    refine Wp.block ?_
    refine Wp.loopF (α := (List Sum) × (List Sum) × Int) (fun a => ⟨[(0, .t (.sl 2 (a.1.map Sum.enc))), (2, .nil), (3, .own 196609), (4, .t (.int .i64 a.2.2))], [], [(196609, .live 166 2 (a.2.1.map Sum.enc))]⟩) (fun k_laws_toSumS_l2 a => laws_toSumS_l2 u k_laws_toSumS_l2 a.1 a.2.1 a.2.2 = some r) ?_ ?_ u (p0, List.replicate (Int.toNat ((p0.length : Int))) ((Sum.mk 0 0) : Sum), 0) h (Le.of (mo := []) (mr := [(196609, 458752)]) kr kr kr kr)
    · intro a h; unfold laws_toSumS_l2 at h; cases h
    · rintro k_laws_toSumS_l2 ⟨p0, x5, x6⟩ h
      change laws_toSumS_l2 u (k_laws_toSumS_l2 + 1) p0 x5 x6 = some r at h
      rw [laws_toSumS_l2] at h
      refine Wp.seq ?_
      refine Wp.srg [] [] ?_
      refine Runs.batch 2 kr ?_
      refine Runs.lenT (y := .t (.sl 2 (p0.map Sum.enc))) (e := 208) Sum.enc p0 2 rfl rfl rfl kr kr kr kr kr ?_
      refine Runs.alln ?_
      refine Wp.fg ⟨[(0, .t (.sl 2 (p0.map Sum.enc))), (2, .nil), (3, .own 196609), (4, .t (.int .i64 x6)), (8, .t (.int .i64 x6)), (9, .t (.sl 2 (p0.map Sum.enc))), (10, .t (.int .i64 ((p0.length : Int)))), (11, .t (.bool (decide (x6 < ((p0.length : Int))))))], [], [(196609, .live 166 2 (x5.map Sum.enc))]⟩ ?_
      refine Wp.cond2 (b := decide (x6 < ((p0.length : Int)))) kr (fun hc => ?_) (fun hc => ?_)
      · have h := cond_t h hc
        refine Wp.skip ?_
        refine thenN ?_
        refine Wp.seq ?_
        refine Wp.block ?_
        refine Wp.rg [] [] ?_
        refine Runs.batch 4 kr ?_
        obtain ⟨y9, e_y9, h⟩ := bind_some h
        refine Runs.idxT (e := 208) (kk := .i64) (sz := 2) Sum.enc p0 x6 rfl kr kr kr kr kr kr e_y9 ?_
        refine Runs.batch 1 kr ?_
        obtain ⟨r10, e_r10, h⟩ := bind_some h
        refine Runs.callK false 20 198 [] [.agg [.t (.int .i64 y9.fW), .t (.int .i64 y9.fS)]] [.agg [.t (.int .i64 y9.fW), .t (.int .i64 y9.fS)]] (.agg [.t (.int .i64 r10.fW), .t (.int .i64 r10.fS)]) [] rfl rfl kr kr kr kr kr (laws_toSum_ok u y9 r10 e_r10) kr ?_
        obtain ⟨y11, e_y11, h⟩ := bind_some h
        refine Runs.idxO (e := 166) (e' := 166) (kk := .i64) (sz := 2) Sum.enc x5 x6 196609 rfl kr kr kr kr kr kr kr e_y11 ?_
        refine Runs.storeT (e := 166) (sz := 2) (m := 2) Sum.enc x5 196609 (Int.toNat x6) 0 r10 (.agg [.t (.int .i64 r10.fW), .t (.int .i64 r10.fS)]) [.int .i64 r10.fW, .int .i64 r10.fS] rfl kr kr kr kr kr kr kr kr (idx_some e_y11).2 kr kr ?_
        refine Runs.done ?_
        refine blkN ?_
        refine thenN ?_
        refine Wp.rg [] [] ?_
        refine Runs.alln ?_
        exact ⟨(p0, x5.set (Int.toNat x6) r10, bAdd .i64 x6 1), h, Le.of (mo := []) (mr := []) kr kr kr kr⟩
      · have h := cond_f h hc
        refine Wp.exit ?_
        refine thenE ?_
        refine thenE ?_
        refine blkE ?_
        refine thenN ?_
        exact ⟨x5, h, Le.of (mo := []) (mr := []) kr kr kr kr⟩
theorem laws_toManifest_ok (u : Nat) (p0 : Manifest) (r : Manifest) (h : laws_toManifest u p0 = some r) : CallOK Try.prog 153 [.agg [.t (.int .i64 p0.fGen), .t (.int .i64 p0.fSize), .t (.int .i64 p0.fLen), .t (.sl 2 (p0.fSums.map Sum.enc))]] (.agg [.t (.int .i64 r.fGen), .t (.int .i64 r.fSize), .t (.int .i64 r.fLen), .ow 166 2 (r.fSums.map Sum.enc)]) [] := by
  unfold laws_toManifest at h
  refine CallOK.of_bodyK (fn := Try.f153) (m := true) [.agg ((Manifest.enc p0).map .t)] kr rfl kr kr kr kr kr ?_
  refine Wp.srg [] [] ?_
  refine Runs.alln ?_
  refine Wp.fg ⟨[(1, .obj 1 0), (2, .obj 2 0)], [(1, ((Manifest.enc p0).map .t)), (2, [.t (.int .i64 0), .t (.int .i64 0), .t (.int .i64 0), .nil])], []⟩ ?_
  refine Wp.srg [] [] ?_
  refine Runs.alln ?_
  refine Wp.fg ⟨[(1, .obj 1 0), (2, .obj 2 0), (3, .obj 3 0)], [(1, ((Manifest.enc p0).map .t)), (2, [.t (.int .i64 0), .t (.int .i64 0), .t (.int .i64 0), .nil]), (3, [.t (.int .i64 0), .t (.int .i64 0), .t (.int .i64 0), .nil])], []⟩ ?_
  refine Wp.srg [] [] ?_
  refine Runs.alln ?_
  refine Wp.fg ⟨[(1, .obj 1 0), (2, .obj 2 0), (3, .obj 3 0)], [(1, ((Manifest.enc p0).map .t)), (2, [.t (.int .i64 0), .t (.int .i64 0), .t (.int .i64 0), .nil]), (3, [.t (.int .i64 p0.fGen), .t (.int .i64 0), .t (.int .i64 0), .nil])], []⟩ ?_
  refine Wp.srg [] [] ?_
  refine Runs.alln ?_
  refine Wp.fg ⟨[(1, .obj 1 0), (2, .obj 2 0), (3, .obj 3 0)], [(1, ((Manifest.enc p0).map .t)), (2, [.t (.int .i64 0), .t (.int .i64 0), .t (.int .i64 0), .nil]), (3, [.t (.int .i64 p0.fGen), .t (.int .i64 p0.fSize), .t (.int .i64 0), .nil])], []⟩ ?_
  refine Wp.srg [] [] ?_
  refine Runs.alln ?_
  refine Wp.fg ⟨[(1, .obj 1 0), (2, .obj 2 0), (3, .obj 3 0)], [(1, ((Manifest.enc p0).map .t)), (2, [.t (.int .i64 0), .t (.int .i64 0), .t (.int .i64 0), .nil]), (3, [.t (.int .i64 p0.fGen), .t (.int .i64 p0.fSize), .t (.int .i64 p0.fLen), .nil])], []⟩ ?_
  refine Wp.srg [] [] ?_
  refine Runs.batch 2 kr ?_
  obtain ⟨r1, e_r1, h⟩ := bind_some h
  refine Runs.callK false 15 183 [] [.t (.sl 2 (p0.fSums.map Sum.enc))] [.one (.t (.sl 2 (p0.fSums.map Sum.enc)))] (.one (.ow 166 2 (r1.map Sum.enc))) [] rfl rfl kr kr kr kr kr (laws_toSumS_ok u p0.fSums r1 e_r1) kr ?_
  refine Runs.alln ?_
  refine Wp.fg ⟨[(2, .obj 2 0), (3, .obj 3 0)], [(2, [.t (.int .i64 0), .t (.int .i64 0), .t (.int .i64 0), .nil]), (3, [.t (.int .i64 p0.fGen), .t (.int .i64 p0.fSize), .t (.int .i64 p0.fLen), .own 983040])], [(983040, .live 166 2 (r1.map Sum.enc))]⟩ ?_
  refine Wp.srg [] [] ?_
  refine Runs.alln ?_
  refine Wp.fg ⟨[(2, .obj 2 0)], [(2, [.t (.int .i64 p0.fGen), .t (.int .i64 p0.fSize), .t (.int .i64 p0.fLen), .own 983040])], [(983040, .live 166 2 (r1.map Sum.enc))]⟩ ?_
  refine Wp.ret ?_
  have hr := Option.some.inj h
  subst hr
  exact RetK [.agg [.t (.int .i64 p0.fGen), .t (.int .i64 p0.fSize), .t (.int .i64 p0.fLen), .own 983040]] (.agg [.t (.int .i64 p0.fGen), .t (.int .i64 p0.fSize), .t (.int .i64 p0.fLen), .ow 166 2 (r1.map Sum.enc)]) [] kr kr (.refl _) .nil
theorem laws_toBuild_ok (u : Nat) (p0 : Build) (r : Build) (h : laws_toBuild u p0 = some r) : CallOK Try.prog 154 [.agg [.t (.int .i64 p0.fHave), .t (.sl 1 (p0.fBuf.map (eInt .u8)))]] (.agg [.t (.int .i64 r.fHave), .ow 5 1 (r.fBuf.map (eInt .u8))]) [] := by
  unfold laws_toBuild at h
  refine CallOK.of_bodyK (fn := Try.f154) (m := true) [.agg [.t (.int .i64 p0.fHave), .t (.sl 1 (p0.fBuf.map (eInt .u8)))]] kr rfl kr kr kr kr kr ?_
  refine Wp.srg [] [] ?_
  refine Runs.alln ?_
  refine Wp.fg ⟨[(1, .obj 1 0), (2, .obj 2 0)], [(1, [.t (.int .i64 p0.fHave), .t (.sl 1 (p0.fBuf.map (eInt .u8)))]), (2, [.t (.int .i64 0), .nil])], []⟩ ?_
  refine Wp.srg [] [] ?_
  refine Runs.alln ?_
  refine Wp.fg ⟨[(1, .obj 1 0), (2, .obj 2 0), (3, .obj 3 0)], [(1, [.t (.int .i64 p0.fHave), .t (.sl 1 (p0.fBuf.map (eInt .u8)))]), (2, [.t (.int .i64 0), .nil]), (3, [.t (.int .i64 0), .nil])], []⟩ ?_
  refine Wp.srg [] [] ?_
  refine Runs.alln ?_
  refine Wp.fg ⟨[(1, .obj 1 0), (2, .obj 2 0), (3, .obj 3 0)], [(1, [.t (.int .i64 p0.fHave), .t (.sl 1 (p0.fBuf.map (eInt .u8)))]), (2, [.t (.int .i64 0), .nil]), (3, [.t (.int .i64 p0.fHave), .nil])], []⟩ ?_
  refine Wp.srg [] [] ?_
  refine Runs.batch 2 kr ?_
  obtain ⟨r1, e_r1, h⟩ := bind_some h
  refine Runs.callK false 9 14 [] [.t (.sl 1 (p0.fBuf.map (eInt .u8)))] [.one (.t (.sl 1 (p0.fBuf.map (eInt .u8))))] (.one (.ow 5 1 (r1.map (eInt .u8)))) [] rfl rfl kr kr kr kr kr (laws_toByteS_ok u p0.fBuf r1 e_r1) kr ?_
  refine Runs.alln ?_
  refine Wp.fg ⟨[(2, .obj 2 0), (3, .obj 3 0)], [(2, [.t (.int .i64 0), .nil]), (3, [.t (.int .i64 p0.fHave), .own 589824])], [(589824, .live 5 1 (r1.map (eInt .u8)))]⟩ ?_
  refine Wp.srg [] [] ?_
  refine Runs.alln ?_
  refine Wp.fg ⟨[(2, .obj 2 0)], [(2, [.t (.int .i64 p0.fHave), .own 589824])], [(589824, .live 5 1 (r1.map (eInt .u8)))]⟩ ?_
  refine Wp.ret ?_
  have hr := Option.some.inj h
  subst hr
  exact RetK [.agg [.t (.int .i64 p0.fHave), .own 589824]] (.agg [.t (.int .i64 p0.fHave), .ow 5 1 (r1.map (eInt .u8))]) [] kr kr (.refl _) .nil
theorem laws_toKid_ok (u : Nat) (p0 : Kid) (r : Kid) (h : laws_toKid u p0 = some r) : CallOK Try.prog 184 [.agg [.t (.int .i64 p0.fId), .t (.int .i64 p0.fWant), .t (.int .i64 p0.fDone), .t (.int .i64 p0.fAge), .t (.int .i64 p0.fSent)]] (.agg [.t (.int .i64 r.fId), .t (.int .i64 r.fWant), .t (.int .i64 r.fDone), .t (.int .i64 r.fAge), .t (.int .i64 r.fSent)]) [] := by
  unfold laws_toKid at h
  refine CallOK.of_bodyK (fn := Try.f184) (m := false) [.agg ((Kid.enc p0).map .t)] kr rfl kr kr kr kr kr ?_
  refine Wp.srg [] [] ?_
  refine Runs.alln ?_
  refine Wp.fg ⟨[(1, .obj 1 0), (2, .obj 2 0)], [(1, ((Kid.enc p0).map .t)), (2, [.t (.int .i64 0), .t (.int .i64 0), .t (.int .i64 0), .t (.int .i64 0), .t (.int .i64 0)])], []⟩ ?_
  refine Wp.srg [] [] ?_
  refine Runs.alln ?_
  refine Wp.fg ⟨[(1, .obj 1 0), (2, .obj 2 0), (3, .obj 3 0)], [(1, ((Kid.enc p0).map .t)), (2, [.t (.int .i64 0), .t (.int .i64 0), .t (.int .i64 0), .t (.int .i64 0), .t (.int .i64 0)]), (3, [.t (.int .i64 0), .t (.int .i64 0), .t (.int .i64 0), .t (.int .i64 0), .t (.int .i64 0)])], []⟩ ?_
  refine Wp.srg [] [] ?_
  refine Runs.alln ?_
  refine Wp.fg ⟨[(1, .obj 1 0), (2, .obj 2 0), (3, .obj 3 0)], [(1, ((Kid.enc p0).map .t)), (2, [.t (.int .i64 0), .t (.int .i64 0), .t (.int .i64 0), .t (.int .i64 0), .t (.int .i64 0)]), (3, [.t (.int .i64 p0.fId), .t (.int .i64 0), .t (.int .i64 0), .t (.int .i64 0), .t (.int .i64 0)])], []⟩ ?_
  refine Wp.srg [] [] ?_
  refine Runs.alln ?_
  refine Wp.fg ⟨[(1, .obj 1 0), (2, .obj 2 0), (3, .obj 3 0)], [(1, ((Kid.enc p0).map .t)), (2, [.t (.int .i64 0), .t (.int .i64 0), .t (.int .i64 0), .t (.int .i64 0), .t (.int .i64 0)]), (3, [.t (.int .i64 p0.fId), .t (.int .i64 p0.fWant), .t (.int .i64 0), .t (.int .i64 0), .t (.int .i64 0)])], []⟩ ?_
  refine Wp.srg [] [] ?_
  refine Runs.alln ?_
  refine Wp.fg ⟨[(1, .obj 1 0), (2, .obj 2 0), (3, .obj 3 0)], [(1, ((Kid.enc p0).map .t)), (2, [.t (.int .i64 0), .t (.int .i64 0), .t (.int .i64 0), .t (.int .i64 0), .t (.int .i64 0)]), (3, [.t (.int .i64 p0.fId), .t (.int .i64 p0.fWant), .t (.int .i64 p0.fDone), .t (.int .i64 0), .t (.int .i64 0)])], []⟩ ?_
  refine Wp.srg [] [] ?_
  refine Runs.alln ?_
  refine Wp.fg ⟨[(1, .obj 1 0), (2, .obj 2 0), (3, .obj 3 0)], [(1, ((Kid.enc p0).map .t)), (2, [.t (.int .i64 0), .t (.int .i64 0), .t (.int .i64 0), .t (.int .i64 0), .t (.int .i64 0)]), (3, [.t (.int .i64 p0.fId), .t (.int .i64 p0.fWant), .t (.int .i64 p0.fDone), .t (.int .i64 p0.fAge), .t (.int .i64 0)])], []⟩ ?_
  refine Wp.srg [] [] ?_
  refine Runs.alln ?_
  refine Wp.fg ⟨[(2, .obj 2 0), (3, .obj 3 0)], [(2, [.t (.int .i64 0), .t (.int .i64 0), .t (.int .i64 0), .t (.int .i64 0), .t (.int .i64 0)]), (3, ((Kid.enc p0).map .t))], []⟩ ?_
  refine Wp.srg [] [] ?_
  refine Runs.alln ?_
  refine Wp.fg ⟨[(2, .obj 2 0)], [(2, ((Kid.enc p0).map .t))], []⟩ ?_
  refine Wp.ret ?_
  have hr := Option.some.inj h
  subst hr
  exact RetK [.agg ((Kid.enc p0).map .t)] (.agg ((Kid.enc p0).map .t)) [] kr kr (.refl _) .nil
theorem laws_toKidS_ok (u : Nat) (p0 : List Kid) (r : (List Kid)) (h : laws_toKidS u p0 = some r) : CallOK Try.prog 155 [.one (.t (.sl 5 (p0.map Kid.enc)))] (.one (.ow 156 5 (r.map Kid.enc))) [] := by
  unfold laws_toKidS at h
  refine CallOK.of_bodyK (fn := Try.f155) (m := true) [.t (.sl 5 (p0.map Kid.enc))] kr rfl kr kr kr kr kr ?_
  refine Wp.srg [] [] ?_
  refine Runs.alln ?_
  refine Wp.fg ⟨[(0, .t (.sl 5 (p0.map Kid.enc))), (2, .nil)], [], []⟩ ?_
  refine Wp.srg [] [] ?_
  refine Runs.batch 1 kr ?_
  refine Runs.lenT (y := .t (.sl 5 (p0.map Kid.enc))) (e := 199) Kid.enc p0 5 rfl rfl rfl kr kr kr kr kr ?_
  obtain ⟨_, e_1, h⟩ := bind_some h
  obtain ⟨_, e_2, h⟩ := bind_some h
  refine Runs.mkS Kid.enc ((Kid.mk 0 0 0 0 0) : Kid) 7 156 5 40 ((p0.length : Int)) ((p0.length : Int)) rfl rfl kr kr kr kr kr kr (chk_some e_1) (of_decide_eq_true (chk_some e_2)) kr ?_
  refine Runs.alln ?_
  refine Wp.fg ⟨[(0, .t (.sl 5 (p0.map Kid.enc))), (2, .nil), (3, .own 458752)], [], [(458752, .live 156 5 ((List.replicate (Int.toNat ((p0.length : Int))) ((Kid.mk 0 0 0 0 0) : Kid)).map Kid.enc))]⟩ ?_
  refine Wp.seqJ (α := (List Kid)) (fun a => ⟨[(2, .nil), (3, .own 196609)], [], [(196609, .live 156 5 (a.map Kid.enc))]⟩) (fun a => laws_toKidS_j1 u a = some r) ?_ ?_
  · rintro x12 h
    change laws_toKidS_j1 u x12 = some r at h
    unfold laws_toKidS_j1 at h
    refine Wp.srg [] [] ?_
    refine Runs.alln ?_
    refine Wp.fg ⟨[(2, .own 196609)], [], [(196609, .live 156 5 (x12.map Kid.enc))]⟩ ?_
    refine Wp.ret ?_
    have hr := Option.some.inj h
    subst hr
    exact RetK [.own 196609] (.one (.ow 156 5 (x12.map Kid.enc))) [] kr kr (.refl _) .nil
  · refine Wp.srg [] [] ?_
    refine Runs.alln ?_
    refine Wp.fg ⟨[(0, .t (.sl 5 (p0.map Kid.enc))), (2, .nil), (3, .own 458752), (4, .t (.int .i64 0))], [], [(458752, .live 156 5 ((List.replicate (Int.toNat ((p0.length : Int))) ((Kid.mk 0 0 0 0 0) : Kid)).map Kid.enc))]⟩ ?_
    refine Wp.block ?_
    refine Wp.loopF (α := (List Kid) × (List Kid) × Int) (fun a => ⟨[(0, .t (.sl 5 (a.1.map Kid.enc))), (2, .nil), (3, .own 196609), (4, .t (.int .i64 a.2.2))], [], [(196609, .live 156 5 (a.2.1.map Kid.enc))]⟩) (fun k_laws_toKidS_l2 a => laws_toKidS_l2 u k_laws_toKidS_l2 a.1 a.2.1 a.2.2 = some r) ?_ ?_ u (p0, List.replicate (Int.toNat ((p0.length : Int))) ((Kid.mk 0 0 0 0 0) : Kid), 0) h (Le.of (mo := []) (mr := [(196609, 458752)]) kr kr kr kr)
    · intro a h; unfold laws_toKidS_l2 at h; cases h
    · rintro k_laws_toKidS_l2 ⟨p0, x5, x6⟩ h
      change laws_toKidS_l2 u (k_laws_toKidS_l2 + 1) p0 x5 x6 = some r at h
      rw [laws_toKidS_l2] at h
      refine Wp.seq ?_
      refine Wp.srg [] [] ?_
      refine Runs.batch 2 kr ?_
      refine Runs.lenT (y := .t (.sl 5 (p0.map Kid.enc))) (e := 199) Kid.enc p0 5 rfl rfl rfl kr kr kr kr kr ?_
      refine Runs.alln ?_
      refine Wp.fg ⟨[(0, .t (.sl 5 (p0.map Kid.enc))), (2, .nil), (3, .own 196609), (4, .t (.int .i64 x6)), (8, .t (.int .i64 x6)), (9, .t (.sl 5 (p0.map Kid.enc))), (10, .t (.int .i64 ((p0.length : Int)))), (11, .t (.bool (decide (x6 < ((p0.length : Int))))))], [], [(196609, .live 156 5 (x5.map Kid.enc))]⟩ ?_
      refine Wp.cond2 (b := decide (x6 < ((p0.length : Int)))) kr (fun hc => ?_) (fun hc => ?_)
      · have h := cond_t h hc
        refine Wp.skip ?_
        refine thenN ?_
        refine Wp.seq ?_
        refine Wp.block ?_
        refine Wp.rg [] [] ?_
        refine Runs.batch 4 kr ?_
        obtain ⟨y9, e_y9, h⟩ := bind_some h
        refine Runs.idxT (e := 199) (kk := .i64) (sz := 5) Kid.enc p0 x6 rfl kr kr kr kr kr kr e_y9 ?_
        refine Runs.batch 1 kr ?_
        obtain ⟨r10, e_r10, h⟩ := bind_some h
        refine Runs.callK false 20 184 [] [.agg ((Kid.enc y9).map .t)] [.agg ((Kid.enc y9).map .t)] (.agg ((Kid.enc r10).map .t)) [] rfl rfl kr kr kr kr kr (laws_toKid_ok u y9 r10 e_r10) kr ?_
        obtain ⟨y11, e_y11, h⟩ := bind_some h
        refine Runs.idxO (e := 156) (e' := 156) (kk := .i64) (sz := 5) Kid.enc x5 x6 196609 rfl kr kr kr kr kr kr kr e_y11 ?_
        refine Runs.storeT (e := 156) (sz := 5) (m := 5) Kid.enc x5 196609 (Int.toNat x6) 0 r10 (.agg ((Kid.enc r10).map .t)) (Kid.enc r10) rfl kr kr kr kr kr kr kr kr (idx_some e_y11).2 kr kr ?_
        refine Runs.done ?_
        refine blkN ?_
        refine thenN ?_
        refine Wp.rg [] [] ?_
        refine Runs.alln ?_
        exact ⟨(p0, x5.set (Int.toNat x6) r10, bAdd .i64 x6 1), h, Le.of (mo := []) (mr := []) kr kr kr kr⟩
      · have h := cond_f h hc
        refine Wp.exit ?_
        refine thenE ?_
        refine thenE ?_
        refine blkE ?_
        refine thenN ?_
        exact ⟨x5, h, Le.of (mo := []) (mr := []) kr kr kr kr⟩
theorem laws_toNode_ok (u : Nat) (p0 : Node) (r : Node) (h : laws_toNode u p0 = some r) : CallOK Try.prog 112 [.agg [.t (.bool p0.fOn), .t (.int .i64 p0.fBoss), .t (.int .i64 p0.fQuiet), .t (.int .i64 p0.fMan.fGen), .t (.int .i64 p0.fMan.fSize), .t (.int .i64 p0.fMan.fLen), .t (.sl 2 (p0.fMan.fSums.map Sum.enc)), .t (.int .i64 p0.fBld.fHave), .t (.sl 1 (p0.fBld.fBuf.map (eInt .u8))), .t (.int .i64 p0.fPhase), .t (.sl 5 (p0.fKids.map Kid.enc)), .t (.int .i64 p0.fDrops)]] (.agg [.t (.bool r.fOn), .t (.int .i64 r.fBoss), .t (.int .i64 r.fQuiet), .t (.int .i64 r.fMan.fGen), .t (.int .i64 r.fMan.fSize), .t (.int .i64 r.fMan.fLen), .ow 166 2 (r.fMan.fSums.map Sum.enc), .t (.int .i64 r.fBld.fHave), .ow 5 1 (r.fBld.fBuf.map (eInt .u8)), .t (.int .i64 r.fPhase), .ow 156 5 (r.fKids.map Kid.enc), .t (.int .i64 r.fDrops)]) [] := by
  unfold laws_toNode at h
  refine CallOK.of_bodyK (fn := Try.f112) (m := true) [.agg ((Node.enc p0).map .t)] kr rfl kr kr kr kr kr ?_
  refine Wp.srg [] [] ?_
  refine Runs.alln ?_
  refine Wp.fg ⟨[(1, .obj 1 0), (2, .obj 2 0)], [(1, ((Node.enc p0).map .t)), (2, [.t (.bool false), .t (.int .i64 0), .t (.int .i64 0), .t (.int .i64 0), .t (.int .i64 0), .t (.int .i64 0), .nil, .t (.int .i64 0), .nil, .t (.int .i64 0), .nil, .t (.int .i64 0)])], []⟩ ?_
  refine Wp.srg [] [] ?_
  refine Runs.alln ?_
  refine Wp.fg ⟨[(1, .obj 1 0), (2, .obj 2 0), (3, .obj 3 0)], [(1, ((Node.enc p0).map .t)), (2, [.t (.bool false), .t (.int .i64 0), .t (.int .i64 0), .t (.int .i64 0), .t (.int .i64 0), .t (.int .i64 0), .nil, .t (.int .i64 0), .nil, .t (.int .i64 0), .nil, .t (.int .i64 0)]), (3, [.t (.bool false), .t (.int .i64 0), .t (.int .i64 0), .t (.int .i64 0), .t (.int .i64 0), .t (.int .i64 0), .nil, .t (.int .i64 0), .nil, .t (.int .i64 0), .nil, .t (.int .i64 0)])], []⟩ ?_
  refine Wp.srg [] [] ?_
  refine Runs.alln ?_
  refine Wp.fg ⟨[(1, .obj 1 0), (2, .obj 2 0), (3, .obj 3 0)], [(1, ((Node.enc p0).map .t)), (2, [.t (.bool false), .t (.int .i64 0), .t (.int .i64 0), .t (.int .i64 0), .t (.int .i64 0), .t (.int .i64 0), .nil, .t (.int .i64 0), .nil, .t (.int .i64 0), .nil, .t (.int .i64 0)]), (3, [.t (.bool p0.fOn), .t (.int .i64 0), .t (.int .i64 0), .t (.int .i64 0), .t (.int .i64 0), .t (.int .i64 0), .nil, .t (.int .i64 0), .nil, .t (.int .i64 0), .nil, .t (.int .i64 0)])], []⟩ ?_
  refine Wp.srg [] [] ?_
  refine Runs.alln ?_
  refine Wp.fg ⟨[(1, .obj 1 0), (2, .obj 2 0), (3, .obj 3 0)], [(1, ((Node.enc p0).map .t)), (2, [.t (.bool false), .t (.int .i64 0), .t (.int .i64 0), .t (.int .i64 0), .t (.int .i64 0), .t (.int .i64 0), .nil, .t (.int .i64 0), .nil, .t (.int .i64 0), .nil, .t (.int .i64 0)]), (3, [.t (.bool p0.fOn), .t (.int .i64 p0.fBoss), .t (.int .i64 0), .t (.int .i64 0), .t (.int .i64 0), .t (.int .i64 0), .nil, .t (.int .i64 0), .nil, .t (.int .i64 0), .nil, .t (.int .i64 0)])], []⟩ ?_
  refine Wp.srg [] [] ?_
  refine Runs.alln ?_
  refine Wp.fg ⟨[(1, .obj 1 0), (2, .obj 2 0), (3, .obj 3 0)], [(1, ((Node.enc p0).map .t)), (2, [.t (.bool false), .t (.int .i64 0), .t (.int .i64 0), .t (.int .i64 0), .t (.int .i64 0), .t (.int .i64 0), .nil, .t (.int .i64 0), .nil, .t (.int .i64 0), .nil, .t (.int .i64 0)]), (3, [.t (.bool p0.fOn), .t (.int .i64 p0.fBoss), .t (.int .i64 p0.fQuiet), .t (.int .i64 0), .t (.int .i64 0), .t (.int .i64 0), .nil, .t (.int .i64 0), .nil, .t (.int .i64 0), .nil, .t (.int .i64 0)])], []⟩ ?_
  refine Wp.srg [] [] ?_
  refine Runs.batch 2 kr ?_
  obtain ⟨r1, e_r1, h⟩ := bind_some h
  refine Runs.callK false 15 153 [] [.agg ((Manifest.enc p0.fMan).map .t)] [.agg ((Manifest.enc p0.fMan).map .t)] (.agg [.t (.int .i64 r1.fGen), .t (.int .i64 r1.fSize), .t (.int .i64 r1.fLen), .ow 166 2 (r1.fSums.map Sum.enc)]) [] rfl rfl kr kr kr kr kr (laws_toManifest_ok u p0.fMan r1 e_r1) kr ?_
  refine Runs.alln ?_
  refine Wp.fg ⟨[(1, .obj 1 0), (2, .obj 2 0), (3, .obj 3 0)], [(1, ((Node.enc p0).map .t)), (2, [.t (.bool false), .t (.int .i64 0), .t (.int .i64 0), .t (.int .i64 0), .t (.int .i64 0), .t (.int .i64 0), .nil, .t (.int .i64 0), .nil, .t (.int .i64 0), .nil, .t (.int .i64 0)]), (3, [.t (.bool p0.fOn), .t (.int .i64 p0.fBoss), .t (.int .i64 p0.fQuiet), .t (.int .i64 r1.fGen), .t (.int .i64 r1.fSize), .t (.int .i64 r1.fLen), .own 983043, .t (.int .i64 0), .nil, .t (.int .i64 0), .nil, .t (.int .i64 0)])], [(983043, .live 166 2 (r1.fSums.map Sum.enc))]⟩ ?_
  refine Wp.srg [] [] ?_
  refine Runs.batch 2 kr ?_
  obtain ⟨r2, e_r2, h⟩ := bind_some h
  refine Runs.callK false 19 154 [] [.agg [.t (.int .i64 p0.fBld.fHave), .t (.sl 1 (p0.fBld.fBuf.map (eInt .u8)))]] [.agg [.t (.int .i64 p0.fBld.fHave), .t (.sl 1 (p0.fBld.fBuf.map (eInt .u8)))]] (.agg [.t (.int .i64 r2.fHave), .ow 5 1 (r2.fBuf.map (eInt .u8))]) [] rfl rfl kr kr kr kr kr (laws_toBuild_ok u p0.fBld r2 e_r2) kr ?_
  refine Runs.alln ?_
  refine Wp.fg ⟨[(1, .obj 1 0), (2, .obj 2 0), (3, .obj 3 0)], [(1, ((Node.enc p0).map .t)), (2, [.t (.bool false), .t (.int .i64 0), .t (.int .i64 0), .t (.int .i64 0), .t (.int .i64 0), .t (.int .i64 0), .nil, .t (.int .i64 0), .nil, .t (.int .i64 0), .nil, .t (.int .i64 0)]), (3, [.t (.bool p0.fOn), .t (.int .i64 p0.fBoss), .t (.int .i64 p0.fQuiet), .t (.int .i64 r1.fGen), .t (.int .i64 r1.fSize), .t (.int .i64 r1.fLen), .own 983043, .t (.int .i64 r2.fHave), .own 1245185, .t (.int .i64 0), .nil, .t (.int .i64 0)])], [(983043, .live 166 2 (r1.fSums.map Sum.enc)), (1245185, .live 5 1 (r2.fBuf.map (eInt .u8)))]⟩ ?_
  refine Wp.srg [] [] ?_
  refine Runs.alln ?_
  refine Wp.fg ⟨[(1, .obj 1 0), (2, .obj 2 0), (3, .obj 3 0)], [(1, ((Node.enc p0).map .t)), (2, [.t (.bool false), .t (.int .i64 0), .t (.int .i64 0), .t (.int .i64 0), .t (.int .i64 0), .t (.int .i64 0), .nil, .t (.int .i64 0), .nil, .t (.int .i64 0), .nil, .t (.int .i64 0)]), (3, [.t (.bool p0.fOn), .t (.int .i64 p0.fBoss), .t (.int .i64 p0.fQuiet), .t (.int .i64 r1.fGen), .t (.int .i64 r1.fSize), .t (.int .i64 r1.fLen), .own 983043, .t (.int .i64 r2.fHave), .own 1245185, .t (.int .i64 p0.fPhase), .nil, .t (.int .i64 0)])], [(983043, .live 166 2 (r1.fSums.map Sum.enc)), (1245185, .live 5 1 (r2.fBuf.map (eInt .u8)))]⟩ ?_
  refine Wp.srg [] [] ?_
  refine Runs.batch 2 kr ?_
  obtain ⟨r3, e_r3, h⟩ := bind_some h
  refine Runs.callK false 26 155 [] [.t (.sl 5 (p0.fKids.map Kid.enc))] [.one (.t (.sl 5 (p0.fKids.map Kid.enc)))] (.one (.ow 156 5 (r3.map Kid.enc))) [] rfl rfl kr kr kr kr kr (laws_toKidS_ok u p0.fKids r3 e_r3) kr ?_
  refine Runs.alln ?_
  refine Wp.fg ⟨[(1, .obj 1 0), (2, .obj 2 0), (3, .obj 3 0)], [(1, ((Node.enc p0).map .t)), (2, [.t (.bool false), .t (.int .i64 0), .t (.int .i64 0), .t (.int .i64 0), .t (.int .i64 0), .t (.int .i64 0), .nil, .t (.int .i64 0), .nil, .t (.int .i64 0), .nil, .t (.int .i64 0)]), (3, [.t (.bool p0.fOn), .t (.int .i64 p0.fBoss), .t (.int .i64 p0.fQuiet), .t (.int .i64 r1.fGen), .t (.int .i64 r1.fSize), .t (.int .i64 r1.fLen), .own 983043, .t (.int .i64 r2.fHave), .own 1245185, .t (.int .i64 p0.fPhase), .own 1703936, .t (.int .i64 0)])], [(983043, .live 166 2 (r1.fSums.map Sum.enc)), (1245185, .live 5 1 (r2.fBuf.map (eInt .u8))), (1703936, .live 156 5 (r3.map Kid.enc))]⟩ ?_
  refine Wp.srg [] [] ?_
  refine Runs.alln ?_
  refine Wp.fg ⟨[(2, .obj 2 0), (3, .obj 3 0)], [(2, [.t (.bool false), .t (.int .i64 0), .t (.int .i64 0), .t (.int .i64 0), .t (.int .i64 0), .t (.int .i64 0), .nil, .t (.int .i64 0), .nil, .t (.int .i64 0), .nil, .t (.int .i64 0)]), (3, [.t (.bool p0.fOn), .t (.int .i64 p0.fBoss), .t (.int .i64 p0.fQuiet), .t (.int .i64 r1.fGen), .t (.int .i64 r1.fSize), .t (.int .i64 r1.fLen), .own 983043, .t (.int .i64 r2.fHave), .own 1245185, .t (.int .i64 p0.fPhase), .own 1703936, .t (.int .i64 p0.fDrops)])], [(983043, .live 166 2 (r1.fSums.map Sum.enc)), (1245185, .live 5 1 (r2.fBuf.map (eInt .u8))), (1703936, .live 156 5 (r3.map Kid.enc))]⟩ ?_
  refine Wp.srg [] [] ?_
  refine Runs.alln ?_
  refine Wp.fg ⟨[(2, .obj 2 0)], [(2, [.t (.bool p0.fOn), .t (.int .i64 p0.fBoss), .t (.int .i64 p0.fQuiet), .t (.int .i64 r1.fGen), .t (.int .i64 r1.fSize), .t (.int .i64 r1.fLen), .own 983043, .t (.int .i64 r2.fHave), .own 1245185, .t (.int .i64 p0.fPhase), .own 1703936, .t (.int .i64 p0.fDrops)])], [(983043, .live 166 2 (r1.fSums.map Sum.enc)), (1245185, .live 5 1 (r2.fBuf.map (eInt .u8))), (1703936, .live 156 5 (r3.map Kid.enc))]⟩ ?_
  refine Wp.ret ?_
  have hr := Option.some.inj h
  subst hr
  exact RetK [.agg [.t (.bool p0.fOn), .t (.int .i64 p0.fBoss), .t (.int .i64 p0.fQuiet), .t (.int .i64 r1.fGen), .t (.int .i64 r1.fSize), .t (.int .i64 r1.fLen), .own 983043, .t (.int .i64 r2.fHave), .own 1245185, .t (.int .i64 p0.fPhase), .own 1703936, .t (.int .i64 p0.fDrops)]] (.agg [.t (.bool p0.fOn), .t (.int .i64 p0.fBoss), .t (.int .i64 p0.fQuiet), .t (.int .i64 r1.fGen), .t (.int .i64 r1.fSize), .t (.int .i64 r1.fLen), .ow 166 2 (r1.fSums.map Sum.enc), .t (.int .i64 r2.fHave), .ow 5 1 (r2.fBuf.map (eInt .u8)), .t (.int .i64 p0.fPhase), .ow 156 5 (r3.map Kid.enc), .t (.int .i64 p0.fDrops)]) [] kr kr (.refl _) .nil
theorem laws_toNodeS_ok (u : Nat) (p0 : List Node) (r : (List Node)) (h : laws_toNodeS u p0 = some r) : CallOK Try.prog 61 [.one (.t (.sl 12 (p0.map Node.enc)))] (.one (.ow 114 12 (r.map Node.enc))) [] := by
  unfold laws_toNodeS at h
  refine CallOK.of_bodyK (fn := Try.f61) (m := true) [.t (.sl 12 (p0.map Node.enc))] kr rfl kr kr kr kr kr ?_
  refine Wp.srg [] [] ?_
  refine Runs.alln ?_
  refine Wp.fg ⟨[(0, .t (.sl 12 (p0.map Node.enc))), (2, .nil)], [], []⟩ ?_
  refine Wp.srg [] [] ?_
  refine Runs.batch 1 kr ?_
  refine Runs.lenT (y := .t (.sl 12 (p0.map Node.enc))) (e := 134) Node.enc p0 12 rfl rfl rfl kr kr kr kr kr ?_
  obtain ⟨_, e_1, h⟩ := bind_some h
  obtain ⟨_, e_2, h⟩ := bind_some h
  refine Runs.mkS Node.enc ((Node.mk false 0 0 ((Manifest.mk 0 0 0 ([]))) ((Build.mk 0 ([]))) 0 ([]) 0) : Node) 7 114 12 144 ((p0.length : Int)) ((p0.length : Int)) rfl rfl kr kr kr kr kr kr (chk_some e_1) (of_decide_eq_true (chk_some e_2)) kr ?_
  refine Runs.alln ?_
  refine Wp.fg ⟨[(0, .t (.sl 12 (p0.map Node.enc))), (2, .nil), (3, .own 458752)], [], [(458752, .live 114 12 ((List.replicate (Int.toNat ((p0.length : Int))) ((Node.mk false 0 0 ((Manifest.mk 0 0 0 ([]))) ((Build.mk 0 ([]))) 0 ([]) 0) : Node)).map Node.enc))]⟩ ?_
  refine Wp.seqJ (α := (List Node)) (fun a => ⟨[(2, .nil), (3, .own 196609)], [], [(196609, .live 114 12 (a.map Node.enc))]⟩) (fun a => laws_toNodeS_j1 u a = some r) ?_ ?_
  · rintro x12 h
    change laws_toNodeS_j1 u x12 = some r at h
    unfold laws_toNodeS_j1 at h
    refine Wp.srg [] [] ?_
    refine Runs.alln ?_
    refine Wp.fg ⟨[(2, .own 196609)], [], [(196609, .live 114 12 (x12.map Node.enc))]⟩ ?_
    refine Wp.ret ?_
    have hr := Option.some.inj h
    subst hr
    exact RetK [.own 196609] (.one (.ow 114 12 (x12.map Node.enc))) [] kr kr (.refl _) .nil
  · refine Wp.srg [] [] ?_
    refine Runs.alln ?_
    refine Wp.fg ⟨[(0, .t (.sl 12 (p0.map Node.enc))), (2, .nil), (3, .own 458752), (4, .t (.int .i64 0))], [], [(458752, .live 114 12 ((List.replicate (Int.toNat ((p0.length : Int))) ((Node.mk false 0 0 ((Manifest.mk 0 0 0 ([]))) ((Build.mk 0 ([]))) 0 ([]) 0) : Node)).map Node.enc))]⟩ ?_
    refine Wp.block ?_
    refine Wp.loopF (α := (List Node) × (List Node) × Int) (fun a => ⟨[(0, .t (.sl 12 (a.1.map Node.enc))), (2, .nil), (3, .own 196609), (4, .t (.int .i64 a.2.2))], [], [(196609, .live 114 12 (a.2.1.map Node.enc))]⟩) (fun k_laws_toNodeS_l2 a => laws_toNodeS_l2 u k_laws_toNodeS_l2 a.1 a.2.1 a.2.2 = some r) ?_ ?_ u (p0, List.replicate (Int.toNat ((p0.length : Int))) ((Node.mk false 0 0 ((Manifest.mk 0 0 0 ([]))) ((Build.mk 0 ([]))) 0 ([]) 0) : Node), 0) h (Le.of (mo := []) (mr := [(196609, 458752)]) kr kr kr kr)
    · intro a h; unfold laws_toNodeS_l2 at h; cases h
    · rintro k_laws_toNodeS_l2 ⟨p0, x5, x6⟩ h
      change laws_toNodeS_l2 u (k_laws_toNodeS_l2 + 1) p0 x5 x6 = some r at h
      rw [laws_toNodeS_l2] at h
      refine Wp.seq ?_
      refine Wp.srg [] [] ?_
      refine Runs.batch 2 kr ?_
      refine Runs.lenT (y := .t (.sl 12 (p0.map Node.enc))) (e := 134) Node.enc p0 12 rfl rfl rfl kr kr kr kr kr ?_
      refine Runs.alln ?_
      refine Wp.fg ⟨[(0, .t (.sl 12 (p0.map Node.enc))), (2, .nil), (3, .own 196609), (4, .t (.int .i64 x6)), (8, .t (.int .i64 x6)), (9, .t (.sl 12 (p0.map Node.enc))), (10, .t (.int .i64 ((p0.length : Int)))), (11, .t (.bool (decide (x6 < ((p0.length : Int))))))], [], [(196609, .live 114 12 (x5.map Node.enc))]⟩ ?_
      refine Wp.cond2 (b := decide (x6 < ((p0.length : Int)))) kr (fun hc => ?_) (fun hc => ?_)
      · have h := cond_t h hc
        refine Wp.skip ?_
        refine thenN ?_
        refine Wp.seq ?_
        refine Wp.block ?_
        refine Wp.rg [] [] ?_
        refine Runs.batch 4 kr ?_
        obtain ⟨y9, e_y9, h⟩ := bind_some h
        refine Runs.idxT (e := 134) (kk := .i64) (sz := 12) Node.enc p0 x6 rfl kr kr kr kr kr kr e_y9 ?_
        refine Runs.batch 1 kr ?_
        obtain ⟨r10, e_r10, h⟩ := bind_some h
        refine Runs.callK false 20 112 [] [.agg ((Node.enc y9).map .t)] [.agg ((Node.enc y9).map .t)] (.agg [.t (.bool r10.fOn), .t (.int .i64 r10.fBoss), .t (.int .i64 r10.fQuiet), .t (.int .i64 r10.fMan.fGen), .t (.int .i64 r10.fMan.fSize), .t (.int .i64 r10.fMan.fLen), .ow 166 2 (r10.fMan.fSums.map Sum.enc), .t (.int .i64 r10.fBld.fHave), .ow 5 1 (r10.fBld.fBuf.map (eInt .u8)), .t (.int .i64 r10.fPhase), .ow 156 5 (r10.fKids.map Kid.enc), .t (.int .i64 r10.fDrops)]) [] rfl rfl kr kr kr kr kr (laws_toNode_ok u y9 r10 e_r10) kr ?_
        obtain ⟨y11, e_y11, h⟩ := bind_some h
        refine Runs.idxO (e := 114) (e' := 114) (kk := .i64) (sz := 12) Node.enc x5 x6 196609 rfl kr kr kr kr kr kr kr e_y11 ?_
        refine Runs.storeU (e := 114) (sz := 12) (m := 12) Node.enc x5 196609 (Int.toNat x6) 0 r10 (.agg [.t (.bool r10.fOn), .t (.int .i64 r10.fBoss), .t (.int .i64 r10.fQuiet), .t (.int .i64 r10.fMan.fGen), .t (.int .i64 r10.fMan.fSize), .t (.int .i64 r10.fMan.fLen), .own 1310726, .t (.int .i64 r10.fBld.fHave), .own 1310728, .t (.int .i64 r10.fPhase), .own 1310730, .t (.int .i64 r10.fDrops)]) (Node.enc r10) rfl kr kr kr kr kr kr kr kr (idx_some e_y11).2 kr kr ?_
        refine Runs.done ?_
        refine blkN ?_
        refine thenN ?_
        refine Wp.rg [] [] ?_
        refine Runs.alln ?_
        exact ⟨(p0, x5.set (Int.toNat x6) r10, bAdd .i64 x6 1), h, Le.of (mo := []) (mr := []) kr kr kr kr⟩
      · have h := cond_f h hc
        refine Wp.exit ?_
        refine thenE ?_
        refine thenE ?_
        refine blkE ?_
        refine thenN ?_
        exact ⟨x5, h, Le.of (mo := []) (mr := []) kr kr kr kr⟩
theorem laws_toRecord_ok (u : Nat) (p0 : Record) (r : Record) (h : laws_toRecord u p0 = some r) : CallOK Try.prog 156 [.agg [.t (.int .i64 p0.fGen), .t (.int .i64 p0.fSlot), .t (.int .i64 p0.fLen)]] (.agg [.t (.int .i64 r.fGen), .t (.int .i64 r.fSlot), .t (.int .i64 r.fLen)]) [] := by
  unfold laws_toRecord at h
  refine CallOK.of_bodyK (fn := Try.f156) (m := false) [.agg ((Record.enc p0).map .t)] kr rfl kr kr kr kr kr ?_
  refine Wp.srg [] [] ?_
  refine Runs.alln ?_
  refine Wp.fg ⟨[(1, .obj 1 0), (2, .obj 2 0)], [(1, ((Record.enc p0).map .t)), (2, [.t (.int .i64 0), .t (.int .i64 0), .t (.int .i64 0)])], []⟩ ?_
  refine Wp.srg [] [] ?_
  refine Runs.alln ?_
  refine Wp.fg ⟨[(1, .obj 1 0), (2, .obj 2 0), (3, .obj 3 0)], [(1, ((Record.enc p0).map .t)), (2, [.t (.int .i64 0), .t (.int .i64 0), .t (.int .i64 0)]), (3, [.t (.int .i64 0), .t (.int .i64 0), .t (.int .i64 0)])], []⟩ ?_
  refine Wp.srg [] [] ?_
  refine Runs.alln ?_
  refine Wp.fg ⟨[(1, .obj 1 0), (2, .obj 2 0), (3, .obj 3 0)], [(1, ((Record.enc p0).map .t)), (2, [.t (.int .i64 0), .t (.int .i64 0), .t (.int .i64 0)]), (3, [.t (.int .i64 p0.fGen), .t (.int .i64 0), .t (.int .i64 0)])], []⟩ ?_
  refine Wp.srg [] [] ?_
  refine Runs.alln ?_
  refine Wp.fg ⟨[(1, .obj 1 0), (2, .obj 2 0), (3, .obj 3 0)], [(1, ((Record.enc p0).map .t)), (2, [.t (.int .i64 0), .t (.int .i64 0), .t (.int .i64 0)]), (3, [.t (.int .i64 p0.fGen), .t (.int .i64 p0.fSlot), .t (.int .i64 0)])], []⟩ ?_
  refine Wp.srg [] [] ?_
  refine Runs.alln ?_
  refine Wp.fg ⟨[(2, .obj 2 0), (3, .obj 3 0)], [(2, [.t (.int .i64 0), .t (.int .i64 0), .t (.int .i64 0)]), (3, ((Record.enc p0).map .t))], []⟩ ?_
  refine Wp.srg [] [] ?_
  refine Runs.alln ?_
  refine Wp.fg ⟨[(2, .obj 2 0)], [(2, ((Record.enc p0).map .t))], []⟩ ?_
  refine Wp.ret ?_
  have hr := Option.some.inj h
  subst hr
  exact RetK [.agg ((Record.enc p0).map .t)] (.agg ((Record.enc p0).map .t)) [] kr kr (.refl _) .nil
theorem laws_toPut_ok (u : Nat) (p0 : Put) (r : Put) (h : laws_toPut u p0 = some r) : CallOK Try.prog 185 [.agg [.t (.int .i64 p0.fWhat), .t (.int .i64 p0.fAt), .t (.sl 1 (p0.fB.map (eInt .u8))), .t (.int .i64 p0.fR.fGen), .t (.int .i64 p0.fR.fSlot), .t (.int .i64 p0.fR.fLen)]] (.agg [.t (.int .i64 r.fWhat), .t (.int .i64 r.fAt), .ow 5 1 (r.fB.map (eInt .u8)), .t (.int .i64 r.fR.fGen), .t (.int .i64 r.fR.fSlot), .t (.int .i64 r.fR.fLen)]) [] := by
  unfold laws_toPut at h
  refine CallOK.of_bodyK (fn := Try.f185) (m := true) [.agg ((Put.enc p0).map .t)] kr rfl kr kr kr kr kr ?_
  refine Wp.srg [] [] ?_
  refine Runs.alln ?_
  refine Wp.fg ⟨[(1, .obj 1 0), (2, .obj 2 0)], [(1, ((Put.enc p0).map .t)), (2, [.t (.int .i64 0), .t (.int .i64 0), .nil, .t (.int .i64 0), .t (.int .i64 0), .t (.int .i64 0)])], []⟩ ?_
  refine Wp.srg [] [] ?_
  refine Runs.alln ?_
  refine Wp.fg ⟨[(1, .obj 1 0), (2, .obj 2 0), (3, .obj 3 0)], [(1, ((Put.enc p0).map .t)), (2, [.t (.int .i64 0), .t (.int .i64 0), .nil, .t (.int .i64 0), .t (.int .i64 0), .t (.int .i64 0)]), (3, [.t (.int .i64 0), .t (.int .i64 0), .nil, .t (.int .i64 0), .t (.int .i64 0), .t (.int .i64 0)])], []⟩ ?_
  refine Wp.srg [] [] ?_
  refine Runs.alln ?_
  refine Wp.fg ⟨[(1, .obj 1 0), (2, .obj 2 0), (3, .obj 3 0)], [(1, ((Put.enc p0).map .t)), (2, [.t (.int .i64 0), .t (.int .i64 0), .nil, .t (.int .i64 0), .t (.int .i64 0), .t (.int .i64 0)]), (3, [.t (.int .i64 p0.fWhat), .t (.int .i64 0), .nil, .t (.int .i64 0), .t (.int .i64 0), .t (.int .i64 0)])], []⟩ ?_
  refine Wp.srg [] [] ?_
  refine Runs.alln ?_
  refine Wp.fg ⟨[(1, .obj 1 0), (2, .obj 2 0), (3, .obj 3 0)], [(1, ((Put.enc p0).map .t)), (2, [.t (.int .i64 0), .t (.int .i64 0), .nil, .t (.int .i64 0), .t (.int .i64 0), .t (.int .i64 0)]), (3, [.t (.int .i64 p0.fWhat), .t (.int .i64 p0.fAt), .nil, .t (.int .i64 0), .t (.int .i64 0), .t (.int .i64 0)])], []⟩ ?_
  refine Wp.srg [] [] ?_
  refine Runs.batch 2 kr ?_
  obtain ⟨r1, e_r1, h⟩ := bind_some h
  refine Runs.callK false 12 14 [] [.t (.sl 1 (p0.fB.map (eInt .u8)))] [.one (.t (.sl 1 (p0.fB.map (eInt .u8))))] (.one (.ow 5 1 (r1.map (eInt .u8)))) [] rfl rfl kr kr kr kr kr (laws_toByteS_ok u p0.fB r1 e_r1) kr ?_
  refine Runs.alln ?_
  refine Wp.fg ⟨[(1, .obj 1 0), (2, .obj 2 0), (3, .obj 3 0)], [(1, ((Put.enc p0).map .t)), (2, [.t (.int .i64 0), .t (.int .i64 0), .nil, .t (.int .i64 0), .t (.int .i64 0), .t (.int .i64 0)]), (3, [.t (.int .i64 p0.fWhat), .t (.int .i64 p0.fAt), .own 786432, .t (.int .i64 0), .t (.int .i64 0), .t (.int .i64 0)])], [(786432, .live 5 1 (r1.map (eInt .u8)))]⟩ ?_
  refine Wp.srg [] [] ?_
  refine Runs.batch 2 kr ?_
  obtain ⟨r2, e_r2, h⟩ := bind_some h
  refine Runs.callK false 16 156 [] [.agg ((Record.enc p0.fR).map .t)] [.agg ((Record.enc p0.fR).map .t)] (.agg ((Record.enc r2).map .t)) [] rfl rfl kr kr kr kr kr (laws_toRecord_ok u p0.fR r2 e_r2) kr ?_
  refine Runs.alln ?_
  refine Wp.fg ⟨[(2, .obj 2 0), (3, .obj 3 0)], [(2, [.t (.int .i64 0), .t (.int .i64 0), .nil, .t (.int .i64 0), .t (.int .i64 0), .t (.int .i64 0)]), (3, [.t (.int .i64 p0.fWhat), .t (.int .i64 p0.fAt), .own 786432, .t (.int .i64 r2.fGen), .t (.int .i64 r2.fSlot), .t (.int .i64 r2.fLen)])], [(786432, .live 5 1 (r1.map (eInt .u8)))]⟩ ?_
  refine Wp.srg [] [] ?_
  refine Runs.alln ?_
  refine Wp.fg ⟨[(2, .obj 2 0)], [(2, [.t (.int .i64 p0.fWhat), .t (.int .i64 p0.fAt), .own 786432, .t (.int .i64 r2.fGen), .t (.int .i64 r2.fSlot), .t (.int .i64 r2.fLen)])], [(786432, .live 5 1 (r1.map (eInt .u8)))]⟩ ?_
  refine Wp.ret ?_
  have hr := Option.some.inj h
  subst hr
  exact RetK [.agg [.t (.int .i64 p0.fWhat), .t (.int .i64 p0.fAt), .own 786432, .t (.int .i64 r2.fGen), .t (.int .i64 r2.fSlot), .t (.int .i64 r2.fLen)]] (.agg [.t (.int .i64 p0.fWhat), .t (.int .i64 p0.fAt), .ow 5 1 (r1.map (eInt .u8)), .t (.int .i64 r2.fGen), .t (.int .i64 r2.fSlot), .t (.int .i64 r2.fLen)]) [] kr kr (.refl _) .nil
theorem laws_toPutS_ok (u : Nat) (p0 : List Put) (r : (List Put)) (h : laws_toPutS u p0 = some r) : CallOK Try.prog 157 [.one (.t (.sl 6 (p0.map Put.enc)))] (.one (.ow 158 6 (r.map Put.enc))) [] := by
  unfold laws_toPutS at h
  refine CallOK.of_bodyK (fn := Try.f157) (m := true) [.t (.sl 6 (p0.map Put.enc))] kr rfl kr kr kr kr kr ?_
  refine Wp.srg [] [] ?_
  refine Runs.alln ?_
  refine Wp.fg ⟨[(0, .t (.sl 6 (p0.map Put.enc))), (2, .nil)], [], []⟩ ?_
  refine Wp.srg [] [] ?_
  refine Runs.batch 1 kr ?_
  refine Runs.lenT (y := .t (.sl 6 (p0.map Put.enc))) (e := 196) Put.enc p0 6 rfl rfl rfl kr kr kr kr kr ?_
  obtain ⟨_, e_1, h⟩ := bind_some h
  obtain ⟨_, e_2, h⟩ := bind_some h
  refine Runs.mkS Put.enc ((Put.mk 0 0 ([]) ((Record.mk 0 0 0))) : Put) 7 158 6 64 ((p0.length : Int)) ((p0.length : Int)) rfl rfl kr kr kr kr kr kr (chk_some e_1) (of_decide_eq_true (chk_some e_2)) kr ?_
  refine Runs.alln ?_
  refine Wp.fg ⟨[(0, .t (.sl 6 (p0.map Put.enc))), (2, .nil), (3, .own 458752)], [], [(458752, .live 158 6 ((List.replicate (Int.toNat ((p0.length : Int))) ((Put.mk 0 0 ([]) ((Record.mk 0 0 0))) : Put)).map Put.enc))]⟩ ?_
  refine Wp.seqJ (α := (List Put)) (fun a => ⟨[(2, .nil), (3, .own 196609)], [], [(196609, .live 158 6 (a.map Put.enc))]⟩) (fun a => laws_toPutS_j1 u a = some r) ?_ ?_
  · rintro x12 h
    change laws_toPutS_j1 u x12 = some r at h
    unfold laws_toPutS_j1 at h
    refine Wp.srg [] [] ?_
    refine Runs.alln ?_
    refine Wp.fg ⟨[(2, .own 196609)], [], [(196609, .live 158 6 (x12.map Put.enc))]⟩ ?_
    refine Wp.ret ?_
    have hr := Option.some.inj h
    subst hr
    exact RetK [.own 196609] (.one (.ow 158 6 (x12.map Put.enc))) [] kr kr (.refl _) .nil
  · refine Wp.srg [] [] ?_
    refine Runs.alln ?_
    refine Wp.fg ⟨[(0, .t (.sl 6 (p0.map Put.enc))), (2, .nil), (3, .own 458752), (4, .t (.int .i64 0))], [], [(458752, .live 158 6 ((List.replicate (Int.toNat ((p0.length : Int))) ((Put.mk 0 0 ([]) ((Record.mk 0 0 0))) : Put)).map Put.enc))]⟩ ?_
    refine Wp.block ?_
    refine Wp.loopF (α := (List Put) × (List Put) × Int) (fun a => ⟨[(0, .t (.sl 6 (a.1.map Put.enc))), (2, .nil), (3, .own 196609), (4, .t (.int .i64 a.2.2))], [], [(196609, .live 158 6 (a.2.1.map Put.enc))]⟩) (fun k_laws_toPutS_l2 a => laws_toPutS_l2 u k_laws_toPutS_l2 a.1 a.2.1 a.2.2 = some r) ?_ ?_ u (p0, List.replicate (Int.toNat ((p0.length : Int))) ((Put.mk 0 0 ([]) ((Record.mk 0 0 0))) : Put), 0) h (Le.of (mo := []) (mr := [(196609, 458752)]) kr kr kr kr)
    · intro a h; unfold laws_toPutS_l2 at h; cases h
    · rintro k_laws_toPutS_l2 ⟨p0, x5, x6⟩ h
      change laws_toPutS_l2 u (k_laws_toPutS_l2 + 1) p0 x5 x6 = some r at h
      rw [laws_toPutS_l2] at h
      refine Wp.seq ?_
      refine Wp.srg [] [] ?_
      refine Runs.batch 2 kr ?_
      refine Runs.lenT (y := .t (.sl 6 (p0.map Put.enc))) (e := 196) Put.enc p0 6 rfl rfl rfl kr kr kr kr kr ?_
      refine Runs.alln ?_
      refine Wp.fg ⟨[(0, .t (.sl 6 (p0.map Put.enc))), (2, .nil), (3, .own 196609), (4, .t (.int .i64 x6)), (8, .t (.int .i64 x6)), (9, .t (.sl 6 (p0.map Put.enc))), (10, .t (.int .i64 ((p0.length : Int)))), (11, .t (.bool (decide (x6 < ((p0.length : Int))))))], [], [(196609, .live 158 6 (x5.map Put.enc))]⟩ ?_
      refine Wp.cond2 (b := decide (x6 < ((p0.length : Int)))) kr (fun hc => ?_) (fun hc => ?_)
      · have h := cond_t h hc
        refine Wp.skip ?_
        refine thenN ?_
        refine Wp.seq ?_
        refine Wp.block ?_
        refine Wp.rg [] [] ?_
        refine Runs.batch 4 kr ?_
        obtain ⟨y9, e_y9, h⟩ := bind_some h
        refine Runs.idxT (e := 196) (kk := .i64) (sz := 6) Put.enc p0 x6 rfl kr kr kr kr kr kr e_y9 ?_
        refine Runs.batch 1 kr ?_
        obtain ⟨r10, e_r10, h⟩ := bind_some h
        refine Runs.callK false 20 185 [] [.agg ((Put.enc y9).map .t)] [.agg ((Put.enc y9).map .t)] (.agg [.t (.int .i64 r10.fWhat), .t (.int .i64 r10.fAt), .ow 5 1 (r10.fB.map (eInt .u8)), .t (.int .i64 r10.fR.fGen), .t (.int .i64 r10.fR.fSlot), .t (.int .i64 r10.fR.fLen)]) [] rfl rfl kr kr kr kr kr (laws_toPut_ok u y9 r10 e_r10) kr ?_
        obtain ⟨y11, e_y11, h⟩ := bind_some h
        refine Runs.idxO (e := 158) (e' := 158) (kk := .i64) (sz := 6) Put.enc x5 x6 196609 rfl kr kr kr kr kr kr kr e_y11 ?_
        refine Runs.storeU (e := 158) (sz := 6) (m := 6) Put.enc x5 196609 (Int.toNat x6) 0 r10 (.agg [.t (.int .i64 r10.fWhat), .t (.int .i64 r10.fAt), .own 1310722, .t (.int .i64 r10.fR.fGen), .t (.int .i64 r10.fR.fSlot), .t (.int .i64 r10.fR.fLen)]) (Put.enc r10) rfl kr kr kr kr kr kr kr kr (idx_some e_y11).2 kr kr ?_
        refine Runs.done ?_
        refine blkN ?_
        refine thenN ?_
        refine Wp.rg [] [] ?_
        refine Runs.alln ?_
        exact ⟨(p0, x5.set (Int.toNat x6) r10, bAdd .i64 x6 1), h, Le.of (mo := []) (mr := []) kr kr kr kr⟩
      · have h := cond_f h hc
        refine Wp.exit ?_
        refine thenE ?_
        refine thenE ?_
        refine blkE ?_
        refine thenN ?_
        exact ⟨x5, h, Le.of (mo := []) (mr := []) kr kr kr kr⟩
theorem laws_toDisk_ok (u : Nat) (p0 : Disk) (r : Disk) (h : laws_toDisk u p0 = some r) : CallOK Try.prog 113 [.agg [.t (.sl 1 (p0.fA.map (eInt .u8))), .t (.sl 1 (p0.fB.map (eInt .u8))), .t (.int .i64 p0.fR.fGen), .t (.int .i64 p0.fR.fSlot), .t (.int .i64 p0.fR.fLen), .t (.sl 6 (p0.fP.map Put.enc))]] (.agg [.ow 5 1 (r.fA.map (eInt .u8)), .ow 5 1 (r.fB.map (eInt .u8)), .t (.int .i64 r.fR.fGen), .t (.int .i64 r.fR.fSlot), .t (.int .i64 r.fR.fLen), .ow 158 6 (r.fP.map Put.enc)]) [] := by
  unfold laws_toDisk at h
  refine CallOK.of_bodyK (fn := Try.f113) (m := true) [.agg ((Disk.enc p0).map .t)] kr rfl kr kr kr kr kr ?_
  refine Wp.srg [] [] ?_
  refine Runs.alln ?_
  refine Wp.fg ⟨[(1, .obj 1 0), (2, .obj 2 0)], [(1, ((Disk.enc p0).map .t)), (2, [.nil, .nil, .t (.int .i64 0), .t (.int .i64 0), .t (.int .i64 0), .nil])], []⟩ ?_
  refine Wp.srg [] [] ?_
  refine Runs.alln ?_
  refine Wp.fg ⟨[(1, .obj 1 0), (2, .obj 2 0), (3, .obj 3 0)], [(1, ((Disk.enc p0).map .t)), (2, [.nil, .nil, .t (.int .i64 0), .t (.int .i64 0), .t (.int .i64 0), .nil]), (3, [.nil, .nil, .t (.int .i64 0), .t (.int .i64 0), .t (.int .i64 0), .nil])], []⟩ ?_
  refine Wp.srg [] [] ?_
  refine Runs.batch 2 kr ?_
  obtain ⟨r1, e_r1, h⟩ := bind_some h
  refine Runs.callK false 6 14 [] [.t (.sl 1 (p0.fA.map (eInt .u8)))] [.one (.t (.sl 1 (p0.fA.map (eInt .u8))))] (.one (.ow 5 1 (r1.map (eInt .u8)))) [] rfl rfl kr kr kr kr kr (laws_toByteS_ok u p0.fA r1 e_r1) kr ?_
  refine Runs.alln ?_
  refine Wp.fg ⟨[(1, .obj 1 0), (2, .obj 2 0), (3, .obj 3 0)], [(1, ((Disk.enc p0).map .t)), (2, [.nil, .nil, .t (.int .i64 0), .t (.int .i64 0), .t (.int .i64 0), .nil]), (3, [.own 393216, .nil, .t (.int .i64 0), .t (.int .i64 0), .t (.int .i64 0), .nil])], [(393216, .live 5 1 (r1.map (eInt .u8)))]⟩ ?_
  refine Wp.srg [] [] ?_
  refine Runs.batch 2 kr ?_
  obtain ⟨r2, e_r2, h⟩ := bind_some h
  refine Runs.callK false 10 14 [] [.t (.sl 1 (p0.fB.map (eInt .u8)))] [.one (.t (.sl 1 (p0.fB.map (eInt .u8))))] (.one (.ow 5 1 (r2.map (eInt .u8)))) [] rfl rfl kr kr kr kr kr (laws_toByteS_ok u p0.fB r2 e_r2) kr ?_
  refine Runs.alln ?_
  refine Wp.fg ⟨[(1, .obj 1 0), (2, .obj 2 0), (3, .obj 3 0)], [(1, ((Disk.enc p0).map .t)), (2, [.nil, .nil, .t (.int .i64 0), .t (.int .i64 0), .t (.int .i64 0), .nil]), (3, [.own 393216, .own 655360, .t (.int .i64 0), .t (.int .i64 0), .t (.int .i64 0), .nil])], [(393216, .live 5 1 (r1.map (eInt .u8))), (655360, .live 5 1 (r2.map (eInt .u8)))]⟩ ?_
  refine Wp.srg [] [] ?_
  refine Runs.batch 2 kr ?_
  obtain ⟨r3, e_r3, h⟩ := bind_some h
  refine Runs.callK false 14 156 [] [.agg ((Record.enc p0.fR).map .t)] [.agg ((Record.enc p0.fR).map .t)] (.agg ((Record.enc r3).map .t)) [] rfl rfl kr kr kr kr kr (laws_toRecord_ok u p0.fR r3 e_r3) kr ?_
  refine Runs.alln ?_
  refine Wp.fg ⟨[(1, .obj 1 0), (2, .obj 2 0), (3, .obj 3 0)], [(1, ((Disk.enc p0).map .t)), (2, [.nil, .nil, .t (.int .i64 0), .t (.int .i64 0), .t (.int .i64 0), .nil]), (3, [.own 393216, .own 655360, .t (.int .i64 r3.fGen), .t (.int .i64 r3.fSlot), .t (.int .i64 r3.fLen), .nil])], [(393216, .live 5 1 (r1.map (eInt .u8))), (655360, .live 5 1 (r2.map (eInt .u8)))]⟩ ?_
  refine Wp.srg [] [] ?_
  refine Runs.batch 2 kr ?_
  obtain ⟨r4, e_r4, h⟩ := bind_some h
  refine Runs.callK false 18 157 [] [.t (.sl 6 (p0.fP.map Put.enc))] [.one (.t (.sl 6 (p0.fP.map Put.enc)))] (.one (.ow 158 6 (r4.map Put.enc))) [] rfl rfl kr kr kr kr kr (laws_toPutS_ok u p0.fP r4 e_r4) kr ?_
  refine Runs.alln ?_
  refine Wp.fg ⟨[(2, .obj 2 0), (3, .obj 3 0)], [(2, [.nil, .nil, .t (.int .i64 0), .t (.int .i64 0), .t (.int .i64 0), .nil]), (3, [.own 393216, .own 655360, .t (.int .i64 r3.fGen), .t (.int .i64 r3.fSlot), .t (.int .i64 r3.fLen), .own 1179648])], [(393216, .live 5 1 (r1.map (eInt .u8))), (655360, .live 5 1 (r2.map (eInt .u8))), (1179648, .live 158 6 (r4.map Put.enc))]⟩ ?_
  refine Wp.srg [] [] ?_
  refine Runs.alln ?_
  refine Wp.fg ⟨[(2, .obj 2 0)], [(2, [.own 393216, .own 655360, .t (.int .i64 r3.fGen), .t (.int .i64 r3.fSlot), .t (.int .i64 r3.fLen), .own 1179648])], [(393216, .live 5 1 (r1.map (eInt .u8))), (655360, .live 5 1 (r2.map (eInt .u8))), (1179648, .live 158 6 (r4.map Put.enc))]⟩ ?_
  refine Wp.ret ?_
  have hr := Option.some.inj h
  subst hr
  exact RetK [.agg [.own 393216, .own 655360, .t (.int .i64 r3.fGen), .t (.int .i64 r3.fSlot), .t (.int .i64 r3.fLen), .own 1179648]] (.agg [.ow 5 1 (r1.map (eInt .u8)), .ow 5 1 (r2.map (eInt .u8)), .t (.int .i64 r3.fGen), .t (.int .i64 r3.fSlot), .t (.int .i64 r3.fLen), .ow 158 6 (r4.map Put.enc)]) [] kr kr (.refl _) .nil
theorem laws_toDiskS_ok (u : Nat) (p0 : List Disk) (r : (List Disk)) (h : laws_toDiskS u p0 = some r) : CallOK Try.prog 62 [.one (.t (.sl 6 (p0.map Disk.enc)))] (.one (.ow 109 6 (r.map Disk.enc))) [] := by
  unfold laws_toDiskS at h
  refine CallOK.of_bodyK (fn := Try.f62) (m := true) [.t (.sl 6 (p0.map Disk.enc))] kr rfl kr kr kr kr kr ?_
  refine Wp.srg [] [] ?_
  refine Runs.alln ?_
  refine Wp.fg ⟨[(0, .t (.sl 6 (p0.map Disk.enc))), (2, .nil)], [], []⟩ ?_
  refine Wp.srg [] [] ?_
  refine Runs.batch 1 kr ?_
  refine Runs.lenT (y := .t (.sl 6 (p0.map Disk.enc))) (e := 139) Disk.enc p0 6 rfl rfl rfl kr kr kr kr kr ?_
  obtain ⟨_, e_1, h⟩ := bind_some h
  obtain ⟨_, e_2, h⟩ := bind_some h
  refine Runs.mkS Disk.enc ((Disk.mk ([]) ([]) ((Record.mk 0 0 0)) ([])) : Disk) 7 109 6 96 ((p0.length : Int)) ((p0.length : Int)) rfl rfl kr kr kr kr kr kr (chk_some e_1) (of_decide_eq_true (chk_some e_2)) kr ?_
  refine Runs.alln ?_
  refine Wp.fg ⟨[(0, .t (.sl 6 (p0.map Disk.enc))), (2, .nil), (3, .own 458752)], [], [(458752, .live 109 6 ((List.replicate (Int.toNat ((p0.length : Int))) ((Disk.mk ([]) ([]) ((Record.mk 0 0 0)) ([])) : Disk)).map Disk.enc))]⟩ ?_
  refine Wp.seqJ (α := (List Disk)) (fun a => ⟨[(2, .nil), (3, .own 196609)], [], [(196609, .live 109 6 (a.map Disk.enc))]⟩) (fun a => laws_toDiskS_j1 u a = some r) ?_ ?_
  · rintro x12 h
    change laws_toDiskS_j1 u x12 = some r at h
    unfold laws_toDiskS_j1 at h
    refine Wp.srg [] [] ?_
    refine Runs.alln ?_
    refine Wp.fg ⟨[(2, .own 196609)], [], [(196609, .live 109 6 (x12.map Disk.enc))]⟩ ?_
    refine Wp.ret ?_
    have hr := Option.some.inj h
    subst hr
    exact RetK [.own 196609] (.one (.ow 109 6 (x12.map Disk.enc))) [] kr kr (.refl _) .nil
  · refine Wp.srg [] [] ?_
    refine Runs.alln ?_
    refine Wp.fg ⟨[(0, .t (.sl 6 (p0.map Disk.enc))), (2, .nil), (3, .own 458752), (4, .t (.int .i64 0))], [], [(458752, .live 109 6 ((List.replicate (Int.toNat ((p0.length : Int))) ((Disk.mk ([]) ([]) ((Record.mk 0 0 0)) ([])) : Disk)).map Disk.enc))]⟩ ?_
    refine Wp.block ?_
    refine Wp.loopF (α := (List Disk) × (List Disk) × Int) (fun a => ⟨[(0, .t (.sl 6 (a.1.map Disk.enc))), (2, .nil), (3, .own 196609), (4, .t (.int .i64 a.2.2))], [], [(196609, .live 109 6 (a.2.1.map Disk.enc))]⟩) (fun k_laws_toDiskS_l2 a => laws_toDiskS_l2 u k_laws_toDiskS_l2 a.1 a.2.1 a.2.2 = some r) ?_ ?_ u (p0, List.replicate (Int.toNat ((p0.length : Int))) ((Disk.mk ([]) ([]) ((Record.mk 0 0 0)) ([])) : Disk), 0) h (Le.of (mo := []) (mr := [(196609, 458752)]) kr kr kr kr)
    · intro a h; unfold laws_toDiskS_l2 at h; cases h
    · rintro k_laws_toDiskS_l2 ⟨p0, x5, x6⟩ h
      change laws_toDiskS_l2 u (k_laws_toDiskS_l2 + 1) p0 x5 x6 = some r at h
      rw [laws_toDiskS_l2] at h
      refine Wp.seq ?_
      refine Wp.srg [] [] ?_
      refine Runs.batch 2 kr ?_
      refine Runs.lenT (y := .t (.sl 6 (p0.map Disk.enc))) (e := 139) Disk.enc p0 6 rfl rfl rfl kr kr kr kr kr ?_
      refine Runs.alln ?_
      refine Wp.fg ⟨[(0, .t (.sl 6 (p0.map Disk.enc))), (2, .nil), (3, .own 196609), (4, .t (.int .i64 x6)), (8, .t (.int .i64 x6)), (9, .t (.sl 6 (p0.map Disk.enc))), (10, .t (.int .i64 ((p0.length : Int)))), (11, .t (.bool (decide (x6 < ((p0.length : Int))))))], [], [(196609, .live 109 6 (x5.map Disk.enc))]⟩ ?_
      refine Wp.cond2 (b := decide (x6 < ((p0.length : Int)))) kr (fun hc => ?_) (fun hc => ?_)
      · have h := cond_t h hc
        refine Wp.skip ?_
        refine thenN ?_
        refine Wp.seq ?_
        refine Wp.block ?_
        refine Wp.rg [] [] ?_
        refine Runs.batch 4 kr ?_
        obtain ⟨y9, e_y9, h⟩ := bind_some h
        refine Runs.idxT (e := 139) (kk := .i64) (sz := 6) Disk.enc p0 x6 rfl kr kr kr kr kr kr e_y9 ?_
        refine Runs.batch 1 kr ?_
        obtain ⟨r10, e_r10, h⟩ := bind_some h
        refine Runs.callK false 20 113 [] [.agg ((Disk.enc y9).map .t)] [.agg ((Disk.enc y9).map .t)] (.agg [.ow 5 1 (r10.fA.map (eInt .u8)), .ow 5 1 (r10.fB.map (eInt .u8)), .t (.int .i64 r10.fR.fGen), .t (.int .i64 r10.fR.fSlot), .t (.int .i64 r10.fR.fLen), .ow 158 6 (r10.fP.map Put.enc)]) [] rfl rfl kr kr kr kr kr (laws_toDisk_ok u y9 r10 e_r10) kr ?_
        obtain ⟨y11, e_y11, h⟩ := bind_some h
        refine Runs.idxO (e := 109) (e' := 109) (kk := .i64) (sz := 6) Disk.enc x5 x6 196609 rfl kr kr kr kr kr kr kr e_y11 ?_
        refine Runs.storeU (e := 109) (sz := 6) (m := 6) Disk.enc x5 196609 (Int.toNat x6) 0 r10 (.agg [.own 1310720, .own 1310721, .t (.int .i64 r10.fR.fGen), .t (.int .i64 r10.fR.fSlot), .t (.int .i64 r10.fR.fLen), .own 1310725]) (Disk.enc r10) rfl kr kr kr kr kr kr kr kr (idx_some e_y11).2 kr kr ?_
        refine Runs.done ?_
        refine blkN ?_
        refine thenN ?_
        refine Wp.rg [] [] ?_
        refine Runs.alln ?_
        exact ⟨(p0, x5.set (Int.toNat x6) r10, bAdd .i64 x6 1), h, Le.of (mo := []) (mr := []) kr kr kr kr⟩
      · have h := cond_f h hc
        refine Wp.exit ?_
        refine thenE ?_
        refine thenE ?_
        refine blkE ?_
        refine thenN ?_
        exact ⟨x5, h, Le.of (mo := []) (mr := []) kr kr kr kr⟩
theorem laws_toPacket_ok (u : Nat) (p0 : Packet) (r : Packet) (h : laws_toPacket u p0 = some r) : CallOK Try.prog 114 [.agg [.t (.int .i64 p0.fFrom), .t (.int .i64 p0.fTo), .t (.sl 1 (p0.fB.map (eInt .u8)))]] (.agg [.t (.int .i64 r.fFrom), .t (.int .i64 r.fTo), .ow 5 1 (r.fB.map (eInt .u8))]) [] := by
  unfold laws_toPacket at h
  refine CallOK.of_bodyK (fn := Try.f114) (m := true) [.agg ((Packet.enc p0).map .t)] kr rfl kr kr kr kr kr ?_
  refine Wp.srg [] [] ?_
  refine Runs.alln ?_
  refine Wp.fg ⟨[(1, .obj 1 0), (2, .obj 2 0)], [(1, ((Packet.enc p0).map .t)), (2, [.t (.int .i64 0), .t (.int .i64 0), .nil])], []⟩ ?_
  refine Wp.srg [] [] ?_
  refine Runs.alln ?_
  refine Wp.fg ⟨[(1, .obj 1 0), (2, .obj 2 0), (3, .obj 3 0)], [(1, ((Packet.enc p0).map .t)), (2, [.t (.int .i64 0), .t (.int .i64 0), .nil]), (3, [.t (.int .i64 0), .t (.int .i64 0), .nil])], []⟩ ?_
  refine Wp.srg [] [] ?_
  refine Runs.alln ?_
  refine Wp.fg ⟨[(1, .obj 1 0), (2, .obj 2 0), (3, .obj 3 0)], [(1, ((Packet.enc p0).map .t)), (2, [.t (.int .i64 0), .t (.int .i64 0), .nil]), (3, [.t (.int .i64 p0.fFrom), .t (.int .i64 0), .nil])], []⟩ ?_
  refine Wp.srg [] [] ?_
  refine Runs.alln ?_
  refine Wp.fg ⟨[(1, .obj 1 0), (2, .obj 2 0), (3, .obj 3 0)], [(1, ((Packet.enc p0).map .t)), (2, [.t (.int .i64 0), .t (.int .i64 0), .nil]), (3, [.t (.int .i64 p0.fFrom), .t (.int .i64 p0.fTo), .nil])], []⟩ ?_
  refine Wp.srg [] [] ?_
  refine Runs.batch 2 kr ?_
  obtain ⟨r1, e_r1, h⟩ := bind_some h
  refine Runs.callK false 12 14 [] [.t (.sl 1 (p0.fB.map (eInt .u8)))] [.one (.t (.sl 1 (p0.fB.map (eInt .u8))))] (.one (.ow 5 1 (r1.map (eInt .u8)))) [] rfl rfl kr kr kr kr kr (laws_toByteS_ok u p0.fB r1 e_r1) kr ?_
  refine Runs.alln ?_
  refine Wp.fg ⟨[(2, .obj 2 0), (3, .obj 3 0)], [(2, [.t (.int .i64 0), .t (.int .i64 0), .nil]), (3, [.t (.int .i64 p0.fFrom), .t (.int .i64 p0.fTo), .own 786432])], [(786432, .live 5 1 (r1.map (eInt .u8)))]⟩ ?_
  refine Wp.srg [] [] ?_
  refine Runs.alln ?_
  refine Wp.fg ⟨[(2, .obj 2 0)], [(2, [.t (.int .i64 p0.fFrom), .t (.int .i64 p0.fTo), .own 786432])], [(786432, .live 5 1 (r1.map (eInt .u8)))]⟩ ?_
  refine Wp.ret ?_
  have hr := Option.some.inj h
  subst hr
  exact RetK [.agg [.t (.int .i64 p0.fFrom), .t (.int .i64 p0.fTo), .own 786432]] (.agg [.t (.int .i64 p0.fFrom), .t (.int .i64 p0.fTo), .ow 5 1 (r1.map (eInt .u8))]) [] kr kr (.refl _) .nil
theorem laws_toPacketS_ok (u : Nat) (p0 : List Packet) (r : (List Packet)) (h : laws_toPacketS u p0 = some r) : CallOK Try.prog 63 [.one (.t (.sl 3 (p0.map Packet.enc)))] (.one (.ow 146 3 (r.map Packet.enc))) [] := by
  unfold laws_toPacketS at h
  refine CallOK.of_bodyK (fn := Try.f63) (m := true) [.t (.sl 3 (p0.map Packet.enc))] kr rfl kr kr kr kr kr ?_
  refine Wp.srg [] [] ?_
  refine Runs.alln ?_
  refine Wp.fg ⟨[(0, .t (.sl 3 (p0.map Packet.enc))), (2, .nil)], [], []⟩ ?_
  refine Wp.srg [] [] ?_
  refine Runs.batch 1 kr ?_
  refine Runs.lenT (y := .t (.sl 3 (p0.map Packet.enc))) (e := 142) Packet.enc p0 3 rfl rfl rfl kr kr kr kr kr ?_
  obtain ⟨_, e_1, h⟩ := bind_some h
  obtain ⟨_, e_2, h⟩ := bind_some h
  refine Runs.mkS Packet.enc ((Packet.mk 0 0 ([])) : Packet) 7 146 3 40 ((p0.length : Int)) ((p0.length : Int)) rfl rfl kr kr kr kr kr kr (chk_some e_1) (of_decide_eq_true (chk_some e_2)) kr ?_
  refine Runs.alln ?_
  refine Wp.fg ⟨[(0, .t (.sl 3 (p0.map Packet.enc))), (2, .nil), (3, .own 458752)], [], [(458752, .live 146 3 ((List.replicate (Int.toNat ((p0.length : Int))) ((Packet.mk 0 0 ([])) : Packet)).map Packet.enc))]⟩ ?_
  refine Wp.seqJ (α := (List Packet)) (fun a => ⟨[(2, .nil), (3, .own 196609)], [], [(196609, .live 146 3 (a.map Packet.enc))]⟩) (fun a => laws_toPacketS_j1 u a = some r) ?_ ?_
  · rintro x12 h
    change laws_toPacketS_j1 u x12 = some r at h
    unfold laws_toPacketS_j1 at h
    refine Wp.srg [] [] ?_
    refine Runs.alln ?_
    refine Wp.fg ⟨[(2, .own 196609)], [], [(196609, .live 146 3 (x12.map Packet.enc))]⟩ ?_
    refine Wp.ret ?_
    have hr := Option.some.inj h
    subst hr
    exact RetK [.own 196609] (.one (.ow 146 3 (x12.map Packet.enc))) [] kr kr (.refl _) .nil
  · refine Wp.srg [] [] ?_
    refine Runs.alln ?_
    refine Wp.fg ⟨[(0, .t (.sl 3 (p0.map Packet.enc))), (2, .nil), (3, .own 458752), (4, .t (.int .i64 0))], [], [(458752, .live 146 3 ((List.replicate (Int.toNat ((p0.length : Int))) ((Packet.mk 0 0 ([])) : Packet)).map Packet.enc))]⟩ ?_
    refine Wp.block ?_
    refine Wp.loopF (α := (List Packet) × (List Packet) × Int) (fun a => ⟨[(0, .t (.sl 3 (a.1.map Packet.enc))), (2, .nil), (3, .own 196609), (4, .t (.int .i64 a.2.2))], [], [(196609, .live 146 3 (a.2.1.map Packet.enc))]⟩) (fun k_laws_toPacketS_l2 a => laws_toPacketS_l2 u k_laws_toPacketS_l2 a.1 a.2.1 a.2.2 = some r) ?_ ?_ u (p0, List.replicate (Int.toNat ((p0.length : Int))) ((Packet.mk 0 0 ([])) : Packet), 0) h (Le.of (mo := []) (mr := [(196609, 458752)]) kr kr kr kr)
    · intro a h; unfold laws_toPacketS_l2 at h; cases h
    · rintro k_laws_toPacketS_l2 ⟨p0, x5, x6⟩ h
      change laws_toPacketS_l2 u (k_laws_toPacketS_l2 + 1) p0 x5 x6 = some r at h
      rw [laws_toPacketS_l2] at h
      refine Wp.seq ?_
      refine Wp.srg [] [] ?_
      refine Runs.batch 2 kr ?_
      refine Runs.lenT (y := .t (.sl 3 (p0.map Packet.enc))) (e := 142) Packet.enc p0 3 rfl rfl rfl kr kr kr kr kr ?_
      refine Runs.alln ?_
      refine Wp.fg ⟨[(0, .t (.sl 3 (p0.map Packet.enc))), (2, .nil), (3, .own 196609), (4, .t (.int .i64 x6)), (8, .t (.int .i64 x6)), (9, .t (.sl 3 (p0.map Packet.enc))), (10, .t (.int .i64 ((p0.length : Int)))), (11, .t (.bool (decide (x6 < ((p0.length : Int))))))], [], [(196609, .live 146 3 (x5.map Packet.enc))]⟩ ?_
      refine Wp.cond2 (b := decide (x6 < ((p0.length : Int)))) kr (fun hc => ?_) (fun hc => ?_)
      · have h := cond_t h hc
        refine Wp.skip ?_
        refine thenN ?_
        refine Wp.seq ?_
        refine Wp.block ?_
        refine Wp.rg [] [] ?_
        refine Runs.batch 4 kr ?_
        obtain ⟨y9, e_y9, h⟩ := bind_some h
        refine Runs.idxT (e := 142) (kk := .i64) (sz := 3) Packet.enc p0 x6 rfl kr kr kr kr kr kr e_y9 ?_
        refine Runs.batch 1 kr ?_
        obtain ⟨r10, e_r10, h⟩ := bind_some h
        refine Runs.callK false 20 114 [] [.agg ((Packet.enc y9).map .t)] [.agg ((Packet.enc y9).map .t)] (.agg [.t (.int .i64 r10.fFrom), .t (.int .i64 r10.fTo), .ow 5 1 (r10.fB.map (eInt .u8))]) [] rfl rfl kr kr kr kr kr (laws_toPacket_ok u y9 r10 e_r10) kr ?_
        obtain ⟨y11, e_y11, h⟩ := bind_some h
        refine Runs.idxO (e := 146) (e' := 146) (kk := .i64) (sz := 3) Packet.enc x5 x6 196609 rfl kr kr kr kr kr kr kr e_y11 ?_
        refine Runs.storeU (e := 146) (sz := 3) (m := 3) Packet.enc x5 196609 (Int.toNat x6) 0 r10 (.agg [.t (.int .i64 r10.fFrom), .t (.int .i64 r10.fTo), .own 1310722]) (Packet.enc r10) rfl kr kr kr kr kr kr kr kr (idx_some e_y11).2 kr kr ?_
        refine Runs.done ?_
        refine blkN ?_
        refine thenN ?_
        refine Wp.rg [] [] ?_
        refine Runs.alln ?_
        exact ⟨(p0, x5.set (Int.toNat x6) r10, bAdd .i64 x6 1), h, Le.of (mo := []) (mr := []) kr kr kr kr⟩
      · have h := cond_f h hc
        refine Wp.exit ?_
        refine thenE ?_
        refine thenE ?_
        refine blkE ?_
        refine thenN ?_
        exact ⟨x5, h, Le.of (mo := []) (mr := []) kr kr kr kr⟩
theorem laws_toSent_ok (u : Nat) (p0 : Sent) (r : Sent) (h : laws_toSent u p0 = some r) : CallOK Try.prog 115 [.agg [.t (.int .i64 p0.fFrom), .t (.int .i64 p0.fTo), .t (.int .i64 p0.fI)]] (.agg [.t (.int .i64 r.fFrom), .t (.int .i64 r.fTo), .t (.int .i64 r.fI)]) [] := by
  unfold laws_toSent at h
  refine CallOK.of_bodyK (fn := Try.f115) (m := false) [.agg ((Sent.enc p0).map .t)] kr rfl kr kr kr kr kr ?_
  refine Wp.srg [] [] ?_
  refine Runs.alln ?_
  refine Wp.fg ⟨[(1, .obj 1 0), (2, .obj 2 0)], [(1, ((Sent.enc p0).map .t)), (2, [.t (.int .i64 0), .t (.int .i64 0), .t (.int .i64 0)])], []⟩ ?_
  refine Wp.srg [] [] ?_
  refine Runs.alln ?_
  refine Wp.fg ⟨[(1, .obj 1 0), (2, .obj 2 0), (3, .obj 3 0)], [(1, ((Sent.enc p0).map .t)), (2, [.t (.int .i64 0), .t (.int .i64 0), .t (.int .i64 0)]), (3, [.t (.int .i64 0), .t (.int .i64 0), .t (.int .i64 0)])], []⟩ ?_
  refine Wp.srg [] [] ?_
  refine Runs.alln ?_
  refine Wp.fg ⟨[(1, .obj 1 0), (2, .obj 2 0), (3, .obj 3 0)], [(1, ((Sent.enc p0).map .t)), (2, [.t (.int .i64 0), .t (.int .i64 0), .t (.int .i64 0)]), (3, [.t (.int .i64 p0.fFrom), .t (.int .i64 0), .t (.int .i64 0)])], []⟩ ?_
  refine Wp.srg [] [] ?_
  refine Runs.alln ?_
  refine Wp.fg ⟨[(1, .obj 1 0), (2, .obj 2 0), (3, .obj 3 0)], [(1, ((Sent.enc p0).map .t)), (2, [.t (.int .i64 0), .t (.int .i64 0), .t (.int .i64 0)]), (3, [.t (.int .i64 p0.fFrom), .t (.int .i64 p0.fTo), .t (.int .i64 0)])], []⟩ ?_
  refine Wp.srg [] [] ?_
  refine Runs.alln ?_
  refine Wp.fg ⟨[(2, .obj 2 0), (3, .obj 3 0)], [(2, [.t (.int .i64 0), .t (.int .i64 0), .t (.int .i64 0)]), (3, ((Sent.enc p0).map .t))], []⟩ ?_
  refine Wp.srg [] [] ?_
  refine Runs.alln ?_
  refine Wp.fg ⟨[(2, .obj 2 0)], [(2, ((Sent.enc p0).map .t))], []⟩ ?_
  refine Wp.ret ?_
  have hr := Option.some.inj h
  subst hr
  exact RetK [.agg ((Sent.enc p0).map .t)] (.agg ((Sent.enc p0).map .t)) [] kr kr (.refl _) .nil
theorem laws_toSentS_ok (u : Nat) (p0 : List Sent) (r : (List Sent)) (h : laws_toSentS u p0 = some r) : CallOK Try.prog 64 [.one (.t (.sl 3 (p0.map Sent.enc)))] (.one (.ow 99 3 (r.map Sent.enc))) [] := by
  unfold laws_toSentS at h
  refine CallOK.of_bodyK (fn := Try.f64) (m := true) [.t (.sl 3 (p0.map Sent.enc))] kr rfl kr kr kr kr kr ?_
  refine Wp.srg [] [] ?_
  refine Runs.alln ?_
  refine Wp.fg ⟨[(0, .t (.sl 3 (p0.map Sent.enc))), (2, .nil)], [], []⟩ ?_
  refine Wp.srg [] [] ?_
  refine Runs.batch 1 kr ?_
  refine Runs.lenT (y := .t (.sl 3 (p0.map Sent.enc))) (e := 149) Sent.enc p0 3 rfl rfl rfl kr kr kr kr kr ?_
  obtain ⟨_, e_1, h⟩ := bind_some h
  obtain ⟨_, e_2, h⟩ := bind_some h
  refine Runs.mkS Sent.enc ((Sent.mk 0 0 0) : Sent) 7 99 3 24 ((p0.length : Int)) ((p0.length : Int)) rfl rfl kr kr kr kr kr kr (chk_some e_1) (of_decide_eq_true (chk_some e_2)) kr ?_
  refine Runs.alln ?_
  refine Wp.fg ⟨[(0, .t (.sl 3 (p0.map Sent.enc))), (2, .nil), (3, .own 458752)], [], [(458752, .live 99 3 ((List.replicate (Int.toNat ((p0.length : Int))) ((Sent.mk 0 0 0) : Sent)).map Sent.enc))]⟩ ?_
  refine Wp.seqJ (α := (List Sent)) (fun a => ⟨[(2, .nil), (3, .own 196609)], [], [(196609, .live 99 3 (a.map Sent.enc))]⟩) (fun a => laws_toSentS_j1 u a = some r) ?_ ?_
  · rintro x12 h
    change laws_toSentS_j1 u x12 = some r at h
    unfold laws_toSentS_j1 at h
    refine Wp.srg [] [] ?_
    refine Runs.alln ?_
    refine Wp.fg ⟨[(2, .own 196609)], [], [(196609, .live 99 3 (x12.map Sent.enc))]⟩ ?_
    refine Wp.ret ?_
    have hr := Option.some.inj h
    subst hr
    exact RetK [.own 196609] (.one (.ow 99 3 (x12.map Sent.enc))) [] kr kr (.refl _) .nil
  · refine Wp.srg [] [] ?_
    refine Runs.alln ?_
    refine Wp.fg ⟨[(0, .t (.sl 3 (p0.map Sent.enc))), (2, .nil), (3, .own 458752), (4, .t (.int .i64 0))], [], [(458752, .live 99 3 ((List.replicate (Int.toNat ((p0.length : Int))) ((Sent.mk 0 0 0) : Sent)).map Sent.enc))]⟩ ?_
    refine Wp.block ?_
    refine Wp.loopF (α := (List Sent) × (List Sent) × Int) (fun a => ⟨[(0, .t (.sl 3 (a.1.map Sent.enc))), (2, .nil), (3, .own 196609), (4, .t (.int .i64 a.2.2))], [], [(196609, .live 99 3 (a.2.1.map Sent.enc))]⟩) (fun k_laws_toSentS_l2 a => laws_toSentS_l2 u k_laws_toSentS_l2 a.1 a.2.1 a.2.2 = some r) ?_ ?_ u (p0, List.replicate (Int.toNat ((p0.length : Int))) ((Sent.mk 0 0 0) : Sent), 0) h (Le.of (mo := []) (mr := [(196609, 458752)]) kr kr kr kr)
    · intro a h; unfold laws_toSentS_l2 at h; cases h
    · rintro k_laws_toSentS_l2 ⟨p0, x5, x6⟩ h
      change laws_toSentS_l2 u (k_laws_toSentS_l2 + 1) p0 x5 x6 = some r at h
      rw [laws_toSentS_l2] at h
      refine Wp.seq ?_
      refine Wp.srg [] [] ?_
      refine Runs.batch 2 kr ?_
      refine Runs.lenT (y := .t (.sl 3 (p0.map Sent.enc))) (e := 149) Sent.enc p0 3 rfl rfl rfl kr kr kr kr kr ?_
      refine Runs.alln ?_
      refine Wp.fg ⟨[(0, .t (.sl 3 (p0.map Sent.enc))), (2, .nil), (3, .own 196609), (4, .t (.int .i64 x6)), (8, .t (.int .i64 x6)), (9, .t (.sl 3 (p0.map Sent.enc))), (10, .t (.int .i64 ((p0.length : Int)))), (11, .t (.bool (decide (x6 < ((p0.length : Int))))))], [], [(196609, .live 99 3 (x5.map Sent.enc))]⟩ ?_
      refine Wp.cond2 (b := decide (x6 < ((p0.length : Int)))) kr (fun hc => ?_) (fun hc => ?_)
      · have h := cond_t h hc
        refine Wp.skip ?_
        refine thenN ?_
        refine Wp.seq ?_
        refine Wp.block ?_
        refine Wp.rg [] [] ?_
        refine Runs.batch 4 kr ?_
        obtain ⟨y9, e_y9, h⟩ := bind_some h
        refine Runs.idxT (e := 149) (kk := .i64) (sz := 3) Sent.enc p0 x6 rfl kr kr kr kr kr kr e_y9 ?_
        refine Runs.batch 1 kr ?_
        obtain ⟨r10, e_r10, h⟩ := bind_some h
        refine Runs.callK false 20 115 [] [.agg ((Sent.enc y9).map .t)] [.agg ((Sent.enc y9).map .t)] (.agg ((Sent.enc r10).map .t)) [] rfl rfl kr kr kr kr kr (laws_toSent_ok u y9 r10 e_r10) kr ?_
        obtain ⟨y11, e_y11, h⟩ := bind_some h
        refine Runs.idxO (e := 99) (e' := 99) (kk := .i64) (sz := 3) Sent.enc x5 x6 196609 rfl kr kr kr kr kr kr kr e_y11 ?_
        refine Runs.storeT (e := 99) (sz := 3) (m := 3) Sent.enc x5 196609 (Int.toNat x6) 0 r10 (.agg ((Sent.enc r10).map .t)) (Sent.enc r10) rfl kr kr kr kr kr kr kr kr (idx_some e_y11).2 kr kr ?_
        refine Runs.done ?_
        refine blkN ?_
        refine thenN ?_
        refine Wp.rg [] [] ?_
        refine Runs.alln ?_
        exact ⟨(p0, x5.set (Int.toNat x6) r10, bAdd .i64 x6 1), h, Le.of (mo := []) (mr := []) kr kr kr kr⟩
      · have h := cond_f h hc
        refine Wp.exit ?_
        refine thenE ?_
        refine thenE ?_
        refine blkE ?_
        refine thenN ?_
        exact ⟨x5, h, Le.of (mo := []) (mr := []) kr kr kr kr⟩
theorem laws_toWorld_ok (u : Nat) (p0 : World) (r : World) (h : laws_toWorld u p0 = some r) : CallOK Try.prog 26 [.agg [.t (.int .i64 p0.fC.fSize), .t (.int .i64 p0.fC.fWindow), .t (.int .i64 p0.fC.fSuspect), .t (.int .i64 p0.fC.fForget), .t (.sl 1 (p0.fT.fUp.map (eInt .i64))), .t (.sl 1 (p0.fNew.map (eInt .u8))), .t (.sl 1 (p0.fOld.map Image.enc)), .t (.sl 12 (p0.fN.map Node.enc)), .t (.sl 6 (p0.fD.map Disk.enc)), .t (.sl 3 (p0.fNet.map Packet.enc)), .t (.sl 3 (p0.fLog.map Sent.enc)), .t (.int .i64 p0.fLost)]] (.agg [.t (.int .i64 r.fC.fSize), .t (.int .i64 r.fC.fWindow), .t (.int .i64 r.fC.fSuspect), .t (.int .i64 r.fC.fForget), .ow 3 1 (r.fT.fUp.map (eInt .i64)), .ow 5 1 (r.fNew.map (eInt .u8)), .ow 67 1 (r.fOld.map Image.enc), .ow 114 12 (r.fN.map Node.enc), .ow 109 6 (r.fD.map Disk.enc), .ow 146 3 (r.fNet.map Packet.enc), .ow 99 3 (r.fLog.map Sent.enc), .t (.int .i64 r.fLost)]) [] := by
  unfold laws_toWorld at h
  refine CallOK.of_bodyK (fn := Try.f26) (m := true) [.agg ((World.enc p0).map .t)] kr rfl kr kr kr kr kr ?_
  refine Wp.srg [] [] ?_
  refine Runs.alln ?_
  refine Wp.fg ⟨[(1, .obj 1 0), (2, .obj 2 0)], [(1, ((World.enc p0).map .t)), (2, [.t (.int .i64 0), .t (.int .i64 0), .t (.int .i64 0), .t (.int .i64 0), .nil, .nil, .nil, .nil, .nil, .nil, .nil, .t (.int .i64 0)])], []⟩ ?_
  refine Wp.srg [] [] ?_
  refine Runs.alln ?_
  refine Wp.fg ⟨[(1, .obj 1 0), (2, .obj 2 0), (3, .obj 3 0)], [(1, ((World.enc p0).map .t)), (2, [.t (.int .i64 0), .t (.int .i64 0), .t (.int .i64 0), .t (.int .i64 0), .nil, .nil, .nil, .nil, .nil, .nil, .nil, .t (.int .i64 0)]), (3, [.t (.int .i64 0), .t (.int .i64 0), .t (.int .i64 0), .t (.int .i64 0), .nil, .nil, .nil, .nil, .nil, .nil, .nil, .t (.int .i64 0)])], []⟩ ?_
  refine Wp.srg [] [] ?_
  refine Runs.batch 2 kr ?_
  obtain ⟨r1, e_r1, h⟩ := bind_some h
  refine Runs.callK false 6 59 [] [.agg ((Conf.enc p0.fC).map .t)] [.agg ((Conf.enc p0.fC).map .t)] (.agg ((Conf.enc r1).map .t)) [] rfl rfl kr kr kr kr kr (laws_toConf_ok u p0.fC r1 e_r1) kr ?_
  refine Runs.alln ?_
  refine Wp.fg ⟨[(1, .obj 1 0), (2, .obj 2 0), (3, .obj 3 0)], [(1, ((World.enc p0).map .t)), (2, [.t (.int .i64 0), .t (.int .i64 0), .t (.int .i64 0), .t (.int .i64 0), .nil, .nil, .nil, .nil, .nil, .nil, .nil, .t (.int .i64 0)]), (3, [.t (.int .i64 r1.fSize), .t (.int .i64 r1.fWindow), .t (.int .i64 r1.fSuspect), .t (.int .i64 r1.fForget), .nil, .nil, .nil, .nil, .nil, .nil, .nil, .t (.int .i64 0)])], []⟩ ?_
  refine Wp.srg [] [] ?_
  refine Runs.batch 2 kr ?_
  obtain ⟨r2, e_r2, h⟩ := bind_some h
  refine Runs.callK false 10 60 [] [.agg [.t (.sl 1 (p0.fT.fUp.map (eInt .i64)))]] [.agg [.t (.sl 1 (p0.fT.fUp.map (eInt .i64)))]] (.agg [.ow 3 1 (r2.fUp.map (eInt .i64))]) [] rfl rfl kr kr kr kr kr (laws_toTree_ok u p0.fT r2 e_r2) kr ?_
  refine Runs.alln ?_
  refine Wp.fg ⟨[(1, .obj 1 0), (2, .obj 2 0), (3, .obj 3 0)], [(1, ((World.enc p0).map .t)), (2, [.t (.int .i64 0), .t (.int .i64 0), .t (.int .i64 0), .t (.int .i64 0), .nil, .nil, .nil, .nil, .nil, .nil, .nil, .t (.int .i64 0)]), (3, [.t (.int .i64 r1.fSize), .t (.int .i64 r1.fWindow), .t (.int .i64 r1.fSuspect), .t (.int .i64 r1.fForget), .own 655360, .nil, .nil, .nil, .nil, .nil, .nil, .t (.int .i64 0)])], [(655360, .live 3 1 (r2.fUp.map (eInt .i64)))]⟩ ?_
  refine Wp.srg [] [] ?_
  refine Runs.batch 2 kr ?_
  obtain ⟨r3, e_r3, h⟩ := bind_some h
  refine Runs.callK false 14 14 [] [.t (.sl 1 (p0.fNew.map (eInt .u8)))] [.one (.t (.sl 1 (p0.fNew.map (eInt .u8))))] (.one (.ow 5 1 (r3.map (eInt .u8)))) [] rfl rfl kr kr kr kr kr (laws_toByteS_ok u p0.fNew r3 e_r3) kr ?_
  refine Runs.alln ?_
  refine Wp.fg ⟨[(1, .obj 1 0), (2, .obj 2 0), (3, .obj 3 0)], [(1, ((World.enc p0).map .t)), (2, [.t (.int .i64 0), .t (.int .i64 0), .t (.int .i64 0), .t (.int .i64 0), .nil, .nil, .nil, .nil, .nil, .nil, .nil, .t (.int .i64 0)]), (3, [.t (.int .i64 r1.fSize), .t (.int .i64 r1.fWindow), .t (.int .i64 r1.fSuspect), .t (.int .i64 r1.fForget), .own 655360, .own 917504, .nil, .nil, .nil, .nil, .nil, .t (.int .i64 0)])], [(655360, .live 3 1 (r2.fUp.map (eInt .i64))), (917504, .live 5 1 (r3.map (eInt .u8)))]⟩ ?_
  refine Wp.srg [] [] ?_
  refine Runs.batch 2 kr ?_
  obtain ⟨r4, e_r4, h⟩ := bind_some h
  refine Runs.callK false 18 19 [] [.t (.sl 1 (p0.fOld.map Image.enc))] [.one (.t (.sl 1 (p0.fOld.map Image.enc)))] (.one (.ow 67 1 (r4.map Image.enc))) [] rfl rfl kr kr kr kr kr (laws_toImageS_ok u p0.fOld r4 e_r4) kr ?_
  refine Runs.alln ?_
  refine Wp.fg ⟨[(1, .obj 1 0), (2, .obj 2 0), (3, .obj 3 0)], [(1, ((World.enc p0).map .t)), (2, [.t (.int .i64 0), .t (.int .i64 0), .t (.int .i64 0), .t (.int .i64 0), .nil, .nil, .nil, .nil, .nil, .nil, .nil, .t (.int .i64 0)]), (3, [.t (.int .i64 r1.fSize), .t (.int .i64 r1.fWindow), .t (.int .i64 r1.fSuspect), .t (.int .i64 r1.fForget), .own 655360, .own 917504, .own 1179648, .nil, .nil, .nil, .nil, .t (.int .i64 0)])], [(655360, .live 3 1 (r2.fUp.map (eInt .i64))), (917504, .live 5 1 (r3.map (eInt .u8))), (1179648, .live 67 1 (r4.map Image.enc))]⟩ ?_
  refine Wp.srg [] [] ?_
  refine Runs.batch 2 kr ?_
  obtain ⟨r5, e_r5, h⟩ := bind_some h
  refine Runs.callK false 22 61 [] [.t (.sl 12 (p0.fN.map Node.enc))] [.one (.t (.sl 12 (p0.fN.map Node.enc)))] (.one (.ow 114 12 (r5.map Node.enc))) [] rfl rfl kr kr kr kr kr (laws_toNodeS_ok u p0.fN r5 e_r5) kr ?_
  refine Runs.alln ?_
  refine Wp.fg ⟨[(1, .obj 1 0), (2, .obj 2 0), (3, .obj 3 0)], [(1, ((World.enc p0).map .t)), (2, [.t (.int .i64 0), .t (.int .i64 0), .t (.int .i64 0), .t (.int .i64 0), .nil, .nil, .nil, .nil, .nil, .nil, .nil, .t (.int .i64 0)]), (3, [.t (.int .i64 r1.fSize), .t (.int .i64 r1.fWindow), .t (.int .i64 r1.fSuspect), .t (.int .i64 r1.fForget), .own 655360, .own 917504, .own 1179648, .own 1441792, .nil, .nil, .nil, .t (.int .i64 0)])], [(655360, .live 3 1 (r2.fUp.map (eInt .i64))), (917504, .live 5 1 (r3.map (eInt .u8))), (1179648, .live 67 1 (r4.map Image.enc)), (1441792, .live 114 12 (r5.map Node.enc))]⟩ ?_
  refine Wp.srg [] [] ?_
  refine Runs.batch 2 kr ?_
  obtain ⟨r6, e_r6, h⟩ := bind_some h
  refine Runs.callK false 26 62 [] [.t (.sl 6 (p0.fD.map Disk.enc))] [.one (.t (.sl 6 (p0.fD.map Disk.enc)))] (.one (.ow 109 6 (r6.map Disk.enc))) [] rfl rfl kr kr kr kr kr (laws_toDiskS_ok u p0.fD r6 e_r6) kr ?_
  refine Runs.alln ?_
  refine Wp.fg ⟨[(1, .obj 1 0), (2, .obj 2 0), (3, .obj 3 0)], [(1, ((World.enc p0).map .t)), (2, [.t (.int .i64 0), .t (.int .i64 0), .t (.int .i64 0), .t (.int .i64 0), .nil, .nil, .nil, .nil, .nil, .nil, .nil, .t (.int .i64 0)]), (3, [.t (.int .i64 r1.fSize), .t (.int .i64 r1.fWindow), .t (.int .i64 r1.fSuspect), .t (.int .i64 r1.fForget), .own 655360, .own 917504, .own 1179648, .own 1441792, .own 1703936, .nil, .nil, .t (.int .i64 0)])], [(655360, .live 3 1 (r2.fUp.map (eInt .i64))), (917504, .live 5 1 (r3.map (eInt .u8))), (1179648, .live 67 1 (r4.map Image.enc)), (1441792, .live 114 12 (r5.map Node.enc)), (1703936, .live 109 6 (r6.map Disk.enc))]⟩ ?_
  refine Wp.srg [] [] ?_
  refine Runs.batch 2 kr ?_
  obtain ⟨r7, e_r7, h⟩ := bind_some h
  refine Runs.callK false 30 63 [] [.t (.sl 3 (p0.fNet.map Packet.enc))] [.one (.t (.sl 3 (p0.fNet.map Packet.enc)))] (.one (.ow 146 3 (r7.map Packet.enc))) [] rfl rfl kr kr kr kr kr (laws_toPacketS_ok u p0.fNet r7 e_r7) kr ?_
  refine Runs.alln ?_
  refine Wp.fg ⟨[(1, .obj 1 0), (2, .obj 2 0), (3, .obj 3 0)], [(1, ((World.enc p0).map .t)), (2, [.t (.int .i64 0), .t (.int .i64 0), .t (.int .i64 0), .t (.int .i64 0), .nil, .nil, .nil, .nil, .nil, .nil, .nil, .t (.int .i64 0)]), (3, [.t (.int .i64 r1.fSize), .t (.int .i64 r1.fWindow), .t (.int .i64 r1.fSuspect), .t (.int .i64 r1.fForget), .own 655360, .own 917504, .own 1179648, .own 1441792, .own 1703936, .own 1966080, .nil, .t (.int .i64 0)])], [(655360, .live 3 1 (r2.fUp.map (eInt .i64))), (917504, .live 5 1 (r3.map (eInt .u8))), (1179648, .live 67 1 (r4.map Image.enc)), (1441792, .live 114 12 (r5.map Node.enc)), (1703936, .live 109 6 (r6.map Disk.enc)), (1966080, .live 146 3 (r7.map Packet.enc))]⟩ ?_
  refine Wp.srg [] [] ?_
  refine Runs.batch 2 kr ?_
  obtain ⟨r8, e_r8, h⟩ := bind_some h
  refine Runs.callK false 34 64 [] [.t (.sl 3 (p0.fLog.map Sent.enc))] [.one (.t (.sl 3 (p0.fLog.map Sent.enc)))] (.one (.ow 99 3 (r8.map Sent.enc))) [] rfl rfl kr kr kr kr kr (laws_toSentS_ok u p0.fLog r8 e_r8) kr ?_
  refine Runs.alln ?_
  refine Wp.fg ⟨[(1, .obj 1 0), (2, .obj 2 0), (3, .obj 3 0)], [(1, ((World.enc p0).map .t)), (2, [.t (.int .i64 0), .t (.int .i64 0), .t (.int .i64 0), .t (.int .i64 0), .nil, .nil, .nil, .nil, .nil, .nil, .nil, .t (.int .i64 0)]), (3, [.t (.int .i64 r1.fSize), .t (.int .i64 r1.fWindow), .t (.int .i64 r1.fSuspect), .t (.int .i64 r1.fForget), .own 655360, .own 917504, .own 1179648, .own 1441792, .own 1703936, .own 1966080, .own 2228224, .t (.int .i64 0)])], [(655360, .live 3 1 (r2.fUp.map (eInt .i64))), (917504, .live 5 1 (r3.map (eInt .u8))), (1179648, .live 67 1 (r4.map Image.enc)), (1441792, .live 114 12 (r5.map Node.enc)), (1703936, .live 109 6 (r6.map Disk.enc)), (1966080, .live 146 3 (r7.map Packet.enc)), (2228224, .live 99 3 (r8.map Sent.enc))]⟩ ?_
  refine Wp.srg [] [] ?_
  refine Runs.alln ?_
  refine Wp.fg ⟨[(2, .obj 2 0), (3, .obj 3 0)], [(2, [.t (.int .i64 0), .t (.int .i64 0), .t (.int .i64 0), .t (.int .i64 0), .nil, .nil, .nil, .nil, .nil, .nil, .nil, .t (.int .i64 0)]), (3, [.t (.int .i64 r1.fSize), .t (.int .i64 r1.fWindow), .t (.int .i64 r1.fSuspect), .t (.int .i64 r1.fForget), .own 655360, .own 917504, .own 1179648, .own 1441792, .own 1703936, .own 1966080, .own 2228224, .t (.int .i64 p0.fLost)])], [(655360, .live 3 1 (r2.fUp.map (eInt .i64))), (917504, .live 5 1 (r3.map (eInt .u8))), (1179648, .live 67 1 (r4.map Image.enc)), (1441792, .live 114 12 (r5.map Node.enc)), (1703936, .live 109 6 (r6.map Disk.enc)), (1966080, .live 146 3 (r7.map Packet.enc)), (2228224, .live 99 3 (r8.map Sent.enc))]⟩ ?_
  refine Wp.srg [] [] ?_
  refine Runs.alln ?_
  refine Wp.fg ⟨[(2, .obj 2 0)], [(2, [.t (.int .i64 r1.fSize), .t (.int .i64 r1.fWindow), .t (.int .i64 r1.fSuspect), .t (.int .i64 r1.fForget), .own 655360, .own 917504, .own 1179648, .own 1441792, .own 1703936, .own 1966080, .own 2228224, .t (.int .i64 p0.fLost)])], [(655360, .live 3 1 (r2.fUp.map (eInt .i64))), (917504, .live 5 1 (r3.map (eInt .u8))), (1179648, .live 67 1 (r4.map Image.enc)), (1441792, .live 114 12 (r5.map Node.enc)), (1703936, .live 109 6 (r6.map Disk.enc)), (1966080, .live 146 3 (r7.map Packet.enc)), (2228224, .live 99 3 (r8.map Sent.enc))]⟩ ?_
  refine Wp.ret ?_
  have hr := Option.some.inj h
  subst hr
  exact RetK [.agg [.t (.int .i64 r1.fSize), .t (.int .i64 r1.fWindow), .t (.int .i64 r1.fSuspect), .t (.int .i64 r1.fForget), .own 655360, .own 917504, .own 1179648, .own 1441792, .own 1703936, .own 1966080, .own 2228224, .t (.int .i64 p0.fLost)]] (.agg [.t (.int .i64 r1.fSize), .t (.int .i64 r1.fWindow), .t (.int .i64 r1.fSuspect), .t (.int .i64 r1.fForget), .ow 3 1 (r2.fUp.map (eInt .i64)), .ow 5 1 (r3.map (eInt .u8)), .ow 67 1 (r4.map Image.enc), .ow 114 12 (r5.map Node.enc), .ow 109 6 (r6.map Disk.enc), .ow 146 3 (r7.map Packet.enc), .ow 99 3 (r8.map Sent.enc), .t (.int .i64 p0.fLost)]) [] kr kr (.refl _) .nil
theorem spec_SameBytes_ok (u : Nat) (p0 : List Int) (p1 : List Int) (r : Bool) (h : spec_SameBytes u p0 p1 = some r) : CallOK Try.prog 82 [.one (.t (.sl 1 (p0.map (eInt .u8)))), .one (.t (.sl 1 (p1.map (eInt .u8))))] (.one (.t (.bool r))) [] := by
  unfold spec_SameBytes at h
  refine CallOK.of_bodyK (fn := Try.f82) (m := false) [.t (.sl 1 (p0.map (eInt .u8))), .t (.sl 1 (p1.map (eInt .u8)))] kr rfl kr kr kr kr kr ?_
  refine Wp.srg [] [] ?_
  refine Runs.alln ?_
  refine Wp.fg ⟨[(0, .t (.sl 1 (p0.map (eInt .u8)))), (1, .t (.sl 1 (p1.map (eInt .u8)))), (4, .t (.bool false))], [], []⟩ ?_
  refine Wp.srg [] [] ?_
  refine Runs.batch 1 kr ?_
  refine Runs.bytesStr (y := .t (.sl 1 (p0.map (eInt .u8)))) (e := 5) p0 1 rfl kr kr kr kr kr kr kr ?_
  refine Runs.batch 1 kr ?_
  refine Runs.bytesStr (y := .t (.sl 1 (p1.map (eInt .u8)))) (e := 5) p1 1 rfl kr kr kr kr kr kr kr ?_
  refine Runs.alln ?_
  refine Wp.fg ⟨[(4, .t (.bool ((strOfNums p0).toList == (strOfNums p1).toList)))], [], []⟩ ?_
  refine Wp.ret ?_
  have hr := Option.some.inj h
  subst hr
  exact RetK [.t (.bool ((strOfNums p0).toList == (strOfNums p1).toList))] (.one (.t (.bool ((strOfNums p0).toList == (strOfNums p1).toList)))) [] kr kr (.refl _) .nil
theorem spec_SamePackets_ok (u : Nat) (p0 : List Packet) (p1 : List Packet) (r : Bool) (h : spec_SamePackets u p0 p1 = some r) : CallOK Try.prog 83 [.one (.t (.sl 3 (p0.map Packet.enc))), .one (.t (.sl 3 (p1.map Packet.enc)))] (.one (.t (.bool r))) [] := by
  unfold spec_SamePackets at h
  refine CallOK.of_bodyK (fn := Try.f83) (m := false) [.t (.sl 3 (p0.map Packet.enc)), .t (.sl 3 (p1.map Packet.enc))] kr rfl kr kr kr kr kr ?_
  refine Wp.srg [] [] ?_
  refine Runs.alln ?_
  refine Wp.fg ⟨[(0, .t (.sl 3 (p0.map Packet.enc))), (1, .t (.sl 3 (p1.map Packet.enc))), (4, .t (.bool false))], [], []⟩ ?_
  refine Wp.seq ?_
  refine Wp.srg [] [] ?_
  refine Runs.batch 1 kr ?_
  refine Runs.lenT (y := .t (.sl 3 (p0.map Packet.enc))) (e := 146) Packet.enc p0 3 rfl rfl rfl kr kr kr kr kr ?_
  refine Runs.batch 1 kr ?_
  refine Runs.lenT (y := .t (.sl 3 (p1.map Packet.enc))) (e := 146) Packet.enc p1 3 rfl rfl rfl kr kr kr kr kr ?_
  refine Runs.alln ?_
  refine Wp.fg ⟨[(0, .t (.sl 3 (p0.map Packet.enc))), (1, .t (.sl 3 (p1.map Packet.enc))), (4, .t (.bool false)), (10, .t (.bool (((p0.length : Int)) != ((p1.length : Int)))))], [], []⟩ ?_
  refine Wp.cond2 (b := ((p0.length : Int)) != ((p1.length : Int))) kr (fun hc => ?_) (fun hc => ?_)
  · have h := cond_t h hc
    refine Wp.srg [] [] ?_
    refine Runs.alln ?_
    refine Wp.fg ⟨[(0, .t (.sl 3 (p0.map Packet.enc))), (1, .t (.sl 3 (p1.map Packet.enc))), (4, .t (.bool false))], [], []⟩ ?_
    refine Wp.ret ?_
    refine thenR ?_
    have hr := Option.some.inj h
    subst hr
    exact RetK [.t (.bool false)] (.one (.t (.bool false))) [] kr kr (.refl _) .nil
  · have h := cond_f h hc
    refine Wp.skip ?_
    refine thenN ?_
    refine Wp.seqJ (α := Unit) (fun a => ⟨[(4, .t (.bool false))], [], []⟩) (fun a => spec_SamePackets_j1 u = some r) ?_ ?_
    · rintro ⟨⟩ h
      change spec_SamePackets_j1 u = some r at h
      unfold spec_SamePackets_j1 at h
      refine Wp.srg [] [] ?_
      refine Runs.alln ?_
      refine Wp.fg ⟨[(4, .t (.bool true))], [], []⟩ ?_
      refine Wp.ret ?_
      have hr := Option.some.inj h
      subst hr
      exact RetK [.t (.bool true)] (.one (.t (.bool true))) [] kr kr (.refl _) .nil
    · refine Wp.srg [] [] ?_
      refine Runs.alln ?_
      refine Wp.fg ⟨[(0, .t (.sl 3 (p0.map Packet.enc))), (1, .t (.sl 3 (p1.map Packet.enc))), (4, .t (.bool false)), (5, .t (.int .i64 0))], [], []⟩ ?_
      refine Wp.block ?_
      refine Wp.loopF (α := (List Packet) × (List Packet) × Int) (fun a => ⟨[(0, .t (.sl 3 (a.1.map Packet.enc))), (1, .t (.sl 3 (a.2.1.map Packet.enc))), (4, .t (.bool false)), (5, .t (.int .i64 a.2.2))], [], []⟩) (fun k_spec_SamePackets_l2 a => spec_SamePackets_l2 u k_spec_SamePackets_l2 a.1 a.2.1 a.2.2 = some r) ?_ ?_ u (p0, p1, 0) h (Le.of (mo := []) (mr := []) kr kr kr kr)
      · intro a h; unfold spec_SamePackets_l2 at h; cases h
      · rintro k_spec_SamePackets_l2 ⟨p0, p1, x2⟩ h
        change spec_SamePackets_l2 u (k_spec_SamePackets_l2 + 1) p0 p1 x2 = some r at h
        rw [spec_SamePackets_l2] at h
        refine Wp.seq ?_
        refine Wp.srg [] [] ?_
        refine Runs.batch 2 kr ?_
        refine Runs.lenT (y := .t (.sl 3 (p0.map Packet.enc))) (e := 146) Packet.enc p0 3 rfl rfl rfl kr kr kr kr kr ?_
        refine Runs.alln ?_
        refine Wp.fg ⟨[(0, .t (.sl 3 (p0.map Packet.enc))), (1, .t (.sl 3 (p1.map Packet.enc))), (4, .t (.bool false)), (5, .t (.int .i64 x2)), (11, .t (.int .i64 x2)), (12, .t (.sl 3 (p0.map Packet.enc))), (13, .t (.int .i64 ((p0.length : Int)))), (14, .t (.bool (decide (x2 < ((p0.length : Int))))))], [], []⟩ ?_
        refine Wp.cond2 (b := decide (x2 < ((p0.length : Int)))) kr (fun hc => ?_) (fun hc => ?_)
        · have h := cond_t h hc
          refine Wp.skip ?_
          refine thenN ?_
          refine Wp.seq ?_
          refine Wp.block ?_
          refine Wp.seqJ (α := (List Packet) × (List Packet) × Int × Packet × Packet × Bool × Bool × Bool × Bool) (fun a => ⟨[(0, .t (.sl 3 (a.1.map Packet.enc))), (1, .t (.sl 3 (a.2.1.map Packet.enc))), (4, .t (.bool false)), (5, .t (.int .i64 a.2.2.1)), (11, .t (.int .i64 a.2.2.1)), (12, .t (.sl 3 (a.1.map Packet.enc))), (13, .t (.int .i64 ((a.1.length : Int)))), (14, .t (.bool (decide (a.2.2.1 < ((a.1.length : Int)))))), (17, .t (.sl 3 (a.1.map Packet.enc))), (18, .t (.int .i64 a.2.2.1)), (19, .fadr (Packet.enc a.2.2.2.1)), (20, .fadr (Packet.enc a.2.2.2.1)), (21, .t (.int .i64 a.2.2.2.1.fFrom)), (22, .t (.sl 3 (a.2.1.map Packet.enc))), (23, .t (.int .i64 a.2.2.1)), (24, .fadr (Packet.enc a.2.2.2.2.1)), (25, .fadr (Packet.enc a.2.2.2.2.1)), (26, .t (.int .i64 a.2.2.2.2.1.fFrom)), (27, .t (.bool (a.2.2.2.1.fFrom != a.2.2.2.2.1.fFrom))), (28, .t (.bool a.2.2.2.2.2.1)), (40, .t (.bool a.2.2.2.2.2.2.1)), (41, .t (.bool a.2.2.2.2.2.2.2.1)), (54, .t (.bool a.2.2.2.2.2.2.2.2))], [], []⟩) (fun a => spec_SamePackets_j3 u (fun z0 z1 z2 => spec_SamePackets_l2 u k_spec_SamePackets_l2 z0 z1 z2) a.1 a.2.1 a.2.2.1 a.2.2.2.1 a.2.2.2.2.1 a.2.2.2.2.2.1 a.2.2.2.2.2.2.1 a.2.2.2.2.2.2.2.1 a.2.2.2.2.2.2.2.2 = some r) ?_ ?_
          · rintro ⟨p0, p1, x2, y4, y5, x11, x12, x13, x14⟩ h
            change spec_SamePackets_j3 u (fun z0 z1 z2 => spec_SamePackets_l2 u k_spec_SamePackets_l2 z0 z1 z2) p0 p1 x2 y4 y5 x11 x12 x13 x14 = some r at h
            unfold spec_SamePackets_j3 at h
            refine Wp.cond2 (b := x14) kr (fun hc => ?_) (fun hc => ?_)
            · have h := cond_t h hc
              refine Wp.srg [] [] ?_
              refine Runs.alln ?_
              refine Wp.fg ⟨[(0, .t (.sl 3 (p0.map Packet.enc))), (1, .t (.sl 3 (p1.map Packet.enc))), (4, .t (.bool false)), (5, .t (.int .i64 x2)), (11, .t (.int .i64 x2)), (12, .t (.sl 3 (p0.map Packet.enc))), (13, .t (.int .i64 ((p0.length : Int)))), (14, .t (.bool (decide (x2 < ((p0.length : Int)))))), (17, .t (.sl 3 (p0.map Packet.enc))), (18, .t (.int .i64 x2)), (19, .fadr (Packet.enc y4)), (20, .fadr (Packet.enc y4)), (21, .t (.int .i64 y4.fFrom)), (22, .t (.sl 3 (p1.map Packet.enc))), (23, .t (.int .i64 x2)), (24, .fadr (Packet.enc y5)), (25, .fadr (Packet.enc y5)), (26, .t (.int .i64 y5.fFrom)), (27, .t (.bool (y4.fFrom != y5.fFrom))), (28, .t (.bool x11)), (40, .t (.bool x12)), (41, .t (.bool x13)), (54, .t (.bool x14))], [], []⟩ ?_
              refine Wp.ret ?_
              refine blkR ?_
              refine thenR ?_
              refine thenR ?_
              refine blkR ?_
              refine thenR ?_
              have hr := Option.some.inj h
              subst hr
              exact RetK [.t (.bool false)] (.one (.t (.bool false))) [] kr kr (.refl _) .nil
            · have h := cond_f h hc
              refine Wp.skip ?_
              refine blkN ?_
              refine thenN ?_
              refine Wp.rg [] [] ?_
              refine Runs.alln ?_
              exact ⟨(p0, p1, bAdd .i64 x2 1), h, Le.of (mo := []) (mr := []) kr kr kr kr⟩
          · refine Wp.regionA (pOf []) (rhoOf [(0, .frz), (1, .frz), (5, .frz), (17, .frz), (18, .frz), (19, .frz), (20, .frz), (21, .frz), (22, .frz), (23, .frz), (24, .frz), (25, .frz), (26, .frz), (27, .frz), (28, .frz), (29, .frz), (30, .frz), (31, .frz), (32, .frz), (33, .frz), (34, .frz), (35, .frz), (36, .frz), (37, .frz), (38, .frz), (40, .frz), (41, .frz), (42, .frz), (43, .frz), (44, .frz), (45, .frz), (46, .frz), (47, .frz), (48, .frz), (49, .frz), (50, .frz), (51, .frz), (52, .frz)]) kr kr ?_
            refine Runs.batch 2 kr ?_
            obtain ⟨y4, e_y4, h⟩ := bind_some h
            refine Runs.idxT (e := 146) (kk := .i64) (sz := 3) Packet.enc p0 x2 rfl kr kr kr kr kr kr e_y4 ?_
            refine Runs.batch 4 kr ?_
            obtain ⟨y5, e_y5, h⟩ := bind_some h
            refine Runs.idxT (e := 146) (kk := .i64) (sz := 3) Packet.enc p1 x2 rfl kr kr kr kr kr kr e_y5 ?_
            refine Runs.batch 4 kr ?_
            rcases tf (y4.fFrom != y5.fFrom) with hc | hc
            · have h := cond_t h hc
              refine Runs.known 28 (v := true) kr hc ?_
              refine Runs.alln ?_
              exact ⟨(p0, p1, x2, y4, y5, true, true, true, true), h, Le.of (mo := []) (mr := []) kr kr kr kr⟩
            · have h := cond_f h hc
              refine Runs.known 28 (v := false) kr hc ?_
              refine Runs.batch 2 kr ?_
              obtain ⟨y6, e_y6, h⟩ := bind_some h
              refine Runs.idxT (e := 146) (kk := .i64) (sz := 3) Packet.enc p0 x2 rfl kr kr kr kr kr kr e_y6 ?_
              refine Runs.batch 4 kr ?_
              obtain ⟨y7, e_y7, h⟩ := bind_some h
              refine Runs.idxT (e := 146) (kk := .i64) (sz := 3) Packet.enc p1 x2 rfl kr kr kr kr kr kr e_y7 ?_
              refine Runs.batch 5 kr ?_
              rcases tf (y6.fTo != y7.fTo) with hc | hc
              · have h := cond_t h hc
                refine Runs.known 41 (v := true) kr hc ?_
                refine Runs.alln ?_
                exact ⟨(p0, p1, x2, y4, y5, false, y6.fTo != y7.fTo, true, true), h, Le.of (mo := []) (mr := []) kr kr kr kr⟩
              · have h := cond_f h hc
                refine Runs.known 41 (v := false) kr hc ?_
                refine Runs.batch 2 kr ?_
                obtain ⟨y8, e_y8, h⟩ := bind_some h
                refine Runs.idxT (e := 146) (kk := .i64) (sz := 3) Packet.enc p0 x2 rfl kr kr kr kr kr kr e_y8 ?_
                refine Runs.batch 4 kr ?_
                obtain ⟨y9, e_y9, h⟩ := bind_some h
                refine Runs.idxT (e := 146) (kk := .i64) (sz := 3) Packet.enc p1 x2 rfl kr kr kr kr kr kr e_y9 ?_
                refine Runs.batch 2 kr ?_
                obtain ⟨r10, e_r10, h⟩ := bind_some h
                refine Runs.callK false 52 82 [] [.t (.sl 1 (y8.fB.map (eInt .u8))), .t (.sl 1 (y9.fB.map (eInt .u8)))] [.one (.t (.sl 1 (y8.fB.map (eInt .u8)))), .one (.t (.sl 1 (y9.fB.map (eInt .u8))))] (.one (.t (.bool r10))) [] rfl rfl kr kr kr kr kr (spec_SameBytes_ok u y8.fB y9.fB r10 e_r10) kr ?_
                refine Runs.alln ?_
                exact ⟨(p0, p1, x2, y4, y5, false, y6.fTo != y7.fTo, false, !r10), h, Le.of (mo := []) (mr := []) kr kr kr kr⟩
        · have h := cond_f h hc
          refine Wp.exit ?_
          refine thenE ?_
          refine thenE ?_
          refine blkE ?_
          refine thenN ?_
          exact ⟨(), h, Le.of (mo := []) (mr := []) kr kr kr kr⟩
theorem spec_l6SameSums_ok (u : Nat) (p0 : List Sum) (p1 : List Sum) (r : Bool) (h : spec_l6SameSums u p0 p1 = some r) : CallOK Try.prog 167 [.one (.t (.sl 2 (p0.map Sum.enc))), .one (.t (.sl 2 (p1.map Sum.enc)))] (.one (.t (.bool r))) [] := by
  unfold spec_l6SameSums at h
  refine CallOK.of_bodyK (fn := Try.f167) (m := false) [.t (.sl 2 (p0.map Sum.enc)), .t (.sl 2 (p1.map Sum.enc))] kr rfl kr kr kr kr kr ?_
  refine Wp.srg [] [] ?_
  refine Runs.alln ?_
  refine Wp.fg ⟨[(0, .t (.sl 2 (p0.map Sum.enc))), (1, .t (.sl 2 (p1.map Sum.enc))), (4, .t (.bool false))], [], []⟩ ?_
  refine Wp.seq ?_
  refine Wp.srg [] [] ?_
  refine Runs.batch 1 kr ?_
  refine Runs.lenT (y := .t (.sl 2 (p0.map Sum.enc))) (e := 166) Sum.enc p0 2 rfl rfl rfl kr kr kr kr kr ?_
  refine Runs.batch 1 kr ?_
  refine Runs.lenT (y := .t (.sl 2 (p1.map Sum.enc))) (e := 166) Sum.enc p1 2 rfl rfl rfl kr kr kr kr kr ?_
  refine Runs.alln ?_
  refine Wp.fg ⟨[(0, .t (.sl 2 (p0.map Sum.enc))), (1, .t (.sl 2 (p1.map Sum.enc))), (4, .t (.bool false)), (10, .t (.bool (((p0.length : Int)) != ((p1.length : Int)))))], [], []⟩ ?_
  refine Wp.cond2 (b := ((p0.length : Int)) != ((p1.length : Int))) kr (fun hc => ?_) (fun hc => ?_)
  · have h := cond_t h hc
    refine Wp.srg [] [] ?_
    refine Runs.alln ?_
    refine Wp.fg ⟨[(0, .t (.sl 2 (p0.map Sum.enc))), (1, .t (.sl 2 (p1.map Sum.enc))), (4, .t (.bool false))], [], []⟩ ?_
    refine Wp.ret ?_
    refine thenR ?_
    have hr := Option.some.inj h
    subst hr
    exact RetK [.t (.bool false)] (.one (.t (.bool false))) [] kr kr (.refl _) .nil
  · have h := cond_f h hc
    refine Wp.skip ?_
    refine thenN ?_
    refine Wp.seqJ (α := Unit) (fun a => ⟨[(4, .t (.bool false))], [], []⟩) (fun a => spec_l6SameSums_j1 u = some r) ?_ ?_
    · rintro ⟨⟩ h
      change spec_l6SameSums_j1 u = some r at h
      unfold spec_l6SameSums_j1 at h
      refine Wp.srg [] [] ?_
      refine Runs.alln ?_
      refine Wp.fg ⟨[(4, .t (.bool true))], [], []⟩ ?_
      refine Wp.ret ?_
      have hr := Option.some.inj h
      subst hr
      exact RetK [.t (.bool true)] (.one (.t (.bool true))) [] kr kr (.refl _) .nil
    · refine Wp.srg [] [] ?_
      refine Runs.alln ?_
      refine Wp.fg ⟨[(0, .t (.sl 2 (p0.map Sum.enc))), (1, .t (.sl 2 (p1.map Sum.enc))), (4, .t (.bool false)), (5, .t (.int .i64 0))], [], []⟩ ?_
      refine Wp.block ?_
      refine Wp.loopF (α := (List Sum) × (List Sum) × Int) (fun a => ⟨[(0, .t (.sl 2 (a.1.map Sum.enc))), (1, .t (.sl 2 (a.2.1.map Sum.enc))), (4, .t (.bool false)), (5, .t (.int .i64 a.2.2))], [], []⟩) (fun k_spec_l6SameSums_l2 a => spec_l6SameSums_l2 u k_spec_l6SameSums_l2 a.1 a.2.1 a.2.2 = some r) ?_ ?_ u (p0, p1, 0) h (Le.of (mo := []) (mr := []) kr kr kr kr)
      · intro a h; unfold spec_l6SameSums_l2 at h; cases h
      · rintro k_spec_l6SameSums_l2 ⟨p0, p1, x2⟩ h
        change spec_l6SameSums_l2 u (k_spec_l6SameSums_l2 + 1) p0 p1 x2 = some r at h
        rw [spec_l6SameSums_l2] at h
        refine Wp.seq ?_
        refine Wp.srg [] [] ?_
        refine Runs.batch 2 kr ?_
        refine Runs.lenT (y := .t (.sl 2 (p0.map Sum.enc))) (e := 166) Sum.enc p0 2 rfl rfl rfl kr kr kr kr kr ?_
        refine Runs.alln ?_
        refine Wp.fg ⟨[(0, .t (.sl 2 (p0.map Sum.enc))), (1, .t (.sl 2 (p1.map Sum.enc))), (4, .t (.bool false)), (5, .t (.int .i64 x2)), (11, .t (.int .i64 x2)), (12, .t (.sl 2 (p0.map Sum.enc))), (13, .t (.int .i64 ((p0.length : Int)))), (14, .t (.bool (decide (x2 < ((p0.length : Int))))))], [], []⟩ ?_
        refine Wp.cond2 (b := decide (x2 < ((p0.length : Int)))) kr (fun hc => ?_) (fun hc => ?_)
        · have h := cond_t h hc
          refine Wp.skip ?_
          refine thenN ?_
          refine Wp.seq ?_
          refine Wp.block ?_
          refine Wp.seq ?_
          refine Wp.regionA (pOf []) (rhoOf [(0, .frz), (1, .frz), (5, .frz), (17, .frz), (18, .frz), (19, .frz), (20, .frz), (21, .frz), (22, .frz), (23, .frz), (24, .frz)]) kr kr ?_
          refine Runs.batch 2 kr ?_
          obtain ⟨y4, e_y4, h⟩ := bind_some h
          refine Runs.idxT (e := 166) (kk := .i64) (sz := 2) Sum.enc p0 x2 rfl kr kr kr kr kr kr e_y4 ?_
          refine Runs.batch 3 kr ?_
          obtain ⟨y5, e_y5, h⟩ := bind_some h
          refine Runs.idxT (e := 166) (kk := .i64) (sz := 2) Sum.enc p1 x2 rfl kr kr kr kr kr kr e_y5 ?_
          refine Runs.alln ?_
          refine Wp.fg ⟨[(0, .t (.sl 2 (p0.map Sum.enc))), (1, .t (.sl 2 (p1.map Sum.enc))), (4, .t (.bool false)), (5, .t (.int .i64 x2)), (11, .t (.int .i64 x2)), (12, .t (.sl 2 (p0.map Sum.enc))), (13, .t (.int .i64 ((p0.length : Int)))), (14, .t (.bool (decide (x2 < ((p0.length : Int)))))), (17, .t (.sl 2 (p0.map Sum.enc))), (18, .t (.int .i64 x2)), (19, .fadr [.int .i64 y4.fW, .int .i64 y4.fS]), (20, .agg [.t (.int .i64 y4.fW), .t (.int .i64 y4.fS)]), (21, .t (.sl 2 (p1.map Sum.enc))), (22, .t (.int .i64 x2)), (23, .fadr [.int .i64 y5.fW, .int .i64 y5.fS]), (24, .agg [.t (.int .i64 y5.fW), .t (.int .i64 y5.fS)]), (25, .t (.bool (!([y4.fW, y4.fS] == [y5.fW, y5.fS]))))], [], []⟩ ?_
          refine Wp.cond2 (b := !([y4.fW, y4.fS] == [y5.fW, y5.fS])) kr (fun hc => ?_) (fun hc => ?_)
          · have h := cond_t h hc
            refine Wp.srg [] [] ?_
            refine Runs.alln ?_
            refine Wp.fg ⟨[(0, .t (.sl 2 (p0.map Sum.enc))), (1, .t (.sl 2 (p1.map Sum.enc))), (4, .t (.bool false)), (5, .t (.int .i64 x2)), (11, .t (.int .i64 x2)), (12, .t (.sl 2 (p0.map Sum.enc))), (13, .t (.int .i64 ((p0.length : Int)))), (14, .t (.bool (decide (x2 < ((p0.length : Int)))))), (17, .t (.sl 2 (p0.map Sum.enc))), (18, .t (.int .i64 x2)), (19, .fadr [.int .i64 y4.fW, .int .i64 y4.fS]), (20, .agg [.t (.int .i64 y4.fW), .t (.int .i64 y4.fS)]), (21, .t (.sl 2 (p1.map Sum.enc))), (22, .t (.int .i64 x2)), (23, .fadr [.int .i64 y5.fW, .int .i64 y5.fS]), (24, .agg [.t (.int .i64 y5.fW), .t (.int .i64 y5.fS)]), (25, .t (.bool (!([y4.fW, y4.fS] == [y5.fW, y5.fS]))))], [], []⟩ ?_
            refine Wp.ret ?_
            refine blkR ?_
            refine thenR ?_
            refine thenR ?_
            refine blkR ?_
            refine thenR ?_
            have hr := Option.some.inj h
            subst hr
            exact RetK [.t (.bool false)] (.one (.t (.bool false))) [] kr kr (.refl _) .nil
          · have h := cond_f h hc
            refine Wp.skip ?_
            refine blkN ?_
            refine thenN ?_
            refine Wp.rg [] [] ?_
            refine Runs.alln ?_
            exact ⟨(p0, p1, bAdd .i64 x2 1), h, Le.of (mo := []) (mr := []) kr kr kr kr⟩
        · have h := cond_f h hc
          refine Wp.exit ?_
          refine thenE ?_
          refine thenE ?_
          refine blkE ?_
          refine thenN ?_
          exact ⟨(), h, Le.of (mo := []) (mr := []) kr kr kr kr⟩
theorem spec_SameMan_ok (u : Nat) (p0 : Manifest) (p1 : Manifest) (r : Bool) (h : spec_SameMan u p0 p1 = some r) : CallOK Try.prog 123 [.agg [.t (.int .i64 p0.fGen), .t (.int .i64 p0.fSize), .t (.int .i64 p0.fLen), .t (.sl 2 (p0.fSums.map Sum.enc))], .agg [.t (.int .i64 p1.fGen), .t (.int .i64 p1.fSize), .t (.int .i64 p1.fLen), .t (.sl 2 (p1.fSums.map Sum.enc))]] (.one (.t (.bool r))) [] := by
  unfold spec_SameMan at h
  refine CallOK.of_bodyK (fn := Try.f123) (m := false) [.agg ((Manifest.enc p0).map .t), .agg ((Manifest.enc p1).map .t)] kr rfl kr kr kr kr kr ?_
  refine Wp.srg [] [] ?_
  refine Runs.alln ?_
  refine Wp.fg ⟨[(2, .obj 2 0), (3, .obj 3 0), (4, .t (.bool false))], [(2, ((Manifest.enc p0).map .t)), (3, ((Manifest.enc p1).map .t))], []⟩ ?_
  refine Wp.srg [] [] ?_
  refine Runs.batch 6 kr ?_
  rcases tf (p0.fGen == p1.fGen) with hc | hc
  · have h := cond_t h hc
    refine Runs.known 10 (v := true) kr hc ?_
    refine Runs.batch 7 kr ?_
    rcases tf (p0.fSize == p1.fSize) with hc | hc
    · have h := cond_t h hc
      refine Runs.known 17 (v := true) kr hc ?_
      refine Runs.batch 7 kr ?_
      rcases tf (p0.fLen == p1.fLen) with hc | hc
      · have h := cond_t h hc
        refine Runs.known 24 (v := true) kr hc ?_
        refine Runs.batch 4 kr ?_
        obtain ⟨r1, e_r1, h⟩ := bind_some h
        refine Runs.callK false 29 167 [] [.t (.sl 2 (p0.fSums.map Sum.enc)), .t (.sl 2 (p1.fSums.map Sum.enc))] [.one (.t (.sl 2 (p0.fSums.map Sum.enc))), .one (.t (.sl 2 (p1.fSums.map Sum.enc)))] (.one (.t (.bool r1))) [] rfl rfl kr kr kr kr kr (spec_l6SameSums_ok u p0.fSums p1.fSums r1 e_r1) kr ?_
        refine Runs.alln ?_
        refine Wp.fg ⟨[(4, .t (.bool r1))], [], []⟩ ?_
        refine Wp.ret ?_
        have hr := Option.some.inj h
        subst hr
        exact RetK [.t (.bool r1)] (.one (.t (.bool r1))) [] kr kr (.refl _) .nil
      · have h := cond_f h hc
        refine Runs.known 24 (v := false) kr hc ?_
        refine Runs.alln ?_
        refine Wp.fg ⟨[(4, .t (.bool false))], [], []⟩ ?_
        refine Wp.ret ?_
        have hr := Option.some.inj h
        subst hr
        exact RetK [.t (.bool false)] (.one (.t (.bool false))) [] kr kr (.refl _) .nil
    · have h := cond_f h hc
      refine Runs.known 17 (v := false) kr hc ?_
      refine Runs.alln ?_
      refine Wp.fg ⟨[(4, .t (.bool false))], [], []⟩ ?_
      refine Wp.ret ?_
      have hr := Option.some.inj h
      subst hr
      exact RetK [.t (.bool false)] (.one (.t (.bool false))) [] kr kr (.refl _) .nil
  · have h := cond_f h hc
    refine Runs.known 10 (v := false) kr hc ?_
    refine Runs.alln ?_
    refine Wp.fg ⟨[(4, .t (.bool false))], [], []⟩ ?_
    refine Wp.ret ?_
    have hr := Option.some.inj h
    subst hr
    exact RetK [.t (.bool false)] (.one (.t (.bool false))) [] kr kr (.refl _) .nil
theorem spec_SameNode_ok (u : Nat) (p0 : Node) (p1 : Node) (r : Bool) (h : spec_SameNode u p0 p1 = some r) : CallOK Try.prog 84 [.agg [.t (.bool p0.fOn), .t (.int .i64 p0.fBoss), .t (.int .i64 p0.fQuiet), .t (.int .i64 p0.fMan.fGen), .t (.int .i64 p0.fMan.fSize), .t (.int .i64 p0.fMan.fLen), .t (.sl 2 (p0.fMan.fSums.map Sum.enc)), .t (.int .i64 p0.fBld.fHave), .t (.sl 1 (p0.fBld.fBuf.map (eInt .u8))), .t (.int .i64 p0.fPhase), .t (.sl 5 (p0.fKids.map Kid.enc)), .t (.int .i64 p0.fDrops)], .agg [.t (.bool p1.fOn), .t (.int .i64 p1.fBoss), .t (.int .i64 p1.fQuiet), .t (.int .i64 p1.fMan.fGen), .t (.int .i64 p1.fMan.fSize), .t (.int .i64 p1.fMan.fLen), .t (.sl 2 (p1.fMan.fSums.map Sum.enc)), .t (.int .i64 p1.fBld.fHave), .t (.sl 1 (p1.fBld.fBuf.map (eInt .u8))), .t (.int .i64 p1.fPhase), .t (.sl 5 (p1.fKids.map Kid.enc)), .t (.int .i64 p1.fDrops)]] (.one (.t (.bool r))) [] := by
  unfold spec_SameNode at h
  refine CallOK.of_bodyK (fn := Try.f84) (m := false) [.agg ((Node.enc p0).map .t), .agg ((Node.enc p1).map .t)] kr rfl kr kr kr kr kr ?_
  refine Wp.srg [] [] ?_
  refine Runs.alln ?_
  refine Wp.fg ⟨[(2, .obj 2 0), (3, .obj 3 0), (4, .t (.bool false))], [(2, ((Node.enc p0).map .t)), (3, ((Node.enc p1).map .t))], []⟩ ?_
  refine Wp.seq ?_
  refine Wp.seqJ (α := Bool × Node × Node) (fun a => ⟨[(2, .obj 2 0), (3, .obj 3 0), (4, .t (.bool false)), (74, .t (.bool a.1))], [(2, ((Node.enc a.2.1).map .t)), (3, ((Node.enc a.2.2).map .t))], []⟩) (fun a => spec_SameNode_j1 u a.1 a.2.1 a.2.2 = some r) ?_ ?_
  · rintro ⟨x3, p0, p1⟩ h
    change spec_SameNode_j1 u x3 p0 p1 = some r at h
    unfold spec_SameNode_j1 at h
    refine Wp.cond2 (b := x3) kr (fun hc => ?_) (fun hc => ?_)
    · have h := cond_t h hc
      refine Wp.srg [] [] ?_
      refine Runs.alln ?_
      refine Wp.fg ⟨[(2, .obj 2 0), (3, .obj 3 0), (4, .t (.bool false))], [(2, ((Node.enc p0).map .t)), (3, ((Node.enc p1).map .t))], []⟩ ?_
      refine Wp.ret ?_
      refine thenR ?_
      have hr := Option.some.inj h
      subst hr
      exact RetK [.t (.bool false)] (.one (.t (.bool false))) [] kr kr (.refl _) .nil
    · have h := cond_f h hc
      refine Wp.skip ?_
      refine thenN ?_
      refine Wp.seqJ (α := Unit) (fun a => ⟨[(4, .t (.bool false))], [], []⟩) (fun a => spec_SameNode_j2 u = some r) ?_ ?_
      · rintro ⟨⟩ h
        change spec_SameNode_j2 u = some r at h
        unfold spec_SameNode_j2 at h
        refine Wp.srg [] [] ?_
        refine Runs.alln ?_
        refine Wp.fg ⟨[(4, .t (.bool true))], [], []⟩ ?_
        refine Wp.ret ?_
        have hr := Option.some.inj h
        subst hr
        exact RetK [.t (.bool true)] (.one (.t (.bool true))) [] kr kr (.refl _) .nil
      · refine Wp.srg [] [] ?_
        refine Runs.alln ?_
        refine Wp.fg ⟨[(2, .obj 2 0), (3, .obj 3 0), (4, .t (.bool false)), (5, .t (.int .i64 0))], [(2, ((Node.enc p0).map .t)), (3, ((Node.enc p1).map .t))], []⟩ ?_
        refine Wp.block ?_
        refine Wp.loopF (α := Int × Node × Node) (fun a => ⟨[(2, .obj 2 0), (3, .obj 3 0), (4, .t (.bool false)), (5, .t (.int .i64 a.1))], [(2, ((Node.enc a.2.1).map .t)), (3, ((Node.enc a.2.2).map .t))], []⟩) (fun k_spec_SameNode_l3 a => spec_SameNode_l3 u k_spec_SameNode_l3 a.1 a.2.1 a.2.2 = some r) ?_ ?_ u (0, p0, p1) h (Le.of (mo := []) (mr := []) kr kr kr kr)
        · intro a h; unfold spec_SameNode_l3 at h; cases h
        · rintro k_spec_SameNode_l3 ⟨x5, p0, p1⟩ h
          change spec_SameNode_l3 u (k_spec_SameNode_l3 + 1) x5 p0 p1 = some r at h
          rw [spec_SameNode_l3] at h
          refine Wp.seq ?_
          refine Wp.srg [] [] ?_
          refine Runs.batch 3 kr ?_
          refine Runs.lenT (y := .t (.sl 5 (p0.fKids.map Kid.enc))) (e := 156) Kid.enc p0.fKids 5 rfl rfl rfl kr kr kr kr kr ?_
          refine Runs.alln ?_
          refine Wp.fg ⟨[(2, .obj 2 0), (3, .obj 3 0), (4, .t (.bool false)), (5, .t (.int .i64 x5)), (75, .t (.int .i64 x5)), (76, .obj 2 10), (77, .t (.sl 5 (p0.fKids.map Kid.enc))), (78, .t (.int .i64 ((p0.fKids.length : Int)))), (79, .t (.bool (decide (x5 < ((p0.fKids.length : Int))))))], [(2, ((Node.enc p0).map .t)), (3, ((Node.enc p1).map .t))], []⟩ ?_
          refine Wp.cond2 (b := decide (x5 < ((p0.fKids.length : Int)))) kr (fun hc => ?_) (fun hc => ?_)
          · have h := cond_t h hc
            refine Wp.skip ?_
            refine thenN ?_
            refine Wp.seq ?_
            refine Wp.block ?_
            refine Wp.seq ?_
            refine Wp.regionA (pOf []) (rhoOf [(2, .obj 2), (3, .obj 3), (5, .frz), (82, .obj 2), (83, .frz), (84, .frz), (85, .frz), (86, .frz), (87, .obj 3), (88, .frz), (89, .frz), (90, .frz), (91, .frz)]) kr kr ?_
            refine Runs.batch 3 kr ?_
            obtain ⟨y7, e_y7, h⟩ := bind_some h
            refine Runs.idxT (e := 156) (kk := .i64) (sz := 5) Kid.enc p0.fKids x5 rfl kr kr kr kr kr kr e_y7 ?_
            refine Runs.batch 4 kr ?_
            obtain ⟨y8, e_y8, h⟩ := bind_some h
            refine Runs.idxT (e := 156) (kk := .i64) (sz := 5) Kid.enc p1.fKids x5 rfl kr kr kr kr kr kr e_y8 ?_
            refine Runs.alln ?_
            refine Wp.fg ⟨[(2, .obj 2 0), (3, .obj 3 0), (4, .t (.bool false)), (5, .t (.int .i64 x5)), (75, .t (.int .i64 x5)), (76, .obj 2 10), (77, .t (.sl 5 (p0.fKids.map Kid.enc))), (78, .t (.int .i64 ((p0.fKids.length : Int)))), (79, .t (.bool (decide (x5 < ((p0.fKids.length : Int)))))), (82, .obj 2 10), (83, .t (.sl 5 (p0.fKids.map Kid.enc))), (84, .t (.int .i64 x5)), (85, .fadr (Kid.enc y7)), (86, .agg ((Kid.enc y7).map .t)), (87, .obj 3 10), (88, .t (.sl 5 (p1.fKids.map Kid.enc))), (89, .t (.int .i64 x5)), (90, .fadr (Kid.enc y8)), (91, .agg ((Kid.enc y8).map .t)), (92, .t (.bool (!([y7.fId, y7.fWant, y7.fDone, y7.fAge, y7.fSent] == [y8.fId, y8.fWant, y8.fDone, y8.fAge, y8.fSent]))))], [(2, ((Node.enc p0).map .t)), (3, ((Node.enc p1).map .t))], []⟩ ?_
            refine Wp.cond2 (b := !([y7.fId, y7.fWant, y7.fDone, y7.fAge, y7.fSent] == [y8.fId, y8.fWant, y8.fDone, y8.fAge, y8.fSent])) kr (fun hc => ?_) (fun hc => ?_)
            · have h := cond_t h hc
              refine Wp.srg [] [] ?_
              refine Runs.alln ?_
              refine Wp.fg ⟨[(2, .obj 2 0), (3, .obj 3 0), (4, .t (.bool false)), (5, .t (.int .i64 x5)), (75, .t (.int .i64 x5)), (76, .obj 2 10), (77, .t (.sl 5 (p0.fKids.map Kid.enc))), (78, .t (.int .i64 ((p0.fKids.length : Int)))), (79, .t (.bool (decide (x5 < ((p0.fKids.length : Int)))))), (82, .obj 2 10), (83, .t (.sl 5 (p0.fKids.map Kid.enc))), (84, .t (.int .i64 x5)), (85, .fadr (Kid.enc y7)), (86, .agg ((Kid.enc y7).map .t)), (87, .obj 3 10), (88, .t (.sl 5 (p1.fKids.map Kid.enc))), (89, .t (.int .i64 x5)), (90, .fadr (Kid.enc y8)), (91, .agg ((Kid.enc y8).map .t)), (92, .t (.bool (!([y7.fId, y7.fWant, y7.fDone, y7.fAge, y7.fSent] == [y8.fId, y8.fWant, y8.fDone, y8.fAge, y8.fSent]))))], [(2, ((Node.enc p0).map .t)), (3, ((Node.enc p1).map .t))], []⟩ ?_
              refine Wp.ret ?_
              refine blkR ?_
              refine thenR ?_
              refine thenR ?_
              refine blkR ?_
              refine thenR ?_
              have hr := Option.some.inj h
              subst hr
              exact RetK [.t (.bool false)] (.one (.t (.bool false))) [] kr kr (.refl _) .nil
            · have h := cond_f h hc
              refine Wp.skip ?_
              refine blkN ?_
              refine thenN ?_
              refine Wp.rg [] [] ?_
              refine Runs.alln ?_
              exact ⟨(bAdd .i64 x5 1, p0, p1), h, Le.of (mo := []) (mr := []) kr kr kr kr⟩
          · have h := cond_f h hc
            refine Wp.exit ?_
            refine thenE ?_
            refine thenE ?_
            refine blkE ?_
            refine thenN ?_
            exact ⟨(), h, Le.of (mo := []) (mr := []) kr kr kr kr⟩
  · refine Wp.rg [] [] ?_
    refine Runs.batch 6 kr ?_
    rcases tf (!(p0.fOn == p1.fOn)) with hc | hc
    · have h := cond_t h hc
      refine Runs.known 11 (v := true) kr hc ?_
      refine Runs.alln ?_
      exact ⟨(true, p0, p1), h, Le.of (mo := []) (mr := []) kr kr kr kr⟩
    · have h := cond_f h hc
      refine Runs.known 11 (v := false) kr hc ?_
      refine Runs.batch 7 kr ?_
      rcases tf (p0.fBoss != p1.fBoss) with hc | hc
      · have h := cond_t h hc
        refine Runs.known 18 (v := true) kr hc ?_
        refine Runs.alln ?_
        exact ⟨(true, p0, p1), h, Le.of (mo := []) (mr := []) kr kr kr kr⟩
      · have h := cond_f h hc
        refine Runs.known 18 (v := false) kr hc ?_
        refine Runs.batch 7 kr ?_
        rcases tf (p0.fQuiet != p1.fQuiet) with hc | hc
        · have h := cond_t h hc
          refine Runs.known 25 (v := true) kr hc ?_
          refine Runs.alln ?_
          exact ⟨(true, p0, p1), h, Le.of (mo := []) (mr := []) kr kr kr kr⟩
        · have h := cond_f h hc
          refine Runs.known 25 (v := false) kr hc ?_
          refine Runs.batch 4 kr ?_
          obtain ⟨r1, e_r1, h⟩ := bind_some h
          refine Runs.callK false 30 123 [] [.agg ((Manifest.enc p0.fMan).map .t), .agg ((Manifest.enc p1.fMan).map .t)] [.agg ((Manifest.enc p0.fMan).map .t), .agg ((Manifest.enc p1.fMan).map .t)] (.one (.t (.bool r1))) [] rfl rfl kr kr kr kr kr (spec_SameMan_ok u p0.fMan p1.fMan r1 e_r1) kr ?_
          refine Runs.batch 3 kr ?_
          rcases tf (!r1) with hc | hc
          · have h := cond_t h hc
            refine Runs.known 33 (v := true) kr hc ?_
            refine Runs.alln ?_
            exact ⟨(true, p0, p1), h, Le.of (mo := []) (mr := []) kr kr kr kr⟩
          · have h := cond_f h hc
            refine Runs.known 33 (v := false) kr hc ?_
            refine Runs.batch 9 kr ?_
            rcases tf (p0.fBld.fHave != p1.fBld.fHave) with hc | hc
            · have h := cond_t h hc
              refine Runs.known 42 (v := true) kr hc ?_
              refine Runs.alln ?_
              exact ⟨(true, p0, p1), h, Le.of (mo := []) (mr := []) kr kr kr kr⟩
            · have h := cond_f h hc
              refine Runs.known 42 (v := false) kr hc ?_
              refine Runs.batch 6 kr ?_
              obtain ⟨r2, e_r2, h⟩ := bind_some h
              refine Runs.callK false 49 82 [] [.t (.sl 1 (p0.fBld.fBuf.map (eInt .u8))), .t (.sl 1 (p1.fBld.fBuf.map (eInt .u8)))] [.one (.t (.sl 1 (p0.fBld.fBuf.map (eInt .u8)))), .one (.t (.sl 1 (p1.fBld.fBuf.map (eInt .u8))))] (.one (.t (.bool r2))) [] rfl rfl kr kr kr kr kr (spec_SameBytes_ok u p0.fBld.fBuf p1.fBld.fBuf r2 e_r2) kr ?_
              refine Runs.batch 3 kr ?_
              rcases tf (!r2) with hc | hc
              · have h := cond_t h hc
                refine Runs.known 52 (v := true) kr hc ?_
                refine Runs.alln ?_
                exact ⟨(true, p0, p1), h, Le.of (mo := []) (mr := []) kr kr kr kr⟩
              · have h := cond_f h hc
                refine Runs.known 52 (v := false) kr hc ?_
                refine Runs.batch 7 kr ?_
                rcases tf (p0.fPhase != p1.fPhase) with hc | hc
                · have h := cond_t h hc
                  refine Runs.known 59 (v := true) kr hc ?_
                  refine Runs.alln ?_
                  exact ⟨(true, p0, p1), h, Le.of (mo := []) (mr := []) kr kr kr kr⟩
                · have h := cond_f h hc
                  refine Runs.known 59 (v := false) kr hc ?_
                  refine Runs.batch 2 kr ?_
                  refine Runs.lenT (y := .t (.sl 5 (p0.fKids.map Kid.enc))) (e := 156) Kid.enc p0.fKids 5 rfl rfl rfl kr kr kr kr kr ?_
                  refine Runs.batch 2 kr ?_
                  refine Runs.lenT (y := .t (.sl 5 (p1.fKids.map Kid.enc))) (e := 156) Kid.enc p1.fKids 5 rfl rfl rfl kr kr kr kr kr ?_
                  refine Runs.batch 3 kr ?_
                  rcases tf (((p0.fKids.length : Int)) != ((p1.fKids.length : Int))) with hc | hc
                  · have h := cond_t h hc
                    refine Runs.known 68 (v := true) kr hc ?_
                    refine Runs.alln ?_
                    exact ⟨(true, p0, p1), h, Le.of (mo := []) (mr := []) kr kr kr kr⟩
                  · have h := cond_f h hc
                    refine Runs.known 68 (v := false) kr hc ?_
                    refine Runs.alln ?_
                    exact ⟨(p0.fDrops != p1.fDrops, p0, p1), h, Le.of (mo := []) (mr := []) kr kr kr kr⟩
theorem spec_l29SameDisk_ok (u : Nat) (p0 : Disk) (p1 : Disk) (r : Bool) (h : spec_l29SameDisk u p0 p1 = some r) : CallOK Try.prog 85 [.agg [.t (.sl 1 (p0.fA.map (eInt .u8))), .t (.sl 1 (p0.fB.map (eInt .u8))), .t (.int .i64 p0.fR.fGen), .t (.int .i64 p0.fR.fSlot), .t (.int .i64 p0.fR.fLen), .t (.sl 6 (p0.fP.map Put.enc))], .agg [.t (.sl 1 (p1.fA.map (eInt .u8))), .t (.sl 1 (p1.fB.map (eInt .u8))), .t (.int .i64 p1.fR.fGen), .t (.int .i64 p1.fR.fSlot), .t (.int .i64 p1.fR.fLen), .t (.sl 6 (p1.fP.map Put.enc))]] (.one (.t (.bool r))) [] := by
  unfold spec_l29SameDisk at h
  refine CallOK.of_bodyK (fn := Try.f85) (m := false) [.agg ((Disk.enc p0).map .t), .agg ((Disk.enc p1).map .t)] kr rfl kr kr kr kr kr ?_
  refine Wp.srg [] [] ?_
  refine Runs.alln ?_
  refine Wp.fg ⟨[(2, .obj 2 0), (3, .obj 3 0), (4, .t (.bool false))], [(2, ((Disk.enc p0).map .t)), (3, ((Disk.enc p1).map .t))], []⟩ ?_
  refine Wp.seq ?_
  refine Wp.seqJ (α := Bool × Disk × Disk) (fun a => ⟨[(2, .obj 2 0), (3, .obj 3 0), (4, .t (.bool false)), (37, .t (.bool a.1))], [(2, ((Disk.enc a.2.1).map .t)), (3, ((Disk.enc a.2.2).map .t))], []⟩) (fun a => spec_l29SameDisk_j1 u a.1 a.2.1 a.2.2 = some r) ?_ ?_
  · rintro ⟨x3, p0, p1⟩ h
    change spec_l29SameDisk_j1 u x3 p0 p1 = some r at h
    unfold spec_l29SameDisk_j1 at h
    refine Wp.cond2 (b := x3) kr (fun hc => ?_) (fun hc => ?_)
    · have h := cond_t h hc
      refine Wp.srg [] [] ?_
      refine Runs.alln ?_
      refine Wp.fg ⟨[(2, .obj 2 0), (3, .obj 3 0), (4, .t (.bool false))], [(2, ((Disk.enc p0).map .t)), (3, ((Disk.enc p1).map .t))], []⟩ ?_
      refine Wp.ret ?_
      refine thenR ?_
      have hr := Option.some.inj h
      subst hr
      exact RetK [.t (.bool false)] (.one (.t (.bool false))) [] kr kr (.refl _) .nil
    · have h := cond_f h hc
      refine Wp.skip ?_
      refine thenN ?_
      refine Wp.seqJ (α := Unit) (fun a => ⟨[(4, .t (.bool false))], [], []⟩) (fun a => spec_l29SameDisk_j2 u = some r) ?_ ?_
      · rintro ⟨⟩ h
        change spec_l29SameDisk_j2 u = some r at h
        unfold spec_l29SameDisk_j2 at h
        refine Wp.srg [] [] ?_
        refine Runs.alln ?_
        refine Wp.fg ⟨[(4, .t (.bool true))], [], []⟩ ?_
        refine Wp.ret ?_
        have hr := Option.some.inj h
        subst hr
        exact RetK [.t (.bool true)] (.one (.t (.bool true))) [] kr kr (.refl _) .nil
      · refine Wp.srg [] [] ?_
        refine Runs.alln ?_
        refine Wp.fg ⟨[(2, .obj 2 0), (3, .obj 3 0), (4, .t (.bool false)), (5, .t (.int .i64 0))], [(2, ((Disk.enc p0).map .t)), (3, ((Disk.enc p1).map .t))], []⟩ ?_
        refine Wp.block ?_
        refine Wp.loopF (α := Int × Disk × Disk) (fun a => ⟨[(2, .obj 2 0), (3, .obj 3 0), (4, .t (.bool false)), (5, .t (.int .i64 a.1))], [(2, ((Disk.enc a.2.1).map .t)), (3, ((Disk.enc a.2.2).map .t))], []⟩) (fun k_spec_l29SameDisk_l3 a => spec_l29SameDisk_l3 u k_spec_l29SameDisk_l3 a.1 a.2.1 a.2.2 = some r) ?_ ?_ u (0, p0, p1) h (Le.of (mo := []) (mr := []) kr kr kr kr)
        · intro a h; unfold spec_l29SameDisk_l3 at h; cases h
        · rintro k_spec_l29SameDisk_l3 ⟨x5, p0, p1⟩ h
          change spec_l29SameDisk_l3 u (k_spec_l29SameDisk_l3 + 1) x5 p0 p1 = some r at h
          rw [spec_l29SameDisk_l3] at h
          refine Wp.seq ?_
          refine Wp.srg [] [] ?_
          refine Runs.batch 3 kr ?_
          refine Runs.lenT (y := .t (.sl 6 (p0.fP.map Put.enc))) (e := 158) Put.enc p0.fP 6 rfl rfl rfl kr kr kr kr kr ?_
          refine Runs.alln ?_
          refine Wp.fg ⟨[(2, .obj 2 0), (3, .obj 3 0), (4, .t (.bool false)), (5, .t (.int .i64 x5)), (38, .t (.int .i64 x5)), (39, .obj 2 5), (40, .t (.sl 6 (p0.fP.map Put.enc))), (41, .t (.int .i64 ((p0.fP.length : Int)))), (42, .t (.bool (decide (x5 < ((p0.fP.length : Int))))))], [(2, ((Disk.enc p0).map .t)), (3, ((Disk.enc p1).map .t))], []⟩ ?_
          refine Wp.cond2 (b := decide (x5 < ((p0.fP.length : Int)))) kr (fun hc => ?_) (fun hc => ?_)
          · have h := cond_t h hc
            refine Wp.skip ?_
            refine thenN ?_
            refine Wp.seq ?_
            refine Wp.block ?_
            refine Wp.srg [] [] ?_
            refine Runs.batch 3 kr ?_
            obtain ⟨y7, e_y7, h⟩ := bind_some h
            refine Runs.idxT (e := 158) (kk := .i64) (sz := 6) Put.enc p0.fP x5 rfl kr kr kr kr kr kr e_y7 ?_
            refine Runs.alln ?_
            refine Wp.fg ⟨[(2, .obj 2 0), (3, .obj 3 0), (4, .t (.bool false)), (5, .t (.int .i64 x5)), (6, .obj 6 0), (38, .t (.int .i64 x5)), (39, .obj 2 5), (40, .t (.sl 6 (p0.fP.map Put.enc))), (41, .t (.int .i64 ((p0.fP.length : Int)))), (42, .t (.bool (decide (x5 < ((p0.fP.length : Int)))))), (45, .obj 2 5), (46, .t (.sl 6 (p0.fP.map Put.enc))), (47, .t (.int .i64 x5)), (48, .fadr (Put.enc y7)), (49, .agg ((Put.enc y7).map .t))], [(2, ((Disk.enc p0).map .t)), (3, ((Disk.enc p1).map .t)), (6, ((Put.enc y7).map .t))], []⟩ ?_
            refine Wp.srg [] [] ?_
            refine Runs.batch 3 kr ?_
            obtain ⟨y8, e_y8, h⟩ := bind_some h
            refine Runs.idxT (e := 158) (kk := .i64) (sz := 6) Put.enc p1.fP x5 rfl kr kr kr kr kr kr e_y8 ?_
            refine Runs.alln ?_
            refine Wp.fg ⟨[(2, .obj 2 0), (3, .obj 3 0), (4, .t (.bool false)), (5, .t (.int .i64 x5)), (6, .obj 6 0), (7, .obj 7 0), (38, .t (.int .i64 x5)), (39, .obj 2 5), (40, .t (.sl 6 (p0.fP.map Put.enc))), (41, .t (.int .i64 ((p0.fP.length : Int)))), (42, .t (.bool (decide (x5 < ((p0.fP.length : Int)))))), (45, .obj 2 5), (46, .t (.sl 6 (p0.fP.map Put.enc))), (47, .t (.int .i64 x5)), (48, .fadr (Put.enc y7)), (49, .agg ((Put.enc y7).map .t)), (50, .obj 3 5), (51, .t (.sl 6 (p1.fP.map Put.enc))), (52, .t (.int .i64 x5)), (53, .fadr (Put.enc y8)), (54, .agg ((Put.enc y8).map .t))], [(2, ((Disk.enc p0).map .t)), (3, ((Disk.enc p1).map .t)), (6, ((Put.enc y7).map .t)), (7, ((Put.enc y8).map .t))], []⟩ ?_
            refine Wp.seqJ (α := Int × Disk × Put × Disk × Put × Bool × Bool × Bool × Bool × Bool × Bool) (fun a => ⟨[(2, .obj 2 0), (3, .obj 3 0), (4, .t (.bool false)), (5, .t (.int .i64 a.1)), (6, .obj 6 0), (7, .obj 7 0), (38, .t (.int .i64 a.1)), (39, .obj 2 5), (40, .t (.sl 6 (a.2.1.fP.map Put.enc))), (41, .t (.int .i64 ((a.2.1.fP.length : Int)))), (42, .t (.bool (decide (a.1 < ((a.2.1.fP.length : Int)))))), (45, .obj 2 5), (46, .t (.sl 6 (a.2.1.fP.map Put.enc))), (47, .t (.int .i64 a.1)), (48, .fadr (Put.enc a.2.2.1)), (49, .agg ((Put.enc a.2.2.1).map .t)), (50, .obj 3 5), (51, .t (.sl 6 (a.2.2.2.1.fP.map Put.enc))), (52, .t (.int .i64 a.1)), (53, .fadr (Put.enc a.2.2.2.2.1)), (54, .agg ((Put.enc a.2.2.2.2.1).map .t)), (55, .obj 6 0), (56, .t (.int .i64 a.2.2.1.fWhat)), (57, .obj 7 0), (58, .t (.int .i64 a.2.2.2.2.1.fWhat)), (59, .t (.bool (a.2.2.1.fWhat != a.2.2.2.2.1.fWhat))), (60, .t (.bool a.2.2.2.2.2.1)), (66, .t (.bool a.2.2.2.2.2.2.1)), (67, .t (.bool a.2.2.2.2.2.2.2.1)), (73, .t (.bool a.2.2.2.2.2.2.2.2.1)), (74, .t (.bool a.2.2.2.2.2.2.2.2.2.1)), (81, .t (.bool a.2.2.2.2.2.2.2.2.2.2))], [(2, ((Disk.enc a.2.1).map .t)), (3, ((Disk.enc a.2.2.2.1).map .t)), (6, ((Put.enc a.2.2.1).map .t)), (7, ((Put.enc a.2.2.2.2.1).map .t))], []⟩) (fun a => spec_l29SameDisk_j4 u (fun z0 z1 z2 => spec_l29SameDisk_l3 u k_spec_l29SameDisk_l3 z0 z1 z2) a.1 a.2.1 a.2.2.1 a.2.2.2.1 a.2.2.2.2.1 a.2.2.2.2.2.1 a.2.2.2.2.2.2.1 a.2.2.2.2.2.2.2.1 a.2.2.2.2.2.2.2.2.1 a.2.2.2.2.2.2.2.2.2.1 a.2.2.2.2.2.2.2.2.2.2 = some r) ?_ ?_
            · rintro ⟨x5, p0, y7, p1, y8, x10, x11, x12, x13, x14, x15⟩ h
              change spec_l29SameDisk_j4 u (fun z0 z1 z2 => spec_l29SameDisk_l3 u k_spec_l29SameDisk_l3 z0 z1 z2) x5 p0 y7 p1 y8 x10 x11 x12 x13 x14 x15 = some r at h
              unfold spec_l29SameDisk_j4 at h
              refine Wp.cond2 (b := x15) kr (fun hc => ?_) (fun hc => ?_)
              · have h := cond_t h hc
                refine Wp.srg [] [] ?_
                refine Runs.alln ?_
                refine Wp.fg ⟨[(2, .obj 2 0), (3, .obj 3 0), (4, .t (.bool false)), (5, .t (.int .i64 x5)), (6, .obj 6 0), (7, .obj 7 0), (38, .t (.int .i64 x5)), (39, .obj 2 5), (40, .t (.sl 6 (p0.fP.map Put.enc))), (41, .t (.int .i64 ((p0.fP.length : Int)))), (42, .t (.bool (decide (x5 < ((p0.fP.length : Int)))))), (45, .obj 2 5), (46, .t (.sl 6 (p0.fP.map Put.enc))), (47, .t (.int .i64 x5)), (48, .fadr (Put.enc y7)), (49, .agg ((Put.enc y7).map .t)), (50, .obj 3 5), (51, .t (.sl 6 (p1.fP.map Put.enc))), (52, .t (.int .i64 x5)), (53, .fadr (Put.enc y8)), (54, .agg ((Put.enc y8).map .t)), (55, .obj 6 0), (56, .t (.int .i64 y7.fWhat)), (57, .obj 7 0), (58, .t (.int .i64 y8.fWhat)), (59, .t (.bool (y7.fWhat != y8.fWhat))), (60, .t (.bool x10)), (66, .t (.bool x11)), (67, .t (.bool x12)), (73, .t (.bool x13)), (74, .t (.bool x14)), (81, .t (.bool x15))], [(2, ((Disk.enc p0).map .t)), (3, ((Disk.enc p1).map .t)), (6, ((Put.enc y7).map .t)), (7, ((Put.enc y8).map .t))], []⟩ ?_
                refine Wp.ret ?_
                refine blkR ?_
                refine thenR ?_
                refine thenR ?_
                refine blkR ?_
                refine thenR ?_
                have hr := Option.some.inj h
                subst hr
                exact RetK [.t (.bool false)] (.one (.t (.bool false))) [] kr kr (.refl _) .nil
              · have h := cond_f h hc
                refine Wp.skip ?_
                refine blkN ?_
                refine thenN ?_
                refine Wp.rg [] [] ?_
                refine Runs.alln ?_
                exact ⟨(bAdd .i64 x5 1, p0, p1), h, Le.of (mo := []) (mr := []) kr kr kr kr⟩
            · refine Wp.rg [] [] ?_
              refine Runs.batch 6 kr ?_
              rcases tf (y7.fWhat != y8.fWhat) with hc | hc
              · have h := cond_t h hc
                refine Runs.known 60 (v := true) kr hc ?_
                refine Runs.alln ?_
                exact ⟨(x5, p0, y7, p1, y8, true, true, true, true, true, true), h, Le.of (mo := []) (mr := []) kr kr kr kr⟩
              · have h := cond_f h hc
                refine Runs.known 60 (v := false) kr hc ?_
                refine Runs.batch 7 kr ?_
                rcases tf (y7.fAt != y8.fAt) with hc | hc
                · have h := cond_t h hc
                  refine Runs.known 67 (v := true) kr hc ?_
                  refine Runs.alln ?_
                  exact ⟨(x5, p0, y7, p1, y8, false, y7.fAt != y8.fAt, true, true, true, true), h, Le.of (mo := []) (mr := []) kr kr kr kr⟩
                · have h := cond_f h hc
                  refine Runs.known 67 (v := false) kr hc ?_
                  refine Runs.batch 7 kr ?_
                  rcases tf (!([y7.fR.fGen, y7.fR.fSlot, y7.fR.fLen] == [y8.fR.fGen, y8.fR.fSlot, y8.fR.fLen])) with hc | hc
                  · have h := cond_t h hc
                    refine Runs.known 74 (v := true) kr hc ?_
                    refine Runs.alln ?_
                    exact ⟨(x5, p0, y7, p1, y8, false, y7.fAt != y8.fAt, false, !([y7.fR.fGen, y7.fR.fSlot, y7.fR.fLen] == [y8.fR.fGen, y8.fR.fSlot, y8.fR.fLen]), true, true), h, Le.of (mo := []) (mr := []) kr kr kr kr⟩
                  · have h := cond_f h hc
                    refine Runs.known 74 (v := false) kr hc ?_
                    refine Runs.batch 4 kr ?_
                    obtain ⟨r9, e_r9, h⟩ := bind_some h
                    refine Runs.callK false 79 82 [] [.t (.sl 1 (y7.fB.map (eInt .u8))), .t (.sl 1 (y8.fB.map (eInt .u8)))] [.one (.t (.sl 1 (y7.fB.map (eInt .u8)))), .one (.t (.sl 1 (y8.fB.map (eInt .u8))))] (.one (.t (.bool r9))) [] rfl rfl kr kr kr kr kr (spec_SameBytes_ok u y7.fB y8.fB r9 e_r9) kr ?_
                    refine Runs.alln ?_
                    exact ⟨(x5, p0, y7, p1, y8, false, y7.fAt != y8.fAt, false, !([y7.fR.fGen, y7.fR.fSlot, y7.fR.fLen] == [y8.fR.fGen, y8.fR.fSlot, y8.fR.fLen]), false, !r9), h, Le.of (mo := []) (mr := []) kr kr kr kr⟩
          · have h := cond_f h hc
            refine Wp.exit ?_
            refine thenE ?_
            refine thenE ?_
            refine blkE ?_
            refine thenN ?_
            exact ⟨(), h, Le.of (mo := []) (mr := []) kr kr kr kr⟩
  · refine Wp.rg [] [] ?_
    refine Runs.batch 4 kr ?_
    obtain ⟨r1, e_r1, h⟩ := bind_some h
    refine Runs.callK false 12 82 [] [.t (.sl 1 (p0.fA.map (eInt .u8))), .t (.sl 1 (p1.fA.map (eInt .u8)))] [.one (.t (.sl 1 (p0.fA.map (eInt .u8)))), .one (.t (.sl 1 (p1.fA.map (eInt .u8))))] (.one (.t (.bool r1))) [] rfl rfl kr kr kr kr kr (spec_SameBytes_ok u p0.fA p1.fA r1 e_r1) kr ?_
    refine Runs.batch 2 kr ?_
    rcases tf (!r1) with hc | hc
    · have h := cond_t h hc
      refine Runs.known 14 (v := true) kr hc ?_
      refine Runs.alln ?_
      exact ⟨(true, p0, p1), h, Le.of (mo := []) (mr := []) kr kr kr kr⟩
    · have h := cond_f h hc
      refine Runs.known 14 (v := false) kr hc ?_
      refine Runs.batch 4 kr ?_
      obtain ⟨r2, e_r2, h⟩ := bind_some h
      refine Runs.callK false 19 82 [] [.t (.sl 1 (p0.fB.map (eInt .u8))), .t (.sl 1 (p1.fB.map (eInt .u8)))] [.one (.t (.sl 1 (p0.fB.map (eInt .u8)))), .one (.t (.sl 1 (p1.fB.map (eInt .u8))))] (.one (.t (.bool r2))) [] rfl rfl kr kr kr kr kr (spec_SameBytes_ok u p0.fB p1.fB r2 e_r2) kr ?_
      refine Runs.batch 3 kr ?_
      rcases tf (!r2) with hc | hc
      · have h := cond_t h hc
        refine Runs.known 22 (v := true) kr hc ?_
        refine Runs.alln ?_
        exact ⟨(true, p0, p1), h, Le.of (mo := []) (mr := []) kr kr kr kr⟩
      · have h := cond_f h hc
        refine Runs.known 22 (v := false) kr hc ?_
        refine Runs.batch 7 kr ?_
        rcases tf (!([p0.fR.fGen, p0.fR.fSlot, p0.fR.fLen] == [p1.fR.fGen, p1.fR.fSlot, p1.fR.fLen])) with hc | hc
        · have h := cond_t h hc
          refine Runs.known 29 (v := true) kr hc ?_
          refine Runs.alln ?_
          exact ⟨(true, p0, p1), h, Le.of (mo := []) (mr := []) kr kr kr kr⟩
        · have h := cond_f h hc
          refine Runs.known 29 (v := false) kr hc ?_
          refine Runs.batch 2 kr ?_
          refine Runs.lenT (y := .t (.sl 6 (p0.fP.map Put.enc))) (e := 158) Put.enc p0.fP 6 rfl rfl rfl kr kr kr kr kr ?_
          refine Runs.batch 2 kr ?_
          refine Runs.lenT (y := .t (.sl 6 (p1.fP.map Put.enc))) (e := 158) Put.enc p1.fP 6 rfl rfl rfl kr kr kr kr kr ?_
          refine Runs.alln ?_
          exact ⟨(((p0.fP.length : Int)) != ((p1.fP.length : Int)), p0, p1), h, Le.of (mo := []) (mr := []) kr kr kr kr⟩
theorem spec_SameBut_ok (u : Nat) (p0 : World) (p1 : World) (r : Bool) (h : spec_SameBut u p0 p1 = some r) : CallOK Try.prog 39 [.agg [.t (.int .i64 p0.fC.fSize), .t (.int .i64 p0.fC.fWindow), .t (.int .i64 p0.fC.fSuspect), .t (.int .i64 p0.fC.fForget), .t (.sl 1 (p0.fT.fUp.map (eInt .i64))), .t (.sl 1 (p0.fNew.map (eInt .u8))), .t (.sl 1 (p0.fOld.map Image.enc)), .t (.sl 12 (p0.fN.map Node.enc)), .t (.sl 6 (p0.fD.map Disk.enc)), .t (.sl 3 (p0.fNet.map Packet.enc)), .t (.sl 3 (p0.fLog.map Sent.enc)), .t (.int .i64 p0.fLost)], .agg [.t (.int .i64 p1.fC.fSize), .t (.int .i64 p1.fC.fWindow), .t (.int .i64 p1.fC.fSuspect), .t (.int .i64 p1.fC.fForget), .t (.sl 1 (p1.fT.fUp.map (eInt .i64))), .t (.sl 1 (p1.fNew.map (eInt .u8))), .t (.sl 1 (p1.fOld.map Image.enc)), .t (.sl 12 (p1.fN.map Node.enc)), .t (.sl 6 (p1.fD.map Disk.enc)), .t (.sl 3 (p1.fNet.map Packet.enc)), .t (.sl 3 (p1.fLog.map Sent.enc)), .t (.int .i64 p1.fLost)]] (.one (.t (.bool r))) [] := by
  unfold spec_SameBut at h
  refine CallOK.of_bodyK (fn := Try.f39) (m := false) [.agg ((World.enc p0).map .t), .agg ((World.enc p1).map .t)] kr rfl kr kr kr kr kr ?_
  refine Wp.srg [] [] ?_
  refine Runs.alln ?_
  refine Wp.fg ⟨[(2, .obj 2 0), (3, .obj 3 0), (4, .t (.bool false))], [(2, ((World.enc p0).map .t)), (3, ((World.enc p1).map .t))], []⟩ ?_
  refine Wp.seq ?_
  refine Wp.seqJ (α := Bool × World × World) (fun a => ⟨[(2, .obj 2 0), (3, .obj 3 0), (4, .t (.bool false)), (78, .t (.bool a.1))], [(2, ((World.enc a.2.1).map .t)), (3, ((World.enc a.2.2).map .t))], []⟩) (fun a => spec_SameBut_j1 u a.1 a.2.1 a.2.2 = some r) ?_ ?_
  · rintro ⟨x3, p0, p1⟩ h
    change spec_SameBut_j1 u x3 p0 p1 = some r at h
    unfold spec_SameBut_j1 at h
    refine Wp.cond2 (b := x3) kr (fun hc => ?_) (fun hc => ?_)
    · have h := cond_t h hc
      refine Wp.srg [] [] ?_
      refine Runs.alln ?_
      refine Wp.fg ⟨[(2, .obj 2 0), (3, .obj 3 0), (4, .t (.bool false))], [(2, ((World.enc p0).map .t)), (3, ((World.enc p1).map .t))], []⟩ ?_
      refine Wp.ret ?_
      refine thenR ?_
      have hr := Option.some.inj h
      subst hr
      exact RetK [.t (.bool false)] (.one (.t (.bool false))) [] kr kr (.refl _) .nil
    · have h := cond_f h hc
      refine Wp.skip ?_
      refine thenN ?_
      refine Wp.seqJ (α := World × World) (fun a => ⟨[(2, .obj 2 0), (3, .obj 3 0), (4, .t (.bool false))], [(2, ((World.enc a.1).map .t)), (3, ((World.enc a.2).map .t))], []⟩) (fun a => spec_SameBut_j2 u a.1 a.2 = some r) ?_ ?_
      · rintro ⟨p0, p1⟩ h
        change spec_SameBut_j2 u p0 p1 = some r at h
        unfold spec_SameBut_j2 at h
        refine Wp.seqJ (α := World × World) (fun a => ⟨[(2, .obj 2 0), (3, .obj 3 0), (4, .t (.bool false))], [(2, ((World.enc a.1).map .t)), (3, ((World.enc a.2).map .t))], []⟩) (fun a => spec_SameBut_j3 u a.1 a.2 = some r) ?_ ?_
        · rintro ⟨p0, p1⟩ h
          change spec_SameBut_j3 u p0 p1 = some r at h
          unfold spec_SameBut_j3 at h
          refine Wp.seqJ (α := World × World) (fun a => ⟨[(2, .obj 2 0), (3, .obj 3 0), (4, .t (.bool false))], [(2, ((World.enc a.1).map .t)), (3, ((World.enc a.2).map .t))], []⟩) (fun a => spec_SameBut_j4 u a.1 a.2 = some r) ?_ ?_
          · rintro ⟨p0, p1⟩ h
            change spec_SameBut_j4 u p0 p1 = some r at h
            unfold spec_SameBut_j4 at h
            refine Wp.seqJ (α := World × World) (fun a => ⟨[(2, .obj 2 0), (3, .obj 3 0), (4, .t (.bool false))], [(2, ((World.enc a.1).map .t)), (3, ((World.enc a.2).map .t))], []⟩) (fun a => spec_SameBut_j5 u a.1 a.2 = some r) ?_ ?_
            · rintro ⟨p0, p1⟩ h
              change spec_SameBut_j5 u p0 p1 = some r at h
              unfold spec_SameBut_j5 at h
              refine Wp.seqJ (α := Unit) (fun a => ⟨[(4, .t (.bool false))], [], []⟩) (fun a => spec_SameBut_j6 u = some r) ?_ ?_
              · rintro ⟨⟩ h
                change spec_SameBut_j6 u = some r at h
                unfold spec_SameBut_j6 at h
                refine Wp.srg [] [] ?_
                refine Runs.alln ?_
                refine Wp.fg ⟨[(4, .t (.bool true))], [], []⟩ ?_
                refine Wp.ret ?_
                have hr := Option.some.inj h
                subst hr
                exact RetK [.t (.bool true)] (.one (.t (.bool true))) [] kr kr (.refl _) .nil
              · refine Wp.srg [] [] ?_
                refine Runs.alln ?_
                refine Wp.fg ⟨[(2, .obj 2 0), (3, .obj 3 0), (4, .t (.bool false)), (10, .t (.int .i64 0))], [(2, ((World.enc p0).map .t)), (3, ((World.enc p1).map .t))], []⟩ ?_
                refine Wp.block ?_
                refine Wp.loopF (α := Int × World × World) (fun a => ⟨[(2, .obj 2 0), (3, .obj 3 0), (4, .t (.bool false)), (10, .t (.int .i64 a.1))], [(2, ((World.enc a.2.1).map .t)), (3, ((World.enc a.2.2).map .t))], []⟩) (fun k_spec_SameBut_l7 a => spec_SameBut_l7 u k_spec_SameBut_l7 a.1 a.2.1 a.2.2 = some r) ?_ ?_ u (0, p0, p1) h (Le.of (mo := []) (mr := []) kr kr kr kr)
                · intro a h; unfold spec_SameBut_l7 at h; cases h
                · rintro k_spec_SameBut_l7 ⟨x29, p0, p1⟩ h
                  change spec_SameBut_l7 u (k_spec_SameBut_l7 + 1) x29 p0 p1 = some r at h
                  rw [spec_SameBut_l7] at h
                  refine Wp.seq ?_
                  refine Wp.srg [] [] ?_
                  refine Runs.batch 3 kr ?_
                  refine Runs.lenT (y := .t (.sl 3 (p0.fLog.map Sent.enc))) (e := 99) Sent.enc p0.fLog 3 rfl rfl rfl kr kr kr kr kr ?_
                  refine Runs.alln ?_
                  refine Wp.fg ⟨[(2, .obj 2 0), (3, .obj 3 0), (4, .t (.bool false)), (10, .t (.int .i64 x29)), (167, .t (.int .i64 x29)), (168, .obj 2 10), (169, .t (.sl 3 (p0.fLog.map Sent.enc))), (170, .t (.int .i64 ((p0.fLog.length : Int)))), (171, .t (.bool (decide (x29 < ((p0.fLog.length : Int))))))], [(2, ((World.enc p0).map .t)), (3, ((World.enc p1).map .t))], []⟩ ?_
                  refine Wp.cond2 (b := decide (x29 < ((p0.fLog.length : Int)))) kr (fun hc => ?_) (fun hc => ?_)
                  · have h := cond_t h hc
                    refine Wp.skip ?_
                    refine thenN ?_
                    refine Wp.seq ?_
                    refine Wp.block ?_
                    refine Wp.seq ?_
                    refine Wp.regionA (pOf []) (rhoOf [(2, .obj 2), (3, .obj 3), (10, .frz), (174, .obj 2), (175, .frz), (176, .frz), (177, .frz), (178, .frz), (179, .obj 3), (180, .frz), (181, .frz), (182, .frz), (183, .frz)]) kr kr ?_
                    refine Runs.batch 3 kr ?_
                    obtain ⟨y31, e_y31, h⟩ := bind_some h
                    refine Runs.idxT (e := 99) (kk := .i64) (sz := 3) Sent.enc p0.fLog x29 rfl kr kr kr kr kr kr e_y31 ?_
                    refine Runs.batch 4 kr ?_
                    obtain ⟨y32, e_y32, h⟩ := bind_some h
                    refine Runs.idxT (e := 99) (kk := .i64) (sz := 3) Sent.enc p1.fLog x29 rfl kr kr kr kr kr kr e_y32 ?_
                    refine Runs.alln ?_
                    refine Wp.fg ⟨[(2, .obj 2 0), (3, .obj 3 0), (4, .t (.bool false)), (10, .t (.int .i64 x29)), (167, .t (.int .i64 x29)), (168, .obj 2 10), (169, .t (.sl 3 (p0.fLog.map Sent.enc))), (170, .t (.int .i64 ((p0.fLog.length : Int)))), (171, .t (.bool (decide (x29 < ((p0.fLog.length : Int)))))), (174, .obj 2 10), (175, .t (.sl 3 (p0.fLog.map Sent.enc))), (176, .t (.int .i64 x29)), (177, .fadr (Sent.enc y31)), (178, .agg ((Sent.enc y31).map .t)), (179, .obj 3 10), (180, .t (.sl 3 (p1.fLog.map Sent.enc))), (181, .t (.int .i64 x29)), (182, .fadr (Sent.enc y32)), (183, .agg ((Sent.enc y32).map .t)), (184, .t (.bool (!([y31.fFrom, y31.fTo, y31.fI] == [y32.fFrom, y32.fTo, y32.fI]))))], [(2, ((World.enc p0).map .t)), (3, ((World.enc p1).map .t))], []⟩ ?_
                    refine Wp.cond2 (b := !([y31.fFrom, y31.fTo, y31.fI] == [y32.fFrom, y32.fTo, y32.fI])) kr (fun hc => ?_) (fun hc => ?_)
                    · have h := cond_t h hc
                      refine Wp.srg [] [] ?_
                      refine Runs.alln ?_
                      refine Wp.fg ⟨[(2, .obj 2 0), (3, .obj 3 0), (4, .t (.bool false)), (10, .t (.int .i64 x29)), (167, .t (.int .i64 x29)), (168, .obj 2 10), (169, .t (.sl 3 (p0.fLog.map Sent.enc))), (170, .t (.int .i64 ((p0.fLog.length : Int)))), (171, .t (.bool (decide (x29 < ((p0.fLog.length : Int)))))), (174, .obj 2 10), (175, .t (.sl 3 (p0.fLog.map Sent.enc))), (176, .t (.int .i64 x29)), (177, .fadr (Sent.enc y31)), (178, .agg ((Sent.enc y31).map .t)), (179, .obj 3 10), (180, .t (.sl 3 (p1.fLog.map Sent.enc))), (181, .t (.int .i64 x29)), (182, .fadr (Sent.enc y32)), (183, .agg ((Sent.enc y32).map .t)), (184, .t (.bool (!([y31.fFrom, y31.fTo, y31.fI] == [y32.fFrom, y32.fTo, y32.fI]))))], [(2, ((World.enc p0).map .t)), (3, ((World.enc p1).map .t))], []⟩ ?_
                      refine Wp.ret ?_
                      refine blkR ?_
                      refine thenR ?_
                      refine thenR ?_
                      refine blkR ?_
                      refine thenR ?_
                      have hr := Option.some.inj h
                      subst hr
                      exact RetK [.t (.bool false)] (.one (.t (.bool false))) [] kr kr (.refl _) .nil
                    · have h := cond_f h hc
                      refine Wp.skip ?_
                      refine blkN ?_
                      refine thenN ?_
                      refine Wp.rg [] [] ?_
                      refine Runs.alln ?_
                      exact ⟨(bAdd .i64 x29 1, p0, p1), h, Le.of (mo := []) (mr := []) kr kr kr kr⟩
                  · have h := cond_f h hc
                    refine Wp.exit ?_
                    refine thenE ?_
                    refine thenE ?_
                    refine blkE ?_
                    refine thenN ?_
                    exact ⟨(), h, Le.of (mo := []) (mr := []) kr kr kr kr⟩
            · refine Wp.srg [] [] ?_
              refine Runs.alln ?_
              refine Wp.fg ⟨[(2, .obj 2 0), (3, .obj 3 0), (4, .t (.bool false)), (9, .t (.int .i64 0))], [(2, ((World.enc p0).map .t)), (3, ((World.enc p1).map .t))], []⟩ ?_
              refine Wp.block ?_
              refine Wp.loopF (α := Int × World × World) (fun a => ⟨[(2, .obj 2 0), (3, .obj 3 0), (4, .t (.bool false)), (9, .t (.int .i64 a.1))], [(2, ((World.enc a.2.1).map .t)), (3, ((World.enc a.2.2).map .t))], []⟩) (fun k_spec_SameBut_l8 a => spec_SameBut_l8 u k_spec_SameBut_l8 a.1 a.2.1 a.2.2 = some r) ?_ ?_ u (0, p0, p1) h (Le.of (mo := []) (mr := []) kr kr kr kr)
              · intro a h; unfold spec_SameBut_l8 at h; cases h
              · rintro k_spec_SameBut_l8 ⟨x23, p0, p1⟩ h
                change spec_SameBut_l8 u (k_spec_SameBut_l8 + 1) x23 p0 p1 = some r at h
                rw [spec_SameBut_l8] at h
                refine Wp.seq ?_
                refine Wp.srg [] [] ?_
                refine Runs.batch 3 kr ?_
                refine Runs.lenT (y := .t (.sl 6 (p0.fD.map Disk.enc))) (e := 109) Disk.enc p0.fD 6 rfl rfl rfl kr kr kr kr kr ?_
                refine Runs.alln ?_
                refine Wp.fg ⟨[(2, .obj 2 0), (3, .obj 3 0), (4, .t (.bool false)), (9, .t (.int .i64 x23)), (148, .t (.int .i64 x23)), (149, .obj 2 8), (150, .t (.sl 6 (p0.fD.map Disk.enc))), (151, .t (.int .i64 ((p0.fD.length : Int)))), (152, .t (.bool (decide (x23 < ((p0.fD.length : Int))))))], [(2, ((World.enc p0).map .t)), (3, ((World.enc p1).map .t))], []⟩ ?_
                refine Wp.cond2 (b := decide (x23 < ((p0.fD.length : Int)))) kr (fun hc => ?_) (fun hc => ?_)
                · have h := cond_t h hc
                  refine Wp.skip ?_
                  refine thenN ?_
                  refine Wp.seq ?_
                  refine Wp.block ?_
                  refine Wp.seq ?_
                  refine Wp.regionA (pOf []) (rhoOf [(2, .obj 2), (3, .obj 3), (9, .frz), (155, .obj 2), (156, .frz), (157, .frz), (158, .frz), (159, .frz), (160, .obj 3), (161, .frz), (162, .frz), (163, .frz), (164, .frz), (165, .frz)]) kr kr ?_
                  refine Runs.batch 3 kr ?_
                  obtain ⟨y25, e_y25, h⟩ := bind_some h
                  refine Runs.idxT (e := 109) (kk := .i64) (sz := 6) Disk.enc p0.fD x23 rfl kr kr kr kr kr kr e_y25 ?_
                  refine Runs.batch 4 kr ?_
                  obtain ⟨y26, e_y26, h⟩ := bind_some h
                  refine Runs.idxT (e := 109) (kk := .i64) (sz := 6) Disk.enc p1.fD x23 rfl kr kr kr kr kr kr e_y26 ?_
                  refine Runs.batch 1 kr ?_
                  obtain ⟨r27, e_r27, h⟩ := bind_some h
                  refine Runs.callK false 165 85 [] [.agg ((Disk.enc y25).map .t), .agg ((Disk.enc y26).map .t)] [.agg ((Disk.enc y25).map .t), .agg ((Disk.enc y26).map .t)] (.one (.t (.bool r27))) [] rfl rfl kr kr kr kr kr (spec_l29SameDisk_ok u y25 y26 r27 e_r27) kr ?_
                  refine Runs.alln ?_
                  refine Wp.fg ⟨[(2, .obj 2 0), (3, .obj 3 0), (4, .t (.bool false)), (9, .t (.int .i64 x23)), (148, .t (.int .i64 x23)), (149, .obj 2 8), (150, .t (.sl 6 (p0.fD.map Disk.enc))), (151, .t (.int .i64 ((p0.fD.length : Int)))), (152, .t (.bool (decide (x23 < ((p0.fD.length : Int)))))), (155, .obj 2 8), (156, .t (.sl 6 (p0.fD.map Disk.enc))), (157, .t (.int .i64 x23)), (158, .fadr (Disk.enc y25)), (159, .agg ((Disk.enc y25).map .t)), (160, .obj 3 8), (161, .t (.sl 6 (p1.fD.map Disk.enc))), (162, .t (.int .i64 x23)), (163, .fadr (Disk.enc y26)), (164, .agg ((Disk.enc y26).map .t)), (165, .t (.bool r27)), (166, .t (.bool (!r27)))], [(2, ((World.enc p0).map .t)), (3, ((World.enc p1).map .t))], []⟩ ?_
                  refine Wp.cond2 (b := !r27) kr (fun hc => ?_) (fun hc => ?_)
                  · have h := cond_t h hc
                    refine Wp.srg [] [] ?_
                    refine Runs.alln ?_
                    refine Wp.fg ⟨[(2, .obj 2 0), (3, .obj 3 0), (4, .t (.bool false)), (9, .t (.int .i64 x23)), (148, .t (.int .i64 x23)), (149, .obj 2 8), (150, .t (.sl 6 (p0.fD.map Disk.enc))), (151, .t (.int .i64 ((p0.fD.length : Int)))), (152, .t (.bool (decide (x23 < ((p0.fD.length : Int)))))), (155, .obj 2 8), (156, .t (.sl 6 (p0.fD.map Disk.enc))), (157, .t (.int .i64 x23)), (158, .fadr (Disk.enc y25)), (159, .agg ((Disk.enc y25).map .t)), (160, .obj 3 8), (161, .t (.sl 6 (p1.fD.map Disk.enc))), (162, .t (.int .i64 x23)), (163, .fadr (Disk.enc y26)), (164, .agg ((Disk.enc y26).map .t)), (165, .t (.bool r27)), (166, .t (.bool (!r27)))], [(2, ((World.enc p0).map .t)), (3, ((World.enc p1).map .t))], []⟩ ?_
                    refine Wp.ret ?_
                    refine blkR ?_
                    refine thenR ?_
                    refine thenR ?_
                    refine blkR ?_
                    refine thenR ?_
                    have hr := Option.some.inj h
                    subst hr
                    exact RetK [.t (.bool false)] (.one (.t (.bool false))) [] kr kr (.refl _) .nil
                  · have h := cond_f h hc
                    refine Wp.skip ?_
                    refine blkN ?_
                    refine thenN ?_
                    refine Wp.rg [] [] ?_
                    refine Runs.alln ?_
                    exact ⟨(bAdd .i64 x23 1, p0, p1), h, Le.of (mo := []) (mr := []) kr kr kr kr⟩
                · have h := cond_f h hc
                  refine Wp.exit ?_
                  refine thenE ?_
                  refine thenE ?_
                  refine blkE ?_
                  refine thenN ?_
                  exact ⟨(p0, p1), h, Le.of (mo := []) (mr := []) kr kr kr kr⟩
          · refine Wp.srg [] [] ?_
            refine Runs.alln ?_
            refine Wp.fg ⟨[(2, .obj 2 0), (3, .obj 3 0), (4, .t (.bool false)), (7, .t (.int .i64 0))], [(2, ((World.enc p0).map .t)), (3, ((World.enc p1).map .t))], []⟩ ?_
            refine Wp.block ?_
            refine Wp.loopF (α := Int × World × World) (fun a => ⟨[(2, .obj 2 0), (3, .obj 3 0), (4, .t (.bool false)), (7, .t (.int .i64 a.1))], [(2, ((World.enc a.2.1).map .t)), (3, ((World.enc a.2.2).map .t))], []⟩) (fun k_spec_SameBut_l9 a => spec_SameBut_l9 u k_spec_SameBut_l9 a.1 a.2.1 a.2.2 = some r) ?_ ?_ u (0, p0, p1) h (Le.of (mo := []) (mr := []) kr kr kr kr)
            · intro a h; unfold spec_SameBut_l9 at h; cases h
            · rintro k_spec_SameBut_l9 ⟨x16, p0, p1⟩ h
              change spec_SameBut_l9 u (k_spec_SameBut_l9 + 1) x16 p0 p1 = some r at h
              rw [spec_SameBut_l9] at h
              refine Wp.seq ?_
              refine Wp.srg [] [] ?_
              refine Runs.batch 3 kr ?_
              refine Runs.lenT (y := .t (.sl 12 (p0.fN.map Node.enc))) (e := 114) Node.enc p0.fN 12 rfl rfl rfl kr kr kr kr kr ?_
              refine Runs.alln ?_
              refine Wp.fg ⟨[(2, .obj 2 0), (3, .obj 3 0), (4, .t (.bool false)), (7, .t (.int .i64 x16)), (121, .t (.int .i64 x16)), (122, .obj 2 7), (123, .t (.sl 12 (p0.fN.map Node.enc))), (124, .t (.int .i64 ((p0.fN.length : Int)))), (125, .t (.bool (decide (x16 < ((p0.fN.length : Int))))))], [(2, ((World.enc p0).map .t)), (3, ((World.enc p1).map .t))], []⟩ ?_
              refine Wp.cond2 (b := decide (x16 < ((p0.fN.length : Int)))) kr (fun hc => ?_) (fun hc => ?_)
              · have h := cond_t h hc
                refine Wp.skip ?_
                refine thenN ?_
                refine Wp.seq ?_
                refine Wp.block ?_
                refine Wp.srg [] [] ?_
                refine Runs.batch 3 kr ?_
                obtain ⟨y18, e_y18, h⟩ := bind_some h
                refine Runs.idxT (e := 114) (kk := .i64) (sz := 12) Node.enc p0.fN x16 rfl kr kr kr kr kr kr e_y18 ?_
                refine Runs.alln ?_
                refine Wp.fg ⟨[(2, .obj 2 0), (3, .obj 3 0), (4, .t (.bool false)), (7, .t (.int .i64 x16)), (8, .obj 8 0), (121, .t (.int .i64 x16)), (122, .obj 2 7), (123, .t (.sl 12 (p0.fN.map Node.enc))), (124, .t (.int .i64 ((p0.fN.length : Int)))), (125, .t (.bool (decide (x16 < ((p0.fN.length : Int)))))), (128, .obj 2 7), (129, .t (.sl 12 (p0.fN.map Node.enc))), (130, .t (.int .i64 x16)), (131, .fadr (Node.enc y18)), (132, .agg ((Node.enc y18).map .t))], [(2, ((World.enc p0).map .t)), (3, ((World.enc p1).map .t)), (8, ((Node.enc y18).map .t))], []⟩ ?_
                refine Wp.srg [] [] ?_
                refine Runs.batch 3 kr ?_
                obtain ⟨y19, e_y19, h⟩ := bind_some h
                refine Runs.idxT (e := 114) (kk := .i64) (sz := 12) Node.enc p1.fN x16 rfl kr kr kr kr kr kr e_y19 ?_
                refine Runs.alln ?_
                refine Wp.fg ⟨[(2, .obj 2 0), (3, .obj 3 0), (4, .t (.bool false)), (7, .t (.int .i64 x16)), (8, .obj 8 0), (121, .t (.int .i64 x16)), (122, .obj 2 7), (123, .t (.sl 12 (p0.fN.map Node.enc))), (124, .t (.int .i64 ((p0.fN.length : Int)))), (125, .t (.bool (decide (x16 < ((p0.fN.length : Int)))))), (128, .obj 2 7), (129, .t (.sl 12 (p0.fN.map Node.enc))), (130, .t (.int .i64 x16)), (131, .fadr (Node.enc y18)), (132, .agg ((Node.enc y18).map .t)), (133, .obj 3 7), (134, .t (.sl 12 (p1.fN.map Node.enc))), (135, .t (.int .i64 x16)), (136, .fadr (Node.enc y19)), (137, .fadr [.int .i64 y19.fDrops]), (138, .t (.int .i64 y19.fDrops)), (139, .obj 8 11)], [(2, ((World.enc p0).map .t)), (3, ((World.enc p1).map .t)), (8, [.t (.bool y18.fOn), .t (.int .i64 y18.fBoss), .t (.int .i64 y18.fQuiet), .t (.int .i64 y18.fMan.fGen), .t (.int .i64 y18.fMan.fSize), .t (.int .i64 y18.fMan.fLen), .t (.sl 2 (y18.fMan.fSums.map Sum.enc)), .t (.int .i64 y18.fBld.fHave), .t (.sl 1 (y18.fBld.fBuf.map (eInt .u8))), .t (.int .i64 y18.fPhase), .t (.sl 5 (y18.fKids.map Kid.enc)), .t (.int .i64 y19.fDrops)])], []⟩ ?_
                refine Wp.seq ?_
                refine Wp.regionA (pOf []) (rhoOf [(3, .obj 3), (7, .frz), (8, .obj 8), (140, .frz), (141, .obj 3), (142, .frz), (143, .frz), (144, .frz), (145, .frz), (146, .frz)]) kr kr ?_
                refine Runs.batch 4 kr ?_
                obtain ⟨y20, e_y20, h⟩ := bind_some h
                refine Runs.idxT (e := 114) (kk := .i64) (sz := 12) Node.enc p1.fN x16 rfl kr kr kr kr kr kr e_y20 ?_
                refine Runs.batch 1 kr ?_
                obtain ⟨r21, e_r21, h⟩ := bind_some h
                refine Runs.callK false 146 84 [] [.agg [.t (.bool y18.fOn), .t (.int .i64 y18.fBoss), .t (.int .i64 y18.fQuiet), .t (.int .i64 y18.fMan.fGen), .t (.int .i64 y18.fMan.fSize), .t (.int .i64 y18.fMan.fLen), .t (.sl 2 (y18.fMan.fSums.map Sum.enc)), .t (.int .i64 y18.fBld.fHave), .t (.sl 1 (y18.fBld.fBuf.map (eInt .u8))), .t (.int .i64 y18.fPhase), .t (.sl 5 (y18.fKids.map Kid.enc)), .t (.int .i64 y19.fDrops)], .agg ((Node.enc y20).map .t)] [.agg [.t (.bool y18.fOn), .t (.int .i64 y18.fBoss), .t (.int .i64 y18.fQuiet), .t (.int .i64 y18.fMan.fGen), .t (.int .i64 y18.fMan.fSize), .t (.int .i64 y18.fMan.fLen), .t (.sl 2 (y18.fMan.fSums.map Sum.enc)), .t (.int .i64 y18.fBld.fHave), .t (.sl 1 (y18.fBld.fBuf.map (eInt .u8))), .t (.int .i64 y18.fPhase), .t (.sl 5 (y18.fKids.map Kid.enc)), .t (.int .i64 y19.fDrops)], .agg ((Node.enc y20).map .t)] (.one (.t (.bool r21))) [] rfl rfl kr kr kr kr kr (spec_SameNode_ok u ((Node.mk y18.fOn y18.fBoss y18.fQuiet y18.fMan y18.fBld y18.fPhase y18.fKids y19.fDrops)) y20 r21 e_r21) kr ?_
                refine Runs.alln ?_
                refine Wp.fg ⟨[(2, .obj 2 0), (3, .obj 3 0), (4, .t (.bool false)), (7, .t (.int .i64 x16)), (8, .obj 8 0), (121, .t (.int .i64 x16)), (122, .obj 2 7), (123, .t (.sl 12 (p0.fN.map Node.enc))), (124, .t (.int .i64 ((p0.fN.length : Int)))), (125, .t (.bool (decide (x16 < ((p0.fN.length : Int)))))), (128, .obj 2 7), (129, .t (.sl 12 (p0.fN.map Node.enc))), (130, .t (.int .i64 x16)), (131, .fadr (Node.enc y18)), (132, .agg ((Node.enc y18).map .t)), (133, .obj 3 7), (134, .t (.sl 12 (p1.fN.map Node.enc))), (135, .t (.int .i64 x16)), (136, .fadr (Node.enc y19)), (137, .fadr [.int .i64 y19.fDrops]), (138, .t (.int .i64 y19.fDrops)), (139, .obj 8 11), (140, .agg [.t (.bool y18.fOn), .t (.int .i64 y18.fBoss), .t (.int .i64 y18.fQuiet), .t (.int .i64 y18.fMan.fGen), .t (.int .i64 y18.fMan.fSize), .t (.int .i64 y18.fMan.fLen), .t (.sl 2 (y18.fMan.fSums.map Sum.enc)), .t (.int .i64 y18.fBld.fHave), .t (.sl 1 (y18.fBld.fBuf.map (eInt .u8))), .t (.int .i64 y18.fPhase), .t (.sl 5 (y18.fKids.map Kid.enc)), .t (.int .i64 y19.fDrops)]), (141, .obj 3 7), (142, .t (.sl 12 (p1.fN.map Node.enc))), (143, .t (.int .i64 x16)), (144, .fadr (Node.enc y20)), (145, .agg ((Node.enc y20).map .t)), (146, .t (.bool r21)), (147, .t (.bool (!r21)))], [(2, ((World.enc p0).map .t)), (3, ((World.enc p1).map .t)), (8, [.t (.bool y18.fOn), .t (.int .i64 y18.fBoss), .t (.int .i64 y18.fQuiet), .t (.int .i64 y18.fMan.fGen), .t (.int .i64 y18.fMan.fSize), .t (.int .i64 y18.fMan.fLen), .t (.sl 2 (y18.fMan.fSums.map Sum.enc)), .t (.int .i64 y18.fBld.fHave), .t (.sl 1 (y18.fBld.fBuf.map (eInt .u8))), .t (.int .i64 y18.fPhase), .t (.sl 5 (y18.fKids.map Kid.enc)), .t (.int .i64 y19.fDrops)])], []⟩ ?_
                refine Wp.cond2 (b := !r21) kr (fun hc => ?_) (fun hc => ?_)
                · have h := cond_t h hc
                  refine Wp.srg [] [] ?_
                  refine Runs.alln ?_
                  refine Wp.fg ⟨[(2, .obj 2 0), (3, .obj 3 0), (4, .t (.bool false)), (7, .t (.int .i64 x16)), (8, .obj 8 0), (121, .t (.int .i64 x16)), (122, .obj 2 7), (123, .t (.sl 12 (p0.fN.map Node.enc))), (124, .t (.int .i64 ((p0.fN.length : Int)))), (125, .t (.bool (decide (x16 < ((p0.fN.length : Int)))))), (128, .obj 2 7), (129, .t (.sl 12 (p0.fN.map Node.enc))), (130, .t (.int .i64 x16)), (131, .fadr (Node.enc y18)), (132, .agg ((Node.enc y18).map .t)), (133, .obj 3 7), (134, .t (.sl 12 (p1.fN.map Node.enc))), (135, .t (.int .i64 x16)), (136, .fadr (Node.enc y19)), (137, .fadr [.int .i64 y19.fDrops]), (138, .t (.int .i64 y19.fDrops)), (139, .obj 8 11), (140, .agg [.t (.bool y18.fOn), .t (.int .i64 y18.fBoss), .t (.int .i64 y18.fQuiet), .t (.int .i64 y18.fMan.fGen), .t (.int .i64 y18.fMan.fSize), .t (.int .i64 y18.fMan.fLen), .t (.sl 2 (y18.fMan.fSums.map Sum.enc)), .t (.int .i64 y18.fBld.fHave), .t (.sl 1 (y18.fBld.fBuf.map (eInt .u8))), .t (.int .i64 y18.fPhase), .t (.sl 5 (y18.fKids.map Kid.enc)), .t (.int .i64 y19.fDrops)]), (141, .obj 3 7), (142, .t (.sl 12 (p1.fN.map Node.enc))), (143, .t (.int .i64 x16)), (144, .fadr (Node.enc y20)), (145, .agg ((Node.enc y20).map .t)), (146, .t (.bool r21)), (147, .t (.bool (!r21)))], [(2, ((World.enc p0).map .t)), (3, ((World.enc p1).map .t)), (8, [.t (.bool y18.fOn), .t (.int .i64 y18.fBoss), .t (.int .i64 y18.fQuiet), .t (.int .i64 y18.fMan.fGen), .t (.int .i64 y18.fMan.fSize), .t (.int .i64 y18.fMan.fLen), .t (.sl 2 (y18.fMan.fSums.map Sum.enc)), .t (.int .i64 y18.fBld.fHave), .t (.sl 1 (y18.fBld.fBuf.map (eInt .u8))), .t (.int .i64 y18.fPhase), .t (.sl 5 (y18.fKids.map Kid.enc)), .t (.int .i64 y19.fDrops)])], []⟩ ?_
                  refine Wp.ret ?_
                  refine blkR ?_
                  refine thenR ?_
                  refine thenR ?_
                  refine blkR ?_
                  refine thenR ?_
                  have hr := Option.some.inj h
                  subst hr
                  exact RetK [.t (.bool false)] (.one (.t (.bool false))) [] kr kr (.refl _) .nil
                · have h := cond_f h hc
                  refine Wp.skip ?_
                  refine blkN ?_
                  refine thenN ?_
                  refine Wp.rg [] [] ?_
                  refine Runs.alln ?_
                  exact ⟨(bAdd .i64 x16 1, p0, p1), h, Le.of (mo := []) (mr := []) kr kr kr kr⟩
              · have h := cond_f h hc
                refine Wp.exit ?_
                refine thenE ?_
                refine thenE ?_
                refine blkE ?_
                refine thenN ?_
                exact ⟨(p0, p1), h, Le.of (mo := []) (mr := []) kr kr kr kr⟩
        · refine Wp.srg [] [] ?_
          refine Runs.alln ?_
          refine Wp.fg ⟨[(2, .obj 2 0), (3, .obj 3 0), (4, .t (.bool false)), (6, .t (.int .i64 0))], [(2, ((World.enc p0).map .t)), (3, ((World.enc p1).map .t))], []⟩ ?_
          refine Wp.block ?_
          refine Wp.loopF (α := Int × World × World) (fun a => ⟨[(2, .obj 2 0), (3, .obj 3 0), (4, .t (.bool false)), (6, .t (.int .i64 a.1))], [(2, ((World.enc a.2.1).map .t)), (3, ((World.enc a.2.2).map .t))], []⟩) (fun k_spec_SameBut_l10 a => spec_SameBut_l10 u k_spec_SameBut_l10 a.1 a.2.1 a.2.2 = some r) ?_ ?_ u (0, p0, p1) h (Le.of (mo := []) (mr := []) kr kr kr kr)
          · intro a h; unfold spec_SameBut_l10 at h; cases h
          · rintro k_spec_SameBut_l10 ⟨x10, p0, p1⟩ h
            change spec_SameBut_l10 u (k_spec_SameBut_l10 + 1) x10 p0 p1 = some r at h
            rw [spec_SameBut_l10] at h
            refine Wp.seq ?_
            refine Wp.srg [] [] ?_
            refine Runs.batch 3 kr ?_
            refine Runs.lenT (y := .t (.sl 1 (p0.fOld.map Image.enc))) (e := 67) Image.enc p0.fOld 1 rfl rfl rfl kr kr kr kr kr ?_
            refine Runs.alln ?_
            refine Wp.fg ⟨[(2, .obj 2 0), (3, .obj 3 0), (4, .t (.bool false)), (6, .t (.int .i64 x10)), (100, .t (.int .i64 x10)), (101, .obj 2 6), (102, .t (.sl 1 (p0.fOld.map Image.enc))), (103, .t (.int .i64 ((p0.fOld.length : Int)))), (104, .t (.bool (decide (x10 < ((p0.fOld.length : Int))))))], [(2, ((World.enc p0).map .t)), (3, ((World.enc p1).map .t))], []⟩ ?_
            refine Wp.cond2 (b := decide (x10 < ((p0.fOld.length : Int)))) kr (fun hc => ?_) (fun hc => ?_)
            · have h := cond_t h hc
              refine Wp.skip ?_
              refine thenN ?_
              refine Wp.seq ?_
              refine Wp.block ?_
              refine Wp.seq ?_
              refine Wp.regionA (pOf []) (rhoOf [(2, .obj 2), (3, .obj 3), (6, .frz), (107, .obj 2), (108, .frz), (109, .frz), (110, .frz), (111, .frz), (112, .frz), (113, .obj 3), (114, .frz), (115, .frz), (116, .frz), (117, .frz), (118, .frz), (119, .frz)]) kr kr ?_
              refine Runs.batch 3 kr ?_
              obtain ⟨y12, e_y12, h⟩ := bind_some h
              refine Runs.idxT (e := 67) (kk := .i64) (sz := 1) Image.enc p0.fOld x10 rfl kr kr kr kr kr kr e_y12 ?_
              refine Runs.batch 5 kr ?_
              obtain ⟨y13, e_y13, h⟩ := bind_some h
              refine Runs.idxT (e := 67) (kk := .i64) (sz := 1) Image.enc p1.fOld x10 rfl kr kr kr kr kr kr e_y13 ?_
              refine Runs.batch 2 kr ?_
              obtain ⟨r14, e_r14, h⟩ := bind_some h
              refine Runs.callK false 119 82 [] [.t (.sl 1 (y12.fB.map (eInt .u8))), .t (.sl 1 (y13.fB.map (eInt .u8)))] [.one (.t (.sl 1 (y12.fB.map (eInt .u8)))), .one (.t (.sl 1 (y13.fB.map (eInt .u8))))] (.one (.t (.bool r14))) [] rfl rfl kr kr kr kr kr (spec_SameBytes_ok u y12.fB y13.fB r14 e_r14) kr ?_
              refine Runs.alln ?_
              refine Wp.fg ⟨[(2, .obj 2 0), (3, .obj 3 0), (4, .t (.bool false)), (6, .t (.int .i64 x10)), (100, .t (.int .i64 x10)), (101, .obj 2 6), (102, .t (.sl 1 (p0.fOld.map Image.enc))), (103, .t (.int .i64 ((p0.fOld.length : Int)))), (104, .t (.bool (decide (x10 < ((p0.fOld.length : Int)))))), (107, .obj 2 6), (108, .t (.sl 1 (p0.fOld.map Image.enc))), (109, .t (.int .i64 x10)), (110, .fadr [.sl 1 (y12.fB.map (eInt .u8))]), (111, .fadr [.sl 1 (y12.fB.map (eInt .u8))]), (112, .t (.sl 1 (y12.fB.map (eInt .u8)))), (113, .obj 3 6), (114, .t (.sl 1 (p1.fOld.map Image.enc))), (115, .t (.int .i64 x10)), (116, .fadr [.sl 1 (y13.fB.map (eInt .u8))]), (117, .fadr [.sl 1 (y13.fB.map (eInt .u8))]), (118, .t (.sl 1 (y13.fB.map (eInt .u8)))), (119, .t (.bool r14)), (120, .t (.bool (!r14)))], [(2, ((World.enc p0).map .t)), (3, ((World.enc p1).map .t))], []⟩ ?_
              refine Wp.cond2 (b := !r14) kr (fun hc => ?_) (fun hc => ?_)
              · have h := cond_t h hc
                refine Wp.srg [] [] ?_
                refine Runs.alln ?_
                refine Wp.fg ⟨[(2, .obj 2 0), (3, .obj 3 0), (4, .t (.bool false)), (6, .t (.int .i64 x10)), (100, .t (.int .i64 x10)), (101, .obj 2 6), (102, .t (.sl 1 (p0.fOld.map Image.enc))), (103, .t (.int .i64 ((p0.fOld.length : Int)))), (104, .t (.bool (decide (x10 < ((p0.fOld.length : Int)))))), (107, .obj 2 6), (108, .t (.sl 1 (p0.fOld.map Image.enc))), (109, .t (.int .i64 x10)), (110, .fadr [.sl 1 (y12.fB.map (eInt .u8))]), (111, .fadr [.sl 1 (y12.fB.map (eInt .u8))]), (112, .t (.sl 1 (y12.fB.map (eInt .u8)))), (113, .obj 3 6), (114, .t (.sl 1 (p1.fOld.map Image.enc))), (115, .t (.int .i64 x10)), (116, .fadr [.sl 1 (y13.fB.map (eInt .u8))]), (117, .fadr [.sl 1 (y13.fB.map (eInt .u8))]), (118, .t (.sl 1 (y13.fB.map (eInt .u8)))), (119, .t (.bool r14)), (120, .t (.bool (!r14)))], [(2, ((World.enc p0).map .t)), (3, ((World.enc p1).map .t))], []⟩ ?_
                refine Wp.ret ?_
                refine blkR ?_
                refine thenR ?_
                refine thenR ?_
                refine blkR ?_
                refine thenR ?_
                have hr := Option.some.inj h
                subst hr
                exact RetK [.t (.bool false)] (.one (.t (.bool false))) [] kr kr (.refl _) .nil
              · have h := cond_f h hc
                refine Wp.skip ?_
                refine blkN ?_
                refine thenN ?_
                refine Wp.rg [] [] ?_
                refine Runs.alln ?_
                exact ⟨(bAdd .i64 x10 1, p0, p1), h, Le.of (mo := []) (mr := []) kr kr kr kr⟩
            · have h := cond_f h hc
              refine Wp.exit ?_
              refine thenE ?_
              refine thenE ?_
              refine blkE ?_
              refine thenN ?_
              exact ⟨(p0, p1), h, Le.of (mo := []) (mr := []) kr kr kr kr⟩
      · refine Wp.srg [] [] ?_
        refine Runs.alln ?_
        refine Wp.fg ⟨[(2, .obj 2 0), (3, .obj 3 0), (4, .t (.bool false)), (5, .t (.int .i64 0))], [(2, ((World.enc p0).map .t)), (3, ((World.enc p1).map .t))], []⟩ ?_
        refine Wp.block ?_
        refine Wp.loopF (α := Int × World × World) (fun a => ⟨[(2, .obj 2 0), (3, .obj 3 0), (4, .t (.bool false)), (5, .t (.int .i64 a.1))], [(2, ((World.enc a.2.1).map .t)), (3, ((World.enc a.2.2).map .t))], []⟩) (fun k_spec_SameBut_l11 a => spec_SameBut_l11 u k_spec_SameBut_l11 a.1 a.2.1 a.2.2 = some r) ?_ ?_ u (0, p0, p1) h (Le.of (mo := []) (mr := []) kr kr kr kr)
        · intro a h; unfold spec_SameBut_l11 at h; cases h
        · rintro k_spec_SameBut_l11 ⟨x5, p0, p1⟩ h
          change spec_SameBut_l11 u (k_spec_SameBut_l11 + 1) x5 p0 p1 = some r at h
          rw [spec_SameBut_l11] at h
          refine Wp.seq ?_
          refine Wp.srg [] [] ?_
          refine Runs.batch 4 kr ?_
          refine Runs.lenT (y := .t (.sl 1 (p0.fT.fUp.map (eInt .i64)))) (e := 3) (eInt .i64) p0.fT.fUp 1 rfl rfl rfl kr kr kr kr kr ?_
          refine Runs.alln ?_
          refine Wp.fg ⟨[(2, .obj 2 0), (3, .obj 3 0), (4, .t (.bool false)), (5, .t (.int .i64 x5)), (79, .t (.int .i64 x5)), (80, .obj 2 4), (81, .obj 2 4), (82, .t (.sl 1 (p0.fT.fUp.map (eInt .i64)))), (83, .t (.int .i64 ((p0.fT.fUp.length : Int)))), (84, .t (.bool (decide (x5 < ((p0.fT.fUp.length : Int))))))], [(2, ((World.enc p0).map .t)), (3, ((World.enc p1).map .t))], []⟩ ?_
          refine Wp.cond2 (b := decide (x5 < ((p0.fT.fUp.length : Int)))) kr (fun hc => ?_) (fun hc => ?_)
          · have h := cond_t h hc
            refine Wp.skip ?_
            refine thenN ?_
            refine Wp.seq ?_
            refine Wp.block ?_
            refine Wp.seq ?_
            refine Wp.regionA (pOf []) (rhoOf [(2, .obj 2), (3, .obj 3), (5, .frz), (87, .obj 2), (88, .obj 2), (89, .frz), (90, .frz), (91, .frz), (92, .frz), (93, .obj 3), (94, .obj 3), (95, .frz), (96, .frz), (97, .frz), (98, .frz)]) kr kr ?_
            refine Runs.batch 4 kr ?_
            obtain ⟨y7, e_y7, h⟩ := bind_some h
            refine Runs.idxT (e := 3) (kk := .i64) (sz := 1) (eInt .i64) p0.fT.fUp x5 rfl kr kr kr kr kr kr e_y7 ?_
            refine Runs.batch 5 kr ?_
            obtain ⟨y8, e_y8, h⟩ := bind_some h
            refine Runs.idxT (e := 3) (kk := .i64) (sz := 1) (eInt .i64) p1.fT.fUp x5 rfl kr kr kr kr kr kr e_y8 ?_
            refine Runs.alln ?_
            refine Wp.fg ⟨[(2, .obj 2 0), (3, .obj 3 0), (4, .t (.bool false)), (5, .t (.int .i64 x5)), (79, .t (.int .i64 x5)), (80, .obj 2 4), (81, .obj 2 4), (82, .t (.sl 1 (p0.fT.fUp.map (eInt .i64)))), (83, .t (.int .i64 ((p0.fT.fUp.length : Int)))), (84, .t (.bool (decide (x5 < ((p0.fT.fUp.length : Int)))))), (87, .obj 2 4), (88, .obj 2 4), (89, .t (.sl 1 (p0.fT.fUp.map (eInt .i64)))), (90, .t (.int .i64 x5)), (91, .fadr [.int .i64 y7]), (92, .t (.int .i64 y7)), (93, .obj 3 4), (94, .obj 3 4), (95, .t (.sl 1 (p1.fT.fUp.map (eInt .i64)))), (96, .t (.int .i64 x5)), (97, .fadr [.int .i64 y8]), (98, .t (.int .i64 y8)), (99, .t (.bool (y7 != y8)))], [(2, ((World.enc p0).map .t)), (3, ((World.enc p1).map .t))], []⟩ ?_
            refine Wp.cond2 (b := y7 != y8) kr (fun hc => ?_) (fun hc => ?_)
            · have h := cond_t h hc
              refine Wp.srg [] [] ?_
              refine Runs.alln ?_
              refine Wp.fg ⟨[(2, .obj 2 0), (3, .obj 3 0), (4, .t (.bool false)), (5, .t (.int .i64 x5)), (79, .t (.int .i64 x5)), (80, .obj 2 4), (81, .obj 2 4), (82, .t (.sl 1 (p0.fT.fUp.map (eInt .i64)))), (83, .t (.int .i64 ((p0.fT.fUp.length : Int)))), (84, .t (.bool (decide (x5 < ((p0.fT.fUp.length : Int)))))), (87, .obj 2 4), (88, .obj 2 4), (89, .t (.sl 1 (p0.fT.fUp.map (eInt .i64)))), (90, .t (.int .i64 x5)), (91, .fadr [.int .i64 y7]), (92, .t (.int .i64 y7)), (93, .obj 3 4), (94, .obj 3 4), (95, .t (.sl 1 (p1.fT.fUp.map (eInt .i64)))), (96, .t (.int .i64 x5)), (97, .fadr [.int .i64 y8]), (98, .t (.int .i64 y8)), (99, .t (.bool (y7 != y8)))], [(2, ((World.enc p0).map .t)), (3, ((World.enc p1).map .t))], []⟩ ?_
              refine Wp.ret ?_
              refine blkR ?_
              refine thenR ?_
              refine thenR ?_
              refine blkR ?_
              refine thenR ?_
              have hr := Option.some.inj h
              subst hr
              exact RetK [.t (.bool false)] (.one (.t (.bool false))) [] kr kr (.refl _) .nil
            · have h := cond_f h hc
              refine Wp.skip ?_
              refine blkN ?_
              refine thenN ?_
              refine Wp.rg [] [] ?_
              refine Runs.alln ?_
              exact ⟨(bAdd .i64 x5 1, p0, p1), h, Le.of (mo := []) (mr := []) kr kr kr kr⟩
          · have h := cond_f h hc
            refine Wp.exit ?_
            refine thenE ?_
            refine thenE ?_
            refine blkE ?_
            refine thenN ?_
            exact ⟨(p0, p1), h, Le.of (mo := []) (mr := []) kr kr kr kr⟩
  · refine Wp.rg [] [] ?_
    refine Runs.batch 6 kr ?_
    rcases tf (!([p0.fC.fSize, p0.fC.fWindow, p0.fC.fSuspect, p0.fC.fForget] == [p1.fC.fSize, p1.fC.fWindow, p1.fC.fSuspect, p1.fC.fForget])) with hc | hc
    · have h := cond_t h hc
      refine Runs.known 16 (v := true) kr hc ?_
      refine Runs.alln ?_
      exact ⟨(true, p0, p1), h, Le.of (mo := []) (mr := []) kr kr kr kr⟩
    · have h := cond_f h hc
      refine Runs.known 16 (v := false) kr hc ?_
      refine Runs.batch 3 kr ?_
      refine Runs.lenT (y := .t (.sl 1 (p0.fT.fUp.map (eInt .i64)))) (e := 3) (eInt .i64) p0.fT.fUp 1 rfl rfl rfl kr kr kr kr kr ?_
      refine Runs.batch 3 kr ?_
      refine Runs.lenT (y := .t (.sl 1 (p1.fT.fUp.map (eInt .i64)))) (e := 3) (eInt .i64) p1.fT.fUp 1 rfl rfl rfl kr kr kr kr kr ?_
      refine Runs.batch 3 kr ?_
      rcases tf (((p0.fT.fUp.length : Int)) != ((p1.fT.fUp.length : Int))) with hc | hc
      · have h := cond_t h hc
        refine Runs.known 27 (v := true) kr hc ?_
        refine Runs.alln ?_
        exact ⟨(true, p0, p1), h, Le.of (mo := []) (mr := []) kr kr kr kr⟩
      · have h := cond_f h hc
        refine Runs.known 27 (v := false) kr hc ?_
        refine Runs.batch 4 kr ?_
        obtain ⟨r1, e_r1, h⟩ := bind_some h
        refine Runs.callK false 32 82 [] [.t (.sl 1 (p0.fNew.map (eInt .u8))), .t (.sl 1 (p1.fNew.map (eInt .u8)))] [.one (.t (.sl 1 (p0.fNew.map (eInt .u8)))), .one (.t (.sl 1 (p1.fNew.map (eInt .u8))))] (.one (.t (.bool r1))) [] rfl rfl kr kr kr kr kr (spec_SameBytes_ok u p0.fNew p1.fNew r1 e_r1) kr ?_
        refine Runs.batch 3 kr ?_
        rcases tf (!r1) with hc | hc
        · have h := cond_t h hc
          refine Runs.known 35 (v := true) kr hc ?_
          refine Runs.alln ?_
          exact ⟨(true, p0, p1), h, Le.of (mo := []) (mr := []) kr kr kr kr⟩
        · have h := cond_f h hc
          refine Runs.known 35 (v := false) kr hc ?_
          refine Runs.batch 2 kr ?_
          refine Runs.lenT (y := .t (.sl 1 (p0.fOld.map Image.enc))) (e := 67) Image.enc p0.fOld 1 rfl rfl rfl kr kr kr kr kr ?_
          refine Runs.batch 2 kr ?_
          refine Runs.lenT (y := .t (.sl 1 (p1.fOld.map Image.enc))) (e := 67) Image.enc p1.fOld 1 rfl rfl rfl kr kr kr kr kr ?_
          refine Runs.batch 3 kr ?_
          rcases tf (((p0.fOld.length : Int)) != ((p1.fOld.length : Int))) with hc | hc
          · have h := cond_t h hc
            refine Runs.known 44 (v := true) kr hc ?_
            refine Runs.alln ?_
            exact ⟨(true, p0, p1), h, Le.of (mo := []) (mr := []) kr kr kr kr⟩
          · have h := cond_f h hc
            refine Runs.known 44 (v := false) kr hc ?_
            refine Runs.batch 2 kr ?_
            refine Runs.lenT (y := .t (.sl 12 (p0.fN.map Node.enc))) (e := 114) Node.enc p0.fN 12 rfl rfl rfl kr kr kr kr kr ?_
            refine Runs.batch 2 kr ?_
            refine Runs.lenT (y := .t (.sl 12 (p1.fN.map Node.enc))) (e := 114) Node.enc p1.fN 12 rfl rfl rfl kr kr kr kr kr ?_
            refine Runs.batch 3 kr ?_
            rcases tf (((p0.fN.length : Int)) != ((p1.fN.length : Int))) with hc | hc
            · have h := cond_t h hc
              refine Runs.known 53 (v := true) kr hc ?_
              refine Runs.alln ?_
              exact ⟨(true, p0, p1), h, Le.of (mo := []) (mr := []) kr kr kr kr⟩
            · have h := cond_f h hc
              refine Runs.known 53 (v := false) kr hc ?_
              refine Runs.batch 2 kr ?_
              refine Runs.lenT (y := .t (.sl 6 (p0.fD.map Disk.enc))) (e := 109) Disk.enc p0.fD 6 rfl rfl rfl kr kr kr kr kr ?_
              refine Runs.batch 2 kr ?_
              refine Runs.lenT (y := .t (.sl 6 (p1.fD.map Disk.enc))) (e := 109) Disk.enc p1.fD 6 rfl rfl rfl kr kr kr kr kr ?_
              refine Runs.batch 3 kr ?_
              rcases tf (((p0.fD.length : Int)) != ((p1.fD.length : Int))) with hc | hc
              · have h := cond_t h hc
                refine Runs.known 62 (v := true) kr hc ?_
                refine Runs.alln ?_
                exact ⟨(true, p0, p1), h, Le.of (mo := []) (mr := []) kr kr kr kr⟩
              · have h := cond_f h hc
                refine Runs.known 62 (v := false) kr hc ?_
                refine Runs.batch 4 kr ?_
                obtain ⟨r2, e_r2, h⟩ := bind_some h
                refine Runs.callK false 67 83 [] [.t (.sl 3 (p0.fNet.map Packet.enc)), .t (.sl 3 (p1.fNet.map Packet.enc))] [.one (.t (.sl 3 (p0.fNet.map Packet.enc))), .one (.t (.sl 3 (p1.fNet.map Packet.enc)))] (.one (.t (.bool r2))) [] rfl rfl kr kr kr kr kr (spec_SamePackets_ok u p0.fNet p1.fNet r2 e_r2) kr ?_
                refine Runs.batch 3 kr ?_
                rcases tf (!r2) with hc | hc
                · have h := cond_t h hc
                  refine Runs.known 70 (v := true) kr hc ?_
                  refine Runs.alln ?_
                  exact ⟨(true, p0, p1), h, Le.of (mo := []) (mr := []) kr kr kr kr⟩
                · have h := cond_f h hc
                  refine Runs.known 70 (v := false) kr hc ?_
                  refine Runs.batch 2 kr ?_
                  refine Runs.lenT (y := .t (.sl 3 (p0.fLog.map Sent.enc))) (e := 99) Sent.enc p0.fLog 3 rfl rfl rfl kr kr kr kr kr ?_
                  refine Runs.batch 2 kr ?_
                  refine Runs.lenT (y := .t (.sl 3 (p1.fLog.map Sent.enc))) (e := 99) Sent.enc p1.fLog 3 rfl rfl rfl kr kr kr kr kr ?_
                  refine Runs.alln ?_
                  exact ⟨(((p0.fLog.length : Int)) != ((p1.fLog.length : Int)), p0, p1), h, Le.of (mo := []) (mr := []) kr kr kr kr⟩
end Go.Tm
