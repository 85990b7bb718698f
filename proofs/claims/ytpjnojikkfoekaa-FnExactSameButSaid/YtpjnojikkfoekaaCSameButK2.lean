/- The functions as they are translated do what the pure functions say (printed). -/
import Derived.Test.YtpjnojikkfoekaaCSameButK1
import Derived.Test.YtpjnojikkfoekaaTm40
import Derived.Test.YtpjnojikkfoekaaProg
set_option maxRecDepth 100000
set_option linter.unusedVariables false
set_option linter.unusedSimpArgs false
namespace Go.Tm
open Go.Proofs
theorem slices_Equal___int_int_ok (u : Nat) (p0 : List Int) (p1 : List Int) (r : Bool) (h : slices_Equal___int_int u p0 p1 = some r) : CallOK Try.prog 88 [.one (.t (.sl 1 (p0.map (eInt .i64)))), .one (.t (.sl 1 (p1.map (eInt .i64))))] (.one (.t (.bool r))) [] := by
  unfold slices_Equal___int_int at h
  refine CallOK.of_bodyK (fn := Try.f88) (m := false) [.t (.sl 1 (p0.map (eInt .i64))), .t (.sl 1 (p1.map (eInt .i64)))] kr rfl kr kr kr kr kr ?_
  refine Wp.srg [] [] ?_
  refine Runs.alln ?_
  refine Wp.fg ⟨[(0, .t (.sl 1 (p0.map (eInt .i64)))), (1, .t (.sl 1 (p1.map (eInt .i64)))), (4, .t (.bool false))], [], []⟩ ?_
  refine Wp.seq ?_
  refine Wp.srg [] [] ?_
  refine Runs.batch 1 kr ?_
  refine Runs.lenT (y := .t (.sl 1 (p0.map (eInt .i64)))) (e := 3) (eInt .i64) p0 1 rfl rfl rfl kr kr kr kr kr ?_
  refine Runs.batch 1 kr ?_
  refine Runs.lenT (y := .t (.sl 1 (p1.map (eInt .i64)))) (e := 3) (eInt .i64) p1 1 rfl rfl rfl kr kr kr kr kr ?_
  refine Runs.alln ?_
  refine Wp.fg ⟨[(0, .t (.sl 1 (p0.map (eInt .i64)))), (1, .t (.sl 1 (p1.map (eInt .i64)))), (4, .t (.bool false)), (10, .t (.bool (((p0.length : Int)) != ((p1.length : Int)))))], [], []⟩ ?_
  refine Wp.cond2 (b := ((p0.length : Int)) != ((p1.length : Int))) kr (fun hc => ?_) (fun hc => ?_)
  · have h := cond_t h hc
    refine Wp.srg [] [] ?_
    refine Runs.alln ?_
    refine Wp.fg ⟨[(0, .t (.sl 1 (p0.map (eInt .i64)))), (1, .t (.sl 1 (p1.map (eInt .i64)))), (4, .t (.bool false))], [], []⟩ ?_
    refine Wp.ret ?_
    refine thenR ?_
    have hr := Option.some.inj h
    subst hr
    exact RetK [.t (.bool false)] (.one (.t (.bool false))) [] kr kr (.refl _) .nil
  · have h := cond_f h hc
    refine Wp.skip ?_
    refine thenN ?_
    refine Wp.seqJ (α := Unit) (fun a => ⟨[(4, .t (.bool false))], [], []⟩) (fun a => slices_Equal___int_int_j1 u = some r) ?_ ?_
    · rintro ⟨⟩ h
      change slices_Equal___int_int_j1 u = some r at h
      unfold slices_Equal___int_int_j1 at h
      refine Wp.srg [] [] ?_
      refine Runs.alln ?_
      refine Wp.fg ⟨[(4, .t (.bool true))], [], []⟩ ?_
      refine Wp.ret ?_
      have hr := Option.some.inj h
      subst hr
      exact RetK [.t (.bool true)] (.one (.t (.bool true))) [] kr kr (.refl _) .nil
    · refine Wp.srg [] [] ?_
      refine Runs.batch 1 kr ?_
      refine Runs.lenT (y := .t (.sl 1 (p0.map (eInt .i64)))) (e := 3) (eInt .i64) p0 1 rfl rfl rfl kr kr kr kr kr ?_
      refine Runs.alln ?_
      refine Wp.fg ⟨[(0, .t (.sl 1 (p0.map (eInt .i64)))), (1, .t (.sl 1 (p1.map (eInt .i64)))), (4, .t (.bool false)), (12, .t (.int .i64 ((p0.length : Int)))), (13, .t (.int .i64 0))], [], []⟩ ?_
      refine Wp.block ?_
      refine Wp.loopF (α := (List Int) × (List Int) × Int) (fun a => ⟨[(0, .t (.sl 1 (a.1.map (eInt .i64)))), (1, .t (.sl 1 (a.2.1.map (eInt .i64)))), (4, .t (.bool false)), (12, .t (.int .i64 ((a.1.length : Int)))), (13, .t (.int .i64 a.2.2))], [], []⟩) (fun k_slices_Equal___int_int_l2 a => slices_Equal___int_int_l2 u k_slices_Equal___int_int_l2 a.1 a.2.1 a.2.2 = some r) ?_ ?_ u (p0, p1, 0) h (Le.of (mo := []) (mr := []) kr kr kr kr)
      · intro a h; unfold slices_Equal___int_int_l2 at h; cases h
      · rintro k_slices_Equal___int_int_l2 ⟨p0, p1, x2⟩ h
        change slices_Equal___int_int_l2 u (k_slices_Equal___int_int_l2 + 1) p0 p1 x2 = some r at h
        rw [slices_Equal___int_int_l2] at h
        refine Wp.srg [] [] ?_
        refine Runs.alln ?_
        refine Wp.fg ⟨[(0, .t (.sl 1 (p0.map (eInt .i64)))), (1, .t (.sl 1 (p1.map (eInt .i64)))), (4, .t (.bool false)), (12, .t (.int .i64 ((p0.length : Int)))), (13, .t (.int .i64 x2)), (14, .t (.bool (decide (x2 < ((p0.length : Int))))))], [], []⟩ ?_
        refine Wp.seq ?_
        refine Wp.cond2 (b := decide (x2 < ((p0.length : Int)))) kr (fun hc => ?_) (fun hc => ?_)
        · have h := cond_t h hc
          refine Wp.skip ?_
          refine thenN ?_
          refine Wp.seq ?_
          refine Wp.block ?_
          refine Wp.srg [] [] ?_
          refine Runs.alln ?_
          refine Wp.fg ⟨[(0, .t (.sl 1 (p0.map (eInt .i64)))), (1, .t (.sl 1 (p1.map (eInt .i64)))), (4, .t (.bool false)), (5, .t (.int .i64 x2)), (12, .t (.int .i64 ((p0.length : Int)))), (13, .t (.int .i64 x2)), (14, .t (.bool (decide (x2 < ((p0.length : Int)))))), (15, .t (.int .i64 x2))], [], []⟩ ?_
          refine Wp.seq ?_
          refine Wp.regionA (pOf []) (rhoOf [(0, .frz), (1, .frz), (5, .frz), (16, .frz), (17, .frz), (18, .frz), (19, .frz), (20, .frz), (21, .frz), (22, .frz), (23, .frz)]) kr kr ?_
          refine Runs.batch 2 kr ?_
          obtain ⟨y4, e_y4, h⟩ := bind_some h
          refine Runs.idxT (e := 3) (kk := .i64) (sz := 1) (eInt .i64) p0 x2 rfl kr kr kr kr kr kr e_y4 ?_
          refine Runs.batch 3 kr ?_
          obtain ⟨y5, e_y5, h⟩ := bind_some h
          refine Runs.idxT (e := 3) (kk := .i64) (sz := 1) (eInt .i64) p1 x2 rfl kr kr kr kr kr kr e_y5 ?_
          refine Runs.alln ?_
          refine Wp.fg ⟨[(0, .t (.sl 1 (p0.map (eInt .i64)))), (1, .t (.sl 1 (p1.map (eInt .i64)))), (4, .t (.bool false)), (5, .t (.int .i64 x2)), (12, .t (.int .i64 ((p0.length : Int)))), (13, .t (.int .i64 x2)), (14, .t (.bool (decide (x2 < ((p0.length : Int)))))), (15, .t (.int .i64 x2)), (16, .t (.sl 1 (p0.map (eInt .i64)))), (17, .t (.int .i64 x2)), (18, .fadr [.int .i64 y4]), (19, .t (.int .i64 y4)), (20, .t (.sl 1 (p1.map (eInt .i64)))), (21, .t (.int .i64 x2)), (22, .fadr [.int .i64 y5]), (23, .t (.int .i64 y5)), (24, .t (.bool (y4 != y5)))], [], []⟩ ?_
          refine Wp.cond2 (b := y4 != y5) kr (fun hc => ?_) (fun hc => ?_)
          · have h := cond_t h hc
            refine Wp.srg [] [] ?_
            refine Runs.alln ?_
            refine Wp.fg ⟨[(0, .t (.sl 1 (p0.map (eInt .i64)))), (1, .t (.sl 1 (p1.map (eInt .i64)))), (4, .t (.bool false)), (5, .t (.int .i64 x2)), (12, .t (.int .i64 ((p0.length : Int)))), (13, .t (.int .i64 x2)), (14, .t (.bool (decide (x2 < ((p0.length : Int)))))), (15, .t (.int .i64 x2)), (16, .t (.sl 1 (p0.map (eInt .i64)))), (17, .t (.int .i64 x2)), (18, .fadr [.int .i64 y4]), (19, .t (.int .i64 y4)), (20, .t (.sl 1 (p1.map (eInt .i64)))), (21, .t (.int .i64 x2)), (22, .fadr [.int .i64 y5]), (23, .t (.int .i64 y5)), (24, .t (.bool (y4 != y5)))], [], []⟩ ?_
            refine Wp.ret ?_
            refine blkR ?_
            refine thenR ?_
            refine thenR ?_
            refine blkR ?_
            refine thenR ?_
            have hr := Option.some.inj h
            subst hr
            exact RetK [.t (.bool false)] (.one (.t (.bool false))) [] kr kr (.refl _) .nil
          · have h := cond_f h hc
            refine Wp.skip ?_
            refine blkN ?_
            refine thenN ?_
            refine Wp.rg [] [] ?_
            refine Runs.alln ?_
            exact ⟨(p0, p1, bAdd .i64 x2 1), h, Le.of (mo := []) (mr := []) kr kr kr kr⟩
        · have h := cond_f h hc
          refine Wp.exit ?_
          refine thenE ?_
          refine thenE ?_
          refine blkE ?_
          refine thenN ?_
          exact ⟨(), h, Le.of (mo := []) (mr := []) kr kr kr kr⟩
theorem bytes_Equal_ok (u : Nat) (p0 : List Int) (p1 : List Int) (r : Bool) (h : bytes_Equal u p0 p1 = some r) : CallOK Try.prog 126 [.one (.t (.sl 1 (p0.map (eInt .u8)))), .one (.t (.sl 1 (p1.map (eInt .u8))))] (.one (.t (.bool r))) [] := by
  unfold bytes_Equal at h
  refine CallOK.of_bodyK (fn := Try.f126) (m := false) [.t (.sl 1 (p0.map (eInt .u8))), .t (.sl 1 (p1.map (eInt .u8)))] kr rfl kr kr kr kr kr ?_
  refine Wp.srg [] [] ?_
  refine Runs.alln ?_
  refine Wp.fg ⟨[(0, .t (.sl 1 (p0.map (eInt .u8)))), (1, .t (.sl 1 (p1.map (eInt .u8)))), (4, .t (.bool false))], [], []⟩ ?_
  refine Wp.srg [] [] ?_
  refine Runs.batch 1 kr ?_
  refine Runs.bytesStr (y := .t (.sl 1 (p0.map (eInt .u8)))) (e := 5) p0 1 rfl kr kr kr kr kr kr kr ?_
  refine Runs.batch 1 kr ?_
  refine Runs.bytesStr (y := .t (.sl 1 (p1.map (eInt .u8)))) (e := 5) p1 1 rfl kr kr kr kr kr kr kr ?_
  refine Runs.alln ?_
  refine Wp.fg ⟨[(4, .t (.bool ((strOfNums p0).toList == (strOfNums p1).toList)))], [], []⟩ ?_
  refine Wp.ret ?_
  have hr := Option.some.inj h
  subst hr
  exact RetK [.t (.bool ((strOfNums p0).toList == (strOfNums p1).toList))] (.one (.t (.bool ((strOfNums p0).toList == (strOfNums p1).toList)))) [] kr kr (.refl _) .nil
theorem impl_SameBytes_ok (u : Nat) (p0 : List Int) (p1 : List Int) (r : Bool) (h : impl_SameBytes u p0 p1 = some r) : CallOK Try.prog 89 [.one (.t (.sl 1 (p0.map (eInt .u8)))), .one (.t (.sl 1 (p1.map (eInt .u8))))] (.one (.t (.bool r))) [] := by
  unfold impl_SameBytes at h
  refine CallOK.of_bodyK (fn := Try.f89) (m := false) [.t (.sl 1 (p0.map (eInt .u8))), .t (.sl 1 (p1.map (eInt .u8)))] kr rfl kr kr kr kr kr ?_
  refine Wp.srg [] [] ?_
  refine Runs.alln ?_
  refine Wp.fg ⟨[(0, .t (.sl 1 (p0.map (eInt .u8)))), (1, .t (.sl 1 (p1.map (eInt .u8)))), (4, .t (.bool false))], [], []⟩ ?_
  refine Wp.srg [] [] ?_
  refine Runs.batch 2 kr ?_
  obtain ⟨r1, e_r1, h⟩ := bind_some h
  refine Runs.callK false 7 126 [] [.t (.sl 1 (p0.map (eInt .u8))), .t (.sl 1 (p1.map (eInt .u8)))] [.one (.t (.sl 1 (p0.map (eInt .u8)))), .one (.t (.sl 1 (p1.map (eInt .u8))))] (.one (.t (.bool r1))) [] rfl rfl kr kr kr kr kr (bytes_Equal_ok u p0 p1 r1 e_r1) kr ?_
  refine Runs.alln ?_
  refine Wp.fg ⟨[(4, .t (.bool r1))], [], []⟩ ?_
  refine Wp.ret ?_
  have hr := Option.some.inj h
  subst hr
  exact RetK [.t (.bool r1)] (.one (.t (.bool r1))) [] kr kr (.refl _) .nil
theorem impl_SameBut_2_ok (u : Nat) (p0 : Image) (p1 : Image) (r : Bool) (h : impl_SameBut_2 u p0 p1 = some r) : CallOK Try.prog 91 [.agg [.t (.sl 1 (p0.fB.map (eInt .u8)))], .agg [.t (.sl 1 (p1.fB.map (eInt .u8)))]] (.one (.t (.bool r))) [] := by
  unfold impl_SameBut_2 at h
  refine CallOK.of_bodyK (fn := Try.f91) (m := false) [.agg [.t (.sl 1 (p0.fB.map (eInt .u8)))], .agg [.t (.sl 1 (p1.fB.map (eInt .u8)))]] kr rfl kr kr kr kr kr ?_
  refine Wp.srg [] [] ?_
  refine Runs.alln ?_
  refine Wp.fg ⟨[(2, .obj 2 0), (3, .obj 3 0), (4, .t (.bool false))], [(2, [.t (.sl 1 (p0.fB.map (eInt .u8)))]), (3, [.t (.sl 1 (p1.fB.map (eInt .u8)))])], []⟩ ?_
  refine Wp.srg [] [] ?_
  refine Runs.batch 4 kr ?_
  obtain ⟨r1, e_r1, h⟩ := bind_some h
  refine Runs.callK false 9 89 [] [.t (.sl 1 (p0.fB.map (eInt .u8))), .t (.sl 1 (p1.fB.map (eInt .u8)))] [.one (.t (.sl 1 (p0.fB.map (eInt .u8)))), .one (.t (.sl 1 (p1.fB.map (eInt .u8))))] (.one (.t (.bool r1))) [] rfl rfl kr kr kr kr kr (impl_SameBytes_ok u p0.fB p1.fB r1 e_r1) kr ?_
  refine Runs.alln ?_
  refine Wp.fg ⟨[(4, .t (.bool r1))], [], []⟩ ?_
  refine Wp.ret ?_
  have hr := Option.some.inj h
  subst hr
  exact RetK [.t (.bool r1)] (.one (.t (.bool r1))) [] kr kr (.refl _) .nil
theorem slices_EqualFunc___impl_Image___impl_Image_impl_Image_impl_Image__impl_SameBut_2_ok (u : Nat) (p0 : List Image) (p1 : List Image) (r : Bool) (h : slices_EqualFunc___impl_Image___impl_Image_impl_Image_impl_Image__impl_SameBut_2 u p0 p1 = some r) : CallOK Try.prog 90 [.one (.t (.sl 1 (p0.map Image.enc))), .one (.t (.sl 1 (p1.map Image.enc))), .clo 91 []] (.one (.t (.bool r))) [] := by
  unfold slices_EqualFunc___impl_Image___impl_Image_impl_Image_impl_Image__impl_SameBut_2 at h
  refine CallOK.of_bodyK (fn := Try.f90) (m := false) [.t (.sl 1 (p0.map Image.enc)), .t (.sl 1 (p1.map Image.enc)), .clo 91 []] kr rfl kr kr kr kr kr ?_
  refine Wp.srg [] [] ?_
  refine Runs.alln ?_
  refine Wp.fg ⟨[(0, .t (.sl 1 (p0.map Image.enc))), (1, .t (.sl 1 (p1.map Image.enc))), (2, .clo 91 []), (6, .t (.bool false))], [], []⟩ ?_
  refine Wp.seq ?_
  refine Wp.srg [] [] ?_
  refine Runs.batch 1 kr ?_
  refine Runs.lenT (y := .t (.sl 1 (p0.map Image.enc))) (e := 67) Image.enc p0 1 rfl rfl rfl kr kr kr kr kr ?_
  refine Runs.batch 1 kr ?_
  refine Runs.lenT (y := .t (.sl 1 (p1.map Image.enc))) (e := 67) Image.enc p1 1 rfl rfl rfl kr kr kr kr kr ?_
  refine Runs.alln ?_
  refine Wp.fg ⟨[(0, .t (.sl 1 (p0.map Image.enc))), (1, .t (.sl 1 (p1.map Image.enc))), (2, .clo 91 []), (6, .t (.bool false)), (14, .t (.bool (((p0.length : Int)) != ((p1.length : Int)))))], [], []⟩ ?_
  refine Wp.cond2 (b := ((p0.length : Int)) != ((p1.length : Int))) kr (fun hc => ?_) (fun hc => ?_)
  · have h := cond_t h hc
    refine Wp.srg [] [] ?_
    refine Runs.alln ?_
    refine Wp.fg ⟨[(0, .t (.sl 1 (p0.map Image.enc))), (1, .t (.sl 1 (p1.map Image.enc))), (2, .clo 91 []), (6, .t (.bool false))], [], []⟩ ?_
    refine Wp.ret ?_
    refine thenR ?_
    have hr := Option.some.inj h
    subst hr
    exact RetK [.t (.bool false)] (.one (.t (.bool false))) [] kr kr (.refl _) .nil
  · have h := cond_f h hc
    refine Wp.skip ?_
    refine thenN ?_
    refine Wp.seqJ (α := Unit) (fun a => ⟨[(6, .t (.bool false))], [], []⟩) (fun a => slices_EqualFunc___impl_Image___impl_Image_impl_Image_impl_Image__impl_SameBut_2_j1 u = some r) ?_ ?_
    · rintro ⟨⟩ h
      change slices_EqualFunc___impl_Image___impl_Image_impl_Image_impl_Image__impl_SameBut_2_j1 u = some r at h
      unfold slices_EqualFunc___impl_Image___impl_Image_impl_Image_impl_Image__impl_SameBut_2_j1 at h
      refine Wp.srg [] [] ?_
      refine Runs.alln ?_
      refine Wp.fg ⟨[(6, .t (.bool true))], [], []⟩ ?_
      refine Wp.ret ?_
      have hr := Option.some.inj h
      subst hr
      exact RetK [.t (.bool true)] (.one (.t (.bool true))) [] kr kr (.refl _) .nil
    · refine Wp.srg [] [] ?_
      refine Runs.batch 1 kr ?_
      refine Runs.lenT (y := .t (.sl 1 (p0.map Image.enc))) (e := 67) Image.enc p0 1 rfl rfl rfl kr kr kr kr kr ?_
      refine Runs.alln ?_
      refine Wp.fg ⟨[(1, .t (.sl 1 (p1.map Image.enc))), (2, .clo 91 []), (6, .t (.bool false)), (15, .t (.sl 1 (p0.map Image.enc))), (16, .t (.int .i64 ((p0.length : Int)))), (17, .t (.int .i64 0))], [], []⟩ ?_
      refine Wp.block ?_
      refine Wp.loopF (α := (List Image) × (List Image) × Int) (fun a => ⟨[(1, .t (.sl 1 (a.1.map Image.enc))), (2, .clo 91 []), (6, .t (.bool false)), (15, .t (.sl 1 (a.2.1.map Image.enc))), (16, .t (.int .i64 ((a.2.1.length : Int)))), (17, .t (.int .i64 a.2.2))], [], []⟩) (fun k_slices_EqualFunc___impl_Image___impl_Image_impl_Image_impl_Image__impl_SameBut_2_l2 a => slices_EqualFunc___impl_Image___impl_Image_impl_Image_impl_Image__impl_SameBut_2_l2 u k_slices_EqualFunc___impl_Image___impl_Image_impl_Image_impl_Image__impl_SameBut_2_l2 a.1 a.2.1 a.2.2 = some r) ?_ ?_ u (p1, p0, 0) h (Le.of (mo := []) (mr := []) kr kr kr kr)
      · intro a h; unfold slices_EqualFunc___impl_Image___impl_Image_impl_Image_impl_Image__impl_SameBut_2_l2 at h; cases h
      · rintro k_slices_EqualFunc___impl_Image___impl_Image_impl_Image_impl_Image__impl_SameBut_2_l2 ⟨p1, p0, x2⟩ h
        change slices_EqualFunc___impl_Image___impl_Image_impl_Image_impl_Image__impl_SameBut_2_l2 u (k_slices_EqualFunc___impl_Image___impl_Image_impl_Image_impl_Image__impl_SameBut_2_l2 + 1) p1 p0 x2 = some r at h
        rw [slices_EqualFunc___impl_Image___impl_Image_impl_Image_impl_Image__impl_SameBut_2_l2] at h
        refine Wp.srg [] [] ?_
        refine Runs.alln ?_
        refine Wp.fg ⟨[(1, .t (.sl 1 (p1.map Image.enc))), (2, .clo 91 []), (6, .t (.bool false)), (15, .t (.sl 1 (p0.map Image.enc))), (16, .t (.int .i64 ((p0.length : Int)))), (17, .t (.int .i64 x2)), (18, .t (.bool (decide (x2 < ((p0.length : Int))))))], [], []⟩ ?_
        refine Wp.seq ?_
        refine Wp.cond2 (b := decide (x2 < ((p0.length : Int)))) kr (fun hc => ?_) (fun hc => ?_)
        · have h := cond_t h hc
          refine Wp.skip ?_
          refine thenN ?_
          refine Wp.seq ?_
          refine Wp.block ?_
          refine Wp.srg [] [] ?_
          refine Runs.batch 1 kr ?_
          obtain ⟨y4, e_y4, h⟩ := bind_some h
          refine Runs.idxT (e := 67) (kk := .i64) (sz := 1) Image.enc p0 x2 rfl kr kr kr kr kr kr e_y4 ?_
          refine Runs.alln ?_
          refine Wp.fg ⟨[(1, .t (.sl 1 (p1.map Image.enc))), (2, .clo 91 []), (6, .t (.bool false)), (7, .t (.int .i64 x2)), (8, .obj 8 0), (15, .t (.sl 1 (p0.map Image.enc))), (16, .t (.int .i64 ((p0.length : Int)))), (17, .t (.int .i64 x2)), (18, .t (.bool (decide (x2 < ((p0.length : Int)))))), (19, .t (.int .i64 x2)), (20, .fadr [.sl 1 (y4.fB.map (eInt .u8))]), (21, .agg [.t (.sl 1 (y4.fB.map (eInt .u8)))])], [(8, [.t (.sl 1 (y4.fB.map (eInt .u8)))])], []⟩ ?_
          refine Wp.srg [] [] ?_
          refine Runs.batch 2 kr ?_
          obtain ⟨y5, e_y5, h⟩ := bind_some h
          refine Runs.idxT (e := 67) (kk := .i64) (sz := 1) Image.enc p1 x2 rfl kr kr kr kr kr kr e_y5 ?_
          refine Runs.alln ?_
          refine Wp.fg ⟨[(1, .t (.sl 1 (p1.map Image.enc))), (2, .clo 91 []), (6, .t (.bool false)), (7, .t (.int .i64 x2)), (8, .obj 8 0), (9, .obj 9 0), (15, .t (.sl 1 (p0.map Image.enc))), (16, .t (.int .i64 ((p0.length : Int)))), (17, .t (.int .i64 x2)), (18, .t (.bool (decide (x2 < ((p0.length : Int)))))), (19, .t (.int .i64 x2)), (20, .fadr [.sl 1 (y4.fB.map (eInt .u8))]), (21, .agg [.t (.sl 1 (y4.fB.map (eInt .u8)))]), (22, .t (.sl 1 (p1.map Image.enc))), (23, .t (.int .i64 x2)), (24, .fadr [.sl 1 (y5.fB.map (eInt .u8))]), (25, .agg [.t (.sl 1 (y5.fB.map (eInt .u8)))])], [(8, [.t (.sl 1 (y4.fB.map (eInt .u8)))]), (9, [.t (.sl 1 (y5.fB.map (eInt .u8)))])], []⟩ ?_
          refine Wp.srg [] [] ?_
          refine Runs.batch 3 kr ?_
          obtain ⟨r6, e_r6, h⟩ := bind_some h
          refine Runs.callK false 29 91 [] [.agg [.t (.sl 1 (y4.fB.map (eInt .u8)))], .agg [.t (.sl 1 (y5.fB.map (eInt .u8)))]] [.agg [.t (.sl 1 (y4.fB.map (eInt .u8)))], .agg [.t (.sl 1 (y5.fB.map (eInt .u8)))]] (.one (.t (.bool r6))) [] rfl rfl kr kr kr kr kr (impl_SameBut_2_ok u y4 y5 r6 e_r6) kr ?_
          refine Runs.alln ?_
          refine Wp.fg ⟨[(1, .t (.sl 1 (p1.map Image.enc))), (2, .clo 91 []), (6, .t (.bool false)), (7, .t (.int .i64 x2)), (8, .obj 8 0), (9, .obj 9 0), (15, .t (.sl 1 (p0.map Image.enc))), (16, .t (.int .i64 ((p0.length : Int)))), (17, .t (.int .i64 x2)), (18, .t (.bool (decide (x2 < ((p0.length : Int)))))), (19, .t (.int .i64 x2)), (20, .fadr [.sl 1 (y4.fB.map (eInt .u8))]), (21, .agg [.t (.sl 1 (y4.fB.map (eInt .u8)))]), (22, .t (.sl 1 (p1.map Image.enc))), (23, .t (.int .i64 x2)), (24, .fadr [.sl 1 (y5.fB.map (eInt .u8))]), (25, .agg [.t (.sl 1 (y5.fB.map (eInt .u8)))]), (26, .clo 91 []), (27, .agg [.t (.sl 1 (y4.fB.map (eInt .u8)))]), (28, .agg [.t (.sl 1 (y5.fB.map (eInt .u8)))]), (29, .t (.bool r6)), (30, .t (.bool (!r6)))], [(8, [.t (.sl 1 (y4.fB.map (eInt .u8)))]), (9, [.t (.sl 1 (y5.fB.map (eInt .u8)))])], []⟩ ?_
          refine Wp.cond2 (b := !r6) kr (fun hc => ?_) (fun hc => ?_)
          · have h := cond_t h hc
            refine Wp.srg [] [] ?_
            refine Runs.alln ?_
            refine Wp.fg ⟨[(1, .t (.sl 1 (p1.map Image.enc))), (2, .clo 91 []), (6, .t (.bool false)), (7, .t (.int .i64 x2)), (8, .obj 8 0), (9, .obj 9 0), (15, .t (.sl 1 (p0.map Image.enc))), (16, .t (.int .i64 ((p0.length : Int)))), (17, .t (.int .i64 x2)), (18, .t (.bool (decide (x2 < ((p0.length : Int)))))), (19, .t (.int .i64 x2)), (20, .fadr [.sl 1 (y4.fB.map (eInt .u8))]), (21, .agg [.t (.sl 1 (y4.fB.map (eInt .u8)))]), (22, .t (.sl 1 (p1.map Image.enc))), (23, .t (.int .i64 x2)), (24, .fadr [.sl 1 (y5.fB.map (eInt .u8))]), (25, .agg [.t (.sl 1 (y5.fB.map (eInt .u8)))]), (26, .clo 91 []), (27, .agg [.t (.sl 1 (y4.fB.map (eInt .u8)))]), (28, .agg [.t (.sl 1 (y5.fB.map (eInt .u8)))]), (29, .t (.bool r6)), (30, .t (.bool (!r6)))], [(8, [.t (.sl 1 (y4.fB.map (eInt .u8)))]), (9, [.t (.sl 1 (y5.fB.map (eInt .u8)))])], []⟩ ?_
            refine Wp.ret ?_
            refine blkR ?_
            refine thenR ?_
            refine thenR ?_
            refine blkR ?_
            refine thenR ?_
            have hr := Option.some.inj h
            subst hr
            exact RetK [.t (.bool false)] (.one (.t (.bool false))) [] kr kr (.refl _) .nil
          · have h := cond_f h hc
            refine Wp.skip ?_
            refine blkN ?_
            refine thenN ?_
            refine Wp.rg [] [] ?_
            refine Runs.alln ?_
            exact ⟨(p1, p0, bAdd .i64 x2 1), h, Le.of (mo := []) (mr := []) kr kr kr kr⟩
        · have h := cond_f h hc
          refine Wp.exit ?_
          refine thenE ?_
          refine thenE ?_
          refine blkE ?_
          refine thenN ?_
          exact ⟨(), h, Le.of (mo := []) (mr := []) kr kr kr kr⟩
theorem slices_Equal___impl_Sum_impl_Sum_ok (u : Nat) (p0 : List Sum) (p1 : List Sum) (r : Bool) (h : slices_Equal___impl_Sum_impl_Sum u p0 p1 = some r) : CallOK Try.prog 168 [.one (.t (.sl 2 (p0.map Sum.enc))), .one (.t (.sl 2 (p1.map Sum.enc)))] (.one (.t (.bool r))) [] := by
  unfold slices_Equal___impl_Sum_impl_Sum at h
  refine CallOK.of_bodyK (fn := Try.f168) (m := false) [.t (.sl 2 (p0.map Sum.enc)), .t (.sl 2 (p1.map Sum.enc))] kr rfl kr kr kr kr kr ?_
  refine Wp.srg [] [] ?_
  refine Runs.alln ?_
  refine Wp.fg ⟨[(0, .t (.sl 2 (p0.map Sum.enc))), (1, .t (.sl 2 (p1.map Sum.enc))), (4, .t (.bool false))], [], []⟩ ?_
  refine Wp.seq ?_
  refine Wp.srg [] [] ?_
  refine Runs.batch 1 kr ?_
  refine Runs.lenT (y := .t (.sl 2 (p0.map Sum.enc))) (e := 166) Sum.enc p0 2 rfl rfl rfl kr kr kr kr kr ?_
  refine Runs.batch 1 kr ?_
  refine Runs.lenT (y := .t (.sl 2 (p1.map Sum.enc))) (e := 166) Sum.enc p1 2 rfl rfl rfl kr kr kr kr kr ?_
  refine Runs.alln ?_
  refine Wp.fg ⟨[(0, .t (.sl 2 (p0.map Sum.enc))), (1, .t (.sl 2 (p1.map Sum.enc))), (4, .t (.bool false)), (10, .t (.bool (((p0.length : Int)) != ((p1.length : Int)))))], [], []⟩ ?_
  refine Wp.cond2 (b := ((p0.length : Int)) != ((p1.length : Int))) kr (fun hc => ?_) (fun hc => ?_)
  · have h := cond_t h hc
    refine Wp.srg [] [] ?_
    refine Runs.alln ?_
    refine Wp.fg ⟨[(0, .t (.sl 2 (p0.map Sum.enc))), (1, .t (.sl 2 (p1.map Sum.enc))), (4, .t (.bool false))], [], []⟩ ?_
    refine Wp.ret ?_
    refine thenR ?_
    have hr := Option.some.inj h
    subst hr
    exact RetK [.t (.bool false)] (.one (.t (.bool false))) [] kr kr (.refl _) .nil
  · have h := cond_f h hc
    refine Wp.skip ?_
    refine thenN ?_
    refine Wp.seqJ (α := Unit) (fun a => ⟨[(4, .t (.bool false))], [], []⟩) (fun a => slices_Equal___impl_Sum_impl_Sum_j1 u = some r) ?_ ?_
    · rintro ⟨⟩ h
      change slices_Equal___impl_Sum_impl_Sum_j1 u = some r at h
      unfold slices_Equal___impl_Sum_impl_Sum_j1 at h
      refine Wp.srg [] [] ?_
      refine Runs.alln ?_
      refine Wp.fg ⟨[(4, .t (.bool true))], [], []⟩ ?_
      refine Wp.ret ?_
      have hr := Option.some.inj h
      subst hr
      exact RetK [.t (.bool true)] (.one (.t (.bool true))) [] kr kr (.refl _) .nil
    · refine Wp.srg [] [] ?_
      refine Runs.batch 1 kr ?_
      refine Runs.lenT (y := .t (.sl 2 (p0.map Sum.enc))) (e := 166) Sum.enc p0 2 rfl rfl rfl kr kr kr kr kr ?_
      refine Runs.alln ?_
      refine Wp.fg ⟨[(0, .t (.sl 2 (p0.map Sum.enc))), (1, .t (.sl 2 (p1.map Sum.enc))), (4, .t (.bool false)), (12, .t (.int .i64 ((p0.length : Int)))), (13, .t (.int .i64 0))], [], []⟩ ?_
      refine Wp.block ?_
      refine Wp.loopF (α := (List Sum) × (List Sum) × Int) (fun a => ⟨[(0, .t (.sl 2 (a.1.map Sum.enc))), (1, .t (.sl 2 (a.2.1.map Sum.enc))), (4, .t (.bool false)), (12, .t (.int .i64 ((a.1.length : Int)))), (13, .t (.int .i64 a.2.2))], [], []⟩) (fun k_slices_Equal___impl_Sum_impl_Sum_l2 a => slices_Equal___impl_Sum_impl_Sum_l2 u k_slices_Equal___impl_Sum_impl_Sum_l2 a.1 a.2.1 a.2.2 = some r) ?_ ?_ u (p0, p1, 0) h (Le.of (mo := []) (mr := []) kr kr kr kr)
      · intro a h; unfold slices_Equal___impl_Sum_impl_Sum_l2 at h; cases h
      · rintro k_slices_Equal___impl_Sum_impl_Sum_l2 ⟨p0, p1, x2⟩ h
        change slices_Equal___impl_Sum_impl_Sum_l2 u (k_slices_Equal___impl_Sum_impl_Sum_l2 + 1) p0 p1 x2 = some r at h
        rw [slices_Equal___impl_Sum_impl_Sum_l2] at h
        refine Wp.srg [] [] ?_
        refine Runs.alln ?_
        refine Wp.fg ⟨[(0, .t (.sl 2 (p0.map Sum.enc))), (1, .t (.sl 2 (p1.map Sum.enc))), (4, .t (.bool false)), (12, .t (.int .i64 ((p0.length : Int)))), (13, .t (.int .i64 x2)), (14, .t (.bool (decide (x2 < ((p0.length : Int))))))], [], []⟩ ?_
        refine Wp.seq ?_
        refine Wp.cond2 (b := decide (x2 < ((p0.length : Int)))) kr (fun hc => ?_) (fun hc => ?_)
        · have h := cond_t h hc
          refine Wp.skip ?_
          refine thenN ?_
          refine Wp.seq ?_
          refine Wp.block ?_
          refine Wp.srg [] [] ?_
          refine Runs.alln ?_
          refine Wp.fg ⟨[(0, .t (.sl 2 (p0.map Sum.enc))), (1, .t (.sl 2 (p1.map Sum.enc))), (4, .t (.bool false)), (5, .t (.int .i64 x2)), (12, .t (.int .i64 ((p0.length : Int)))), (13, .t (.int .i64 x2)), (14, .t (.bool (decide (x2 < ((p0.length : Int)))))), (15, .t (.int .i64 x2))], [], []⟩ ?_
          refine Wp.seq ?_
          refine Wp.regionA (pOf []) (rhoOf [(0, .frz), (1, .frz), (5, .frz), (16, .frz), (17, .frz), (18, .frz), (19, .frz), (20, .frz), (21, .frz), (22, .frz), (23, .frz)]) kr kr ?_
          refine Runs.batch 2 kr ?_
          obtain ⟨y4, e_y4, h⟩ := bind_some h
          refine Runs.idxT (e := 166) (kk := .i64) (sz := 2) Sum.enc p0 x2 rfl kr kr kr kr kr kr e_y4 ?_
          refine Runs.batch 3 kr ?_
          obtain ⟨y5, e_y5, h⟩ := bind_some h
          refine Runs.idxT (e := 166) (kk := .i64) (sz := 2) Sum.enc p1 x2 rfl kr kr kr kr kr kr e_y5 ?_
          refine Runs.alln ?_
          refine Wp.fg ⟨[(0, .t (.sl 2 (p0.map Sum.enc))), (1, .t (.sl 2 (p1.map Sum.enc))), (4, .t (.bool false)), (5, .t (.int .i64 x2)), (12, .t (.int .i64 ((p0.length : Int)))), (13, .t (.int .i64 x2)), (14, .t (.bool (decide (x2 < ((p0.length : Int)))))), (15, .t (.int .i64 x2)), (16, .t (.sl 2 (p0.map Sum.enc))), (17, .t (.int .i64 x2)), (18, .fadr [.int .i64 y4.fW, .int .i64 y4.fS]), (19, .agg [.t (.int .i64 y4.fW), .t (.int .i64 y4.fS)]), (20, .t (.sl 2 (p1.map Sum.enc))), (21, .t (.int .i64 x2)), (22, .fadr [.int .i64 y5.fW, .int .i64 y5.fS]), (23, .agg [.t (.int .i64 y5.fW), .t (.int .i64 y5.fS)]), (24, .t (.bool (!([y4.fW, y4.fS] == [y5.fW, y5.fS]))))], [], []⟩ ?_
          refine Wp.cond2 (b := !([y4.fW, y4.fS] == [y5.fW, y5.fS])) kr (fun hc => ?_) (fun hc => ?_)
          · have h := cond_t h hc
            refine Wp.srg [] [] ?_
            refine Runs.alln ?_
            refine Wp.fg ⟨[(0, .t (.sl 2 (p0.map Sum.enc))), (1, .t (.sl 2 (p1.map Sum.enc))), (4, .t (.bool false)), (5, .t (.int .i64 x2)), (12, .t (.int .i64 ((p0.length : Int)))), (13, .t (.int .i64 x2)), (14, .t (.bool (decide (x2 < ((p0.length : Int)))))), (15, .t (.int .i64 x2)), (16, .t (.sl 2 (p0.map Sum.enc))), (17, .t (.int .i64 x2)), (18, .fadr [.int .i64 y4.fW, .int .i64 y4.fS]), (19, .agg [.t (.int .i64 y4.fW), .t (.int .i64 y4.fS)]), (20, .t (.sl 2 (p1.map Sum.enc))), (21, .t (.int .i64 x2)), (22, .fadr [.int .i64 y5.fW, .int .i64 y5.fS]), (23, .agg [.t (.int .i64 y5.fW), .t (.int .i64 y5.fS)]), (24, .t (.bool (!([y4.fW, y4.fS] == [y5.fW, y5.fS]))))], [], []⟩ ?_
            refine Wp.ret ?_
            refine blkR ?_
            refine thenR ?_
            refine thenR ?_
            refine blkR ?_
            refine thenR ?_
            have hr := Option.some.inj h
            subst hr
            exact RetK [.t (.bool false)] (.one (.t (.bool false))) [] kr kr (.refl _) .nil
          · have h := cond_f h hc
            refine Wp.skip ?_
            refine blkN ?_
            refine thenN ?_
            refine Wp.rg [] [] ?_
            refine Runs.alln ?_
            exact ⟨(p0, p1, bAdd .i64 x2 1), h, Le.of (mo := []) (mr := []) kr kr kr kr⟩
        · have h := cond_f h hc
          refine Wp.exit ?_
          refine thenE ?_
          refine thenE ?_
          refine blkE ?_
          refine thenN ?_
          exact ⟨(), h, Le.of (mo := []) (mr := []) kr kr kr kr⟩
theorem impl_SameMan_ok (u : Nat) (p0 : Manifest) (p1 : Manifest) (r : Bool) (h : impl_SameMan u p0 p1 = some r) : CallOK Try.prog 124 [.agg [.t (.int .i64 p0.fGen), .t (.int .i64 p0.fSize), .t (.int .i64 p0.fLen), .t (.sl 2 (p0.fSums.map Sum.enc))], .agg [.t (.int .i64 p1.fGen), .t (.int .i64 p1.fSize), .t (.int .i64 p1.fLen), .t (.sl 2 (p1.fSums.map Sum.enc))]] (.one (.t (.bool r))) [] := by
  unfold impl_SameMan at h
  refine CallOK.of_bodyK (fn := Try.f124) (m := false) [.agg ((Manifest.enc p0).map .t), .agg ((Manifest.enc p1).map .t)] kr rfl kr kr kr kr kr ?_
  refine Wp.srg [] [] ?_
  refine Runs.alln ?_
  refine Wp.fg ⟨[(2, .obj 2 0), (3, .obj 3 0), (4, .t (.bool false))], [(2, ((Manifest.enc p0).map .t)), (3, ((Manifest.enc p1).map .t))], []⟩ ?_
  refine Wp.srg [] [] ?_
  refine Runs.batch 6 kr ?_
  rcases tf (p0.fGen == p1.fGen) with hc | hc
  · have h := cond_t h hc
    refine Runs.known 10 (v := true) kr hc ?_
    refine Runs.batch 7 kr ?_
    rcases tf (p0.fSize == p1.fSize) with hc | hc
    · have h := cond_t h hc
      refine Runs.known 17 (v := true) kr hc ?_
      refine Runs.batch 7 kr ?_
      rcases tf (p0.fLen == p1.fLen) with hc | hc
      · have h := cond_t h hc
        refine Runs.known 24 (v := true) kr hc ?_
        refine Runs.batch 4 kr ?_
        obtain ⟨r1, e_r1, h⟩ := bind_some h
        refine Runs.callK false 29 168 [] [.t (.sl 2 (p0.fSums.map Sum.enc)), .t (.sl 2 (p1.fSums.map Sum.enc))] [.one (.t (.sl 2 (p0.fSums.map Sum.enc))), .one (.t (.sl 2 (p1.fSums.map Sum.enc)))] (.one (.t (.bool r1))) [] rfl rfl kr kr kr kr kr (slices_Equal___impl_Sum_impl_Sum_ok u p0.fSums p1.fSums r1 e_r1) kr ?_
        refine Runs.alln ?_
        refine Wp.fg ⟨[(4, .t (.bool r1))], [], []⟩ ?_
        refine Wp.ret ?_
        have hr := Option.some.inj h
        subst hr
        exact RetK [.t (.bool r1)] (.one (.t (.bool r1))) [] kr kr (.refl _) .nil
      · have h := cond_f h hc
        refine Runs.known 24 (v := false) kr hc ?_
        refine Runs.alln ?_
        refine Wp.fg ⟨[(4, .t (.bool false))], [], []⟩ ?_
        refine Wp.ret ?_
        have hr := Option.some.inj h
        subst hr
        exact RetK [.t (.bool false)] (.one (.t (.bool false))) [] kr kr (.refl _) .nil
    · have h := cond_f h hc
      refine Runs.known 17 (v := false) kr hc ?_
      refine Runs.alln ?_
      refine Wp.fg ⟨[(4, .t (.bool false))], [], []⟩ ?_
      refine Wp.ret ?_
      have hr := Option.some.inj h
      subst hr
      exact RetK [.t (.bool false)] (.one (.t (.bool false))) [] kr kr (.refl _) .nil
  · have h := cond_f h hc
    refine Runs.known 10 (v := false) kr hc ?_
    refine Runs.alln ?_
    refine Wp.fg ⟨[(4, .t (.bool false))], [], []⟩ ?_
    refine Wp.ret ?_
    have hr := Option.some.inj h
    subst hr
    exact RetK [.t (.bool false)] (.one (.t (.bool false))) [] kr kr (.refl _) .nil
theorem slices_Equal___impl_Kid_impl_Kid_ok (u : Nat) (p0 : List Kid) (p1 : List Kid) (r : Bool) (h : slices_Equal___impl_Kid_impl_Kid u p0 p1 = some r) : CallOK Try.prog 125 [.one (.t (.sl 5 (p0.map Kid.enc))), .one (.t (.sl 5 (p1.map Kid.enc)))] (.one (.t (.bool r))) [] := by
  unfold slices_Equal___impl_Kid_impl_Kid at h
  refine CallOK.of_bodyK (fn := Try.f125) (m := false) [.t (.sl 5 (p0.map Kid.enc)), .t (.sl 5 (p1.map Kid.enc))] kr rfl kr kr kr kr kr ?_
  refine Wp.srg [] [] ?_
  refine Runs.alln ?_
  refine Wp.fg ⟨[(0, .t (.sl 5 (p0.map Kid.enc))), (1, .t (.sl 5 (p1.map Kid.enc))), (4, .t (.bool false))], [], []⟩ ?_
  refine Wp.seq ?_
  refine Wp.srg [] [] ?_
  refine Runs.batch 1 kr ?_
  refine Runs.lenT (y := .t (.sl 5 (p0.map Kid.enc))) (e := 156) Kid.enc p0 5 rfl rfl rfl kr kr kr kr kr ?_
  refine Runs.batch 1 kr ?_
  refine Runs.lenT (y := .t (.sl 5 (p1.map Kid.enc))) (e := 156) Kid.enc p1 5 rfl rfl rfl kr kr kr kr kr ?_
  refine Runs.alln ?_
  refine Wp.fg ⟨[(0, .t (.sl 5 (p0.map Kid.enc))), (1, .t (.sl 5 (p1.map Kid.enc))), (4, .t (.bool false)), (10, .t (.bool (((p0.length : Int)) != ((p1.length : Int)))))], [], []⟩ ?_
  refine Wp.cond2 (b := ((p0.length : Int)) != ((p1.length : Int))) kr (fun hc => ?_) (fun hc => ?_)
  · have h := cond_t h hc
    refine Wp.srg [] [] ?_
    refine Runs.alln ?_
    refine Wp.fg ⟨[(0, .t (.sl 5 (p0.map Kid.enc))), (1, .t (.sl 5 (p1.map Kid.enc))), (4, .t (.bool false))], [], []⟩ ?_
    refine Wp.ret ?_
    refine thenR ?_
    have hr := Option.some.inj h
    subst hr
    exact RetK [.t (.bool false)] (.one (.t (.bool false))) [] kr kr (.refl _) .nil
  · have h := cond_f h hc
    refine Wp.skip ?_
    refine thenN ?_
    refine Wp.seqJ (α := Unit) (fun a => ⟨[(4, .t (.bool false))], [], []⟩) (fun a => slices_Equal___impl_Kid_impl_Kid_j1 u = some r) ?_ ?_
    · rintro ⟨⟩ h
      change slices_Equal___impl_Kid_impl_Kid_j1 u = some r at h
      unfold slices_Equal___impl_Kid_impl_Kid_j1 at h
      refine Wp.srg [] [] ?_
      refine Runs.alln ?_
      refine Wp.fg ⟨[(4, .t (.bool true))], [], []⟩ ?_
      refine Wp.ret ?_
      have hr := Option.some.inj h
      subst hr
      exact RetK [.t (.bool true)] (.one (.t (.bool true))) [] kr kr (.refl _) .nil
    · refine Wp.srg [] [] ?_
      refine Runs.batch 1 kr ?_
      refine Runs.lenT (y := .t (.sl 5 (p0.map Kid.enc))) (e := 156) Kid.enc p0 5 rfl rfl rfl kr kr kr kr kr ?_
      refine Runs.alln ?_
      refine Wp.fg ⟨[(0, .t (.sl 5 (p0.map Kid.enc))), (1, .t (.sl 5 (p1.map Kid.enc))), (4, .t (.bool false)), (12, .t (.int .i64 ((p0.length : Int)))), (13, .t (.int .i64 0))], [], []⟩ ?_
      refine Wp.block ?_
      refine Wp.loopF (α := (List Kid) × (List Kid) × Int) (fun a => ⟨[(0, .t (.sl 5 (a.1.map Kid.enc))), (1, .t (.sl 5 (a.2.1.map Kid.enc))), (4, .t (.bool false)), (12, .t (.int .i64 ((a.1.length : Int)))), (13, .t (.int .i64 a.2.2))], [], []⟩) (fun k_slices_Equal___impl_Kid_impl_Kid_l2 a => slices_Equal___impl_Kid_impl_Kid_l2 u k_slices_Equal___impl_Kid_impl_Kid_l2 a.1 a.2.1 a.2.2 = some r) ?_ ?_ u (p0, p1, 0) h (Le.of (mo := []) (mr := []) kr kr kr kr)
      · intro a h; unfold slices_Equal___impl_Kid_impl_Kid_l2 at h; cases h
      · rintro k_slices_Equal___impl_Kid_impl_Kid_l2 ⟨p0, p1, x2⟩ h
        change slices_Equal___impl_Kid_impl_Kid_l2 u (k_slices_Equal___impl_Kid_impl_Kid_l2 + 1) p0 p1 x2 = some r at h
        rw [slices_Equal___impl_Kid_impl_Kid_l2] at h
        refine Wp.srg [] [] ?_
        refine Runs.alln ?_
        refine Wp.fg ⟨[(0, .t (.sl 5 (p0.map Kid.enc))), (1, .t (.sl 5 (p1.map Kid.enc))), (4, .t (.bool false)), (12, .t (.int .i64 ((p0.length : Int)))), (13, .t (.int .i64 x2)), (14, .t (.bool (decide (x2 < ((p0.length : Int))))))], [], []⟩ ?_
        refine Wp.seq ?_
        refine Wp.cond2 (b := decide (x2 < ((p0.length : Int)))) kr (fun hc => ?_) (fun hc => ?_)
        · have h := cond_t h hc
          refine Wp.skip ?_
          refine thenN ?_
          refine Wp.seq ?_
          refine Wp.block ?_
          refine Wp.srg [] [] ?_
          refine Runs.alln ?_
          refine Wp.fg ⟨[(0, .t (.sl 5 (p0.map Kid.enc))), (1, .t (.sl 5 (p1.map Kid.enc))), (4, .t (.bool false)), (5, .t (.int .i64 x2)), (12, .t (.int .i64 ((p0.length : Int)))), (13, .t (.int .i64 x2)), (14, .t (.bool (decide (x2 < ((p0.length : Int)))))), (15, .t (.int .i64 x2))], [], []⟩ ?_
          refine Wp.seq ?_
          refine Wp.regionA (pOf []) (rhoOf [(0, .frz), (1, .frz), (5, .frz), (16, .frz), (17, .frz), (18, .frz), (19, .frz), (20, .frz), (21, .frz), (22, .frz), (23, .frz)]) kr kr ?_
          refine Runs.batch 2 kr ?_
          obtain ⟨y4, e_y4, h⟩ := bind_some h
          refine Runs.idxT (e := 156) (kk := .i64) (sz := 5) Kid.enc p0 x2 rfl kr kr kr kr kr kr e_y4 ?_
          refine Runs.batch 3 kr ?_
          obtain ⟨y5, e_y5, h⟩ := bind_some h
          refine Runs.idxT (e := 156) (kk := .i64) (sz := 5) Kid.enc p1 x2 rfl kr kr kr kr kr kr e_y5 ?_
          refine Runs.alln ?_
          refine Wp.fg ⟨[(0, .t (.sl 5 (p0.map Kid.enc))), (1, .t (.sl 5 (p1.map Kid.enc))), (4, .t (.bool false)), (5, .t (.int .i64 x2)), (12, .t (.int .i64 ((p0.length : Int)))), (13, .t (.int .i64 x2)), (14, .t (.bool (decide (x2 < ((p0.length : Int)))))), (15, .t (.int .i64 x2)), (16, .t (.sl 5 (p0.map Kid.enc))), (17, .t (.int .i64 x2)), (18, .fadr (Kid.enc y4)), (19, .agg ((Kid.enc y4).map .t)), (20, .t (.sl 5 (p1.map Kid.enc))), (21, .t (.int .i64 x2)), (22, .fadr (Kid.enc y5)), (23, .agg ((Kid.enc y5).map .t)), (24, .t (.bool (!([y4.fId, y4.fWant, y4.fDone, y4.fAge, y4.fSent] == [y5.fId, y5.fWant, y5.fDone, y5.fAge, y5.fSent]))))], [], []⟩ ?_
          refine Wp.cond2 (b := !([y4.fId, y4.fWant, y4.fDone, y4.fAge, y4.fSent] == [y5.fId, y5.fWant, y5.fDone, y5.fAge, y5.fSent])) kr (fun hc => ?_) (fun hc => ?_)
          · have h := cond_t h hc
            refine Wp.srg [] [] ?_
            refine Runs.alln ?_
            refine Wp.fg ⟨[(0, .t (.sl 5 (p0.map Kid.enc))), (1, .t (.sl 5 (p1.map Kid.enc))), (4, .t (.bool false)), (5, .t (.int .i64 x2)), (12, .t (.int .i64 ((p0.length : Int)))), (13, .t (.int .i64 x2)), (14, .t (.bool (decide (x2 < ((p0.length : Int)))))), (15, .t (.int .i64 x2)), (16, .t (.sl 5 (p0.map Kid.enc))), (17, .t (.int .i64 x2)), (18, .fadr (Kid.enc y4)), (19, .agg ((Kid.enc y4).map .t)), (20, .t (.sl 5 (p1.map Kid.enc))), (21, .t (.int .i64 x2)), (22, .fadr (Kid.enc y5)), (23, .agg ((Kid.enc y5).map .t)), (24, .t (.bool (!([y4.fId, y4.fWant, y4.fDone, y4.fAge, y4.fSent] == [y5.fId, y5.fWant, y5.fDone, y5.fAge, y5.fSent]))))], [], []⟩ ?_
            refine Wp.ret ?_
            refine blkR ?_
            refine thenR ?_
            refine thenR ?_
            refine blkR ?_
            refine thenR ?_
            have hr := Option.some.inj h
            subst hr
            exact RetK [.t (.bool false)] (.one (.t (.bool false))) [] kr kr (.refl _) .nil
          · have h := cond_f h hc
            refine Wp.skip ?_
            refine blkN ?_
            refine thenN ?_
            refine Wp.rg [] [] ?_
            refine Runs.alln ?_
            exact ⟨(p0, p1, bAdd .i64 x2 1), h, Le.of (mo := []) (mr := []) kr kr kr kr⟩
        · have h := cond_f h hc
          refine Wp.exit ?_
          refine thenE ?_
          refine thenE ?_
          refine blkE ?_
          refine thenN ?_
          exact ⟨(), h, Le.of (mo := []) (mr := []) kr kr kr kr⟩
theorem impl_SameNode_ok (u : Nat) (p0 : Node) (p1 : Node) (r : Bool) (h : impl_SameNode u p0 p1 = some r) : CallOK Try.prog 87 [.agg [.t (.bool p0.fOn), .t (.int .i64 p0.fBoss), .t (.int .i64 p0.fQuiet), .t (.int .i64 p0.fMan.fGen), .t (.int .i64 p0.fMan.fSize), .t (.int .i64 p0.fMan.fLen), .t (.sl 2 (p0.fMan.fSums.map Sum.enc)), .t (.int .i64 p0.fBld.fHave), .t (.sl 1 (p0.fBld.fBuf.map (eInt .u8))), .t (.int .i64 p0.fPhase), .t (.sl 5 (p0.fKids.map Kid.enc)), .t (.int .i64 p0.fDrops)], .agg [.t (.bool p1.fOn), .t (.int .i64 p1.fBoss), .t (.int .i64 p1.fQuiet), .t (.int .i64 p1.fMan.fGen), .t (.int .i64 p1.fMan.fSize), .t (.int .i64 p1.fMan.fLen), .t (.sl 2 (p1.fMan.fSums.map Sum.enc)), .t (.int .i64 p1.fBld.fHave), .t (.sl 1 (p1.fBld.fBuf.map (eInt .u8))), .t (.int .i64 p1.fPhase), .t (.sl 5 (p1.fKids.map Kid.enc)), .t (.int .i64 p1.fDrops)]] (.one (.t (.bool r))) [] := by
  unfold impl_SameNode at h
  refine CallOK.of_bodyK (fn := Try.f87) (m := false) [.agg ((Node.enc p0).map .t), .agg ((Node.enc p1).map .t)] kr rfl kr kr kr kr kr ?_
  refine Wp.srg [] [] ?_
  refine Runs.alln ?_
  refine Wp.fg ⟨[(2, .obj 2 0), (3, .obj 3 0), (4, .t (.bool false))], [(2, ((Node.enc p0).map .t)), (3, ((Node.enc p1).map .t))], []⟩ ?_
  refine Wp.srg [] [] ?_
  refine Runs.batch 6 kr ?_
  rcases tf (p0.fOn == p1.fOn) with hc | hc
  · have h := cond_t h hc
    refine Runs.known 10 (v := true) kr hc ?_
    refine Runs.batch 7 kr ?_
    rcases tf (p0.fBoss == p1.fBoss) with hc | hc
    · have h := cond_t h hc
      refine Runs.known 17 (v := true) kr hc ?_
      refine Runs.batch 7 kr ?_
      rcases tf (p0.fQuiet == p1.fQuiet) with hc | hc
      · have h := cond_t h hc
        refine Runs.known 24 (v := true) kr hc ?_
        refine Runs.batch 4 kr ?_
        obtain ⟨r1, e_r1, h⟩ := bind_some h
        refine Runs.callK false 29 124 [] [.agg ((Manifest.enc p0.fMan).map .t), .agg ((Manifest.enc p1.fMan).map .t)] [.agg ((Manifest.enc p0.fMan).map .t), .agg ((Manifest.enc p1.fMan).map .t)] (.one (.t (.bool r1))) [] rfl rfl kr kr kr kr kr (impl_SameMan_ok u p0.fMan p1.fMan r1 e_r1) kr ?_
        refine Runs.batch 2 kr ?_
        rcases tf (r1) with hc | hc
        · have h := cond_t h hc
          refine Runs.known 31 (v := true) kr hc ?_
          refine Runs.batch 9 kr ?_
          rcases tf (p0.fBld.fHave == p1.fBld.fHave) with hc | hc
          · have h := cond_t h hc
            refine Runs.known 40 (v := true) kr hc ?_
            refine Runs.batch 6 kr ?_
            obtain ⟨r2, e_r2, h⟩ := bind_some h
            refine Runs.callK false 47 89 [] [.t (.sl 1 (p0.fBld.fBuf.map (eInt .u8))), .t (.sl 1 (p1.fBld.fBuf.map (eInt .u8)))] [.one (.t (.sl 1 (p0.fBld.fBuf.map (eInt .u8)))), .one (.t (.sl 1 (p1.fBld.fBuf.map (eInt .u8))))] (.one (.t (.bool r2))) [] rfl rfl kr kr kr kr kr (impl_SameBytes_ok u p0.fBld.fBuf p1.fBld.fBuf r2 e_r2) kr ?_
            refine Runs.batch 2 kr ?_
            rcases tf (r2) with hc | hc
            · have h := cond_t h hc
              refine Runs.known 49 (v := true) kr hc ?_
              refine Runs.batch 7 kr ?_
              rcases tf (p0.fPhase == p1.fPhase) with hc | hc
              · have h := cond_t h hc
                refine Runs.known 56 (v := true) kr hc ?_
                refine Runs.batch 4 kr ?_
                obtain ⟨r3, e_r3, h⟩ := bind_some h
                refine Runs.callK false 61 125 [] [.t (.sl 5 (p0.fKids.map Kid.enc)), .t (.sl 5 (p1.fKids.map Kid.enc))] [.one (.t (.sl 5 (p0.fKids.map Kid.enc))), .one (.t (.sl 5 (p1.fKids.map Kid.enc)))] (.one (.t (.bool r3))) [] rfl rfl kr kr kr kr kr (slices_Equal___impl_Kid_impl_Kid_ok u p0.fKids p1.fKids r3 e_r3) kr ?_
                refine Runs.batch 2 kr ?_
                rcases tf (r3) with hc | hc
                · have h := cond_t h hc
                  refine Runs.known 63 (v := true) kr hc ?_
                  refine Runs.alln ?_
                  refine Wp.fg ⟨[(4, .t (.bool (p0.fDrops == p1.fDrops)))], [], []⟩ ?_
                  refine Wp.ret ?_
                  have hr := Option.some.inj h
                  subst hr
                  exact RetK [.t (.bool (p0.fDrops == p1.fDrops))] (.one (.t (.bool (p0.fDrops == p1.fDrops)))) [] kr kr (.refl _) .nil
                · have h := cond_f h hc
                  refine Runs.known 63 (v := false) kr hc ?_
                  refine Runs.alln ?_
                  refine Wp.fg ⟨[(4, .t (.bool false))], [], []⟩ ?_
                  refine Wp.ret ?_
                  have hr := Option.some.inj h
                  subst hr
                  exact RetK [.t (.bool false)] (.one (.t (.bool false))) [] kr kr (.refl _) .nil
              · have h := cond_f h hc
                refine Runs.known 56 (v := false) kr hc ?_
                refine Runs.alln ?_
                refine Wp.fg ⟨[(4, .t (.bool false))], [], []⟩ ?_
                refine Wp.ret ?_
                have hr := Option.some.inj h
                subst hr
                exact RetK [.t (.bool false)] (.one (.t (.bool false))) [] kr kr (.refl _) .nil
            · have h := cond_f h hc
              refine Runs.known 49 (v := false) kr hc ?_
              refine Runs.alln ?_
              refine Wp.fg ⟨[(4, .t (.bool false))], [], []⟩ ?_
              refine Wp.ret ?_
              have hr := Option.some.inj h
              subst hr
              exact RetK [.t (.bool false)] (.one (.t (.bool false))) [] kr kr (.refl _) .nil
          · have h := cond_f h hc
            refine Runs.known 40 (v := false) kr hc ?_
            refine Runs.alln ?_
            refine Wp.fg ⟨[(4, .t (.bool false))], [], []⟩ ?_
            refine Wp.ret ?_
            have hr := Option.some.inj h
            subst hr
            exact RetK [.t (.bool false)] (.one (.t (.bool false))) [] kr kr (.refl _) .nil
        · have h := cond_f h hc
          refine Runs.known 31 (v := false) kr hc ?_
          refine Runs.alln ?_
          refine Wp.fg ⟨[(4, .t (.bool false))], [], []⟩ ?_
          refine Wp.ret ?_
          have hr := Option.some.inj h
          subst hr
          exact RetK [.t (.bool false)] (.one (.t (.bool false))) [] kr kr (.refl _) .nil
      · have h := cond_f h hc
        refine Runs.known 24 (v := false) kr hc ?_
        refine Runs.alln ?_
        refine Wp.fg ⟨[(4, .t (.bool false))], [], []⟩ ?_
        refine Wp.ret ?_
        have hr := Option.some.inj h
        subst hr
        exact RetK [.t (.bool false)] (.one (.t (.bool false))) [] kr kr (.refl _) .nil
    · have h := cond_f h hc
      refine Runs.known 17 (v := false) kr hc ?_
      refine Runs.alln ?_
      refine Wp.fg ⟨[(4, .t (.bool false))], [], []⟩ ?_
      refine Wp.ret ?_
      have hr := Option.some.inj h
      subst hr
      exact RetK [.t (.bool false)] (.one (.t (.bool false))) [] kr kr (.refl _) .nil
  · have h := cond_f h hc
    refine Runs.known 10 (v := false) kr hc ?_
    refine Runs.alln ?_
    refine Wp.fg ⟨[(4, .t (.bool false))], [], []⟩ ?_
    refine Wp.ret ?_
    have hr := Option.some.inj h
    subst hr
    exact RetK [.t (.bool false)] (.one (.t (.bool false))) [] kr kr (.refl _) .nil
theorem impl_SameBut_1_ok (u : Nat) (p0 : Node) (p1 : Node) (r : Bool) (h : impl_SameBut_1 u p0 p1 = some r) : CallOK Try.prog 86 [.agg [.t (.bool p0.fOn), .t (.int .i64 p0.fBoss), .t (.int .i64 p0.fQuiet), .t (.int .i64 p0.fMan.fGen), .t (.int .i64 p0.fMan.fSize), .t (.int .i64 p0.fMan.fLen), .t (.sl 2 (p0.fMan.fSums.map Sum.enc)), .t (.int .i64 p0.fBld.fHave), .t (.sl 1 (p0.fBld.fBuf.map (eInt .u8))), .t (.int .i64 p0.fPhase), .t (.sl 5 (p0.fKids.map Kid.enc)), .t (.int .i64 p0.fDrops)], .agg [.t (.bool p1.fOn), .t (.int .i64 p1.fBoss), .t (.int .i64 p1.fQuiet), .t (.int .i64 p1.fMan.fGen), .t (.int .i64 p1.fMan.fSize), .t (.int .i64 p1.fMan.fLen), .t (.sl 2 (p1.fMan.fSums.map Sum.enc)), .t (.int .i64 p1.fBld.fHave), .t (.sl 1 (p1.fBld.fBuf.map (eInt .u8))), .t (.int .i64 p1.fPhase), .t (.sl 5 (p1.fKids.map Kid.enc)), .t (.int .i64 p1.fDrops)]] (.one (.t (.bool r))) [] := by
  unfold impl_SameBut_1 at h
  refine CallOK.of_bodyK (fn := Try.f86) (m := false) [.agg ((Node.enc p0).map .t), .agg ((Node.enc p1).map .t)] kr rfl kr kr kr kr kr ?_
  refine Wp.srg [] [] ?_
  refine Runs.alln ?_
  refine Wp.fg ⟨[(2, .obj 2 0), (3, .obj 3 0), (4, .t (.bool false))], [(2, ((Node.enc p0).map .t)), (3, ((Node.enc p1).map .t))], []⟩ ?_
  refine Wp.srg [] [] ?_
  refine Runs.alln ?_
  refine Wp.fg ⟨[(2, .obj 2 0), (3, .obj 3 0), (4, .t (.bool false))], [(2, [.t (.bool p0.fOn), .t (.int .i64 p0.fBoss), .t (.int .i64 p0.fQuiet), .t (.int .i64 p0.fMan.fGen), .t (.int .i64 p0.fMan.fSize), .t (.int .i64 p0.fMan.fLen), .t (.sl 2 (p0.fMan.fSums.map Sum.enc)), .t (.int .i64 p0.fBld.fHave), .t (.sl 1 (p0.fBld.fBuf.map (eInt .u8))), .t (.int .i64 p0.fPhase), .t (.sl 5 (p0.fKids.map Kid.enc)), .t (.int .i64 p1.fDrops)]), (3, ((Node.enc p1).map .t))], []⟩ ?_
  refine Wp.srg [] [] ?_
  refine Runs.batch 2 kr ?_
  obtain ⟨r1, e_r1, h⟩ := bind_some h
  refine Runs.callK false 10 87 [] [.agg [.t (.bool p0.fOn), .t (.int .i64 p0.fBoss), .t (.int .i64 p0.fQuiet), .t (.int .i64 p0.fMan.fGen), .t (.int .i64 p0.fMan.fSize), .t (.int .i64 p0.fMan.fLen), .t (.sl 2 (p0.fMan.fSums.map Sum.enc)), .t (.int .i64 p0.fBld.fHave), .t (.sl 1 (p0.fBld.fBuf.map (eInt .u8))), .t (.int .i64 p0.fPhase), .t (.sl 5 (p0.fKids.map Kid.enc)), .t (.int .i64 p1.fDrops)], .agg ((Node.enc p1).map .t)] [.agg [.t (.bool p0.fOn), .t (.int .i64 p0.fBoss), .t (.int .i64 p0.fQuiet), .t (.int .i64 p0.fMan.fGen), .t (.int .i64 p0.fMan.fSize), .t (.int .i64 p0.fMan.fLen), .t (.sl 2 (p0.fMan.fSums.map Sum.enc)), .t (.int .i64 p0.fBld.fHave), .t (.sl 1 (p0.fBld.fBuf.map (eInt .u8))), .t (.int .i64 p0.fPhase), .t (.sl 5 (p0.fKids.map Kid.enc)), .t (.int .i64 p1.fDrops)], .agg ((Node.enc p1).map .t)] (.one (.t (.bool r1))) [] rfl rfl kr kr kr kr kr (impl_SameNode_ok u ((Node.mk p0.fOn p0.fBoss p0.fQuiet p0.fMan p0.fBld p0.fPhase p0.fKids p1.fDrops)) p1 r1 e_r1) kr ?_
  refine Runs.alln ?_
  refine Wp.fg ⟨[(4, .t (.bool r1))], [], []⟩ ?_
  refine Wp.ret ?_
  have hr := Option.some.inj h
  subst hr
  exact RetK [.t (.bool r1)] (.one (.t (.bool r1))) [] kr kr (.refl _) .nil
theorem slices_EqualFunc___impl_Node___impl_Node_impl_Node_impl_Node__impl_SameBut_1_ok (u : Nat) (p0 : List Node) (p1 : List Node) (r : Bool) (h : slices_EqualFunc___impl_Node___impl_Node_impl_Node_impl_Node__impl_SameBut_1 u p0 p1 = some r) : CallOK Try.prog 92 [.one (.t (.sl 12 (p0.map Node.enc))), .one (.t (.sl 12 (p1.map Node.enc))), .clo 86 []] (.one (.t (.bool r))) [] := by
  unfold slices_EqualFunc___impl_Node___impl_Node_impl_Node_impl_Node__impl_SameBut_1 at h
  refine CallOK.of_bodyK (fn := Try.f92) (m := false) [.t (.sl 12 (p0.map Node.enc)), .t (.sl 12 (p1.map Node.enc)), .clo 86 []] kr rfl kr kr kr kr kr ?_
  refine Wp.srg [] [] ?_
  refine Runs.alln ?_
  refine Wp.fg ⟨[(0, .t (.sl 12 (p0.map Node.enc))), (1, .t (.sl 12 (p1.map Node.enc))), (2, .clo 86 []), (6, .t (.bool false))], [], []⟩ ?_
  refine Wp.seq ?_
  refine Wp.srg [] [] ?_
  refine Runs.batch 1 kr ?_
  refine Runs.lenT (y := .t (.sl 12 (p0.map Node.enc))) (e := 114) Node.enc p0 12 rfl rfl rfl kr kr kr kr kr ?_
  refine Runs.batch 1 kr ?_
  refine Runs.lenT (y := .t (.sl 12 (p1.map Node.enc))) (e := 114) Node.enc p1 12 rfl rfl rfl kr kr kr kr kr ?_
  refine Runs.alln ?_
  refine Wp.fg ⟨[(0, .t (.sl 12 (p0.map Node.enc))), (1, .t (.sl 12 (p1.map Node.enc))), (2, .clo 86 []), (6, .t (.bool false)), (14, .t (.bool (((p0.length : Int)) != ((p1.length : Int)))))], [], []⟩ ?_
  refine Wp.cond2 (b := ((p0.length : Int)) != ((p1.length : Int))) kr (fun hc => ?_) (fun hc => ?_)
  · have h := cond_t h hc
    refine Wp.srg [] [] ?_
    refine Runs.alln ?_
    refine Wp.fg ⟨[(0, .t (.sl 12 (p0.map Node.enc))), (1, .t (.sl 12 (p1.map Node.enc))), (2, .clo 86 []), (6, .t (.bool false))], [], []⟩ ?_
    refine Wp.ret ?_
    refine thenR ?_
    have hr := Option.some.inj h
    subst hr
    exact RetK [.t (.bool false)] (.one (.t (.bool false))) [] kr kr (.refl _) .nil
  · have h := cond_f h hc
    refine Wp.skip ?_
    refine thenN ?_
    refine Wp.seqJ (α := Unit) (fun a => ⟨[(6, .t (.bool false))], [], []⟩) (fun a => slices_EqualFunc___impl_Node___impl_Node_impl_Node_impl_Node__impl_SameBut_1_j1 u = some r) ?_ ?_
    · rintro ⟨⟩ h
      change slices_EqualFunc___impl_Node___impl_Node_impl_Node_impl_Node__impl_SameBut_1_j1 u = some r at h
      unfold slices_EqualFunc___impl_Node___impl_Node_impl_Node_impl_Node__impl_SameBut_1_j1 at h
      refine Wp.srg [] [] ?_
      refine Runs.alln ?_
      refine Wp.fg ⟨[(6, .t (.bool true))], [], []⟩ ?_
      refine Wp.ret ?_
      have hr := Option.some.inj h
      subst hr
      exact RetK [.t (.bool true)] (.one (.t (.bool true))) [] kr kr (.refl _) .nil
    · refine Wp.srg [] [] ?_
      refine Runs.batch 1 kr ?_
      refine Runs.lenT (y := .t (.sl 12 (p0.map Node.enc))) (e := 114) Node.enc p0 12 rfl rfl rfl kr kr kr kr kr ?_
      refine Runs.alln ?_
      refine Wp.fg ⟨[(1, .t (.sl 12 (p1.map Node.enc))), (2, .clo 86 []), (6, .t (.bool false)), (15, .t (.sl 12 (p0.map Node.enc))), (16, .t (.int .i64 ((p0.length : Int)))), (17, .t (.int .i64 0))], [], []⟩ ?_
      refine Wp.block ?_
      refine Wp.loopF (α := (List Node) × (List Node) × Int) (fun a => ⟨[(1, .t (.sl 12 (a.1.map Node.enc))), (2, .clo 86 []), (6, .t (.bool false)), (15, .t (.sl 12 (a.2.1.map Node.enc))), (16, .t (.int .i64 ((a.2.1.length : Int)))), (17, .t (.int .i64 a.2.2))], [], []⟩) (fun k_slices_EqualFunc___impl_Node___impl_Node_impl_Node_impl_Node__impl_SameBut_1_l2 a => slices_EqualFunc___impl_Node___impl_Node_impl_Node_impl_Node__impl_SameBut_1_l2 u k_slices_EqualFunc___impl_Node___impl_Node_impl_Node_impl_Node__impl_SameBut_1_l2 a.1 a.2.1 a.2.2 = some r) ?_ ?_ u (p1, p0, 0) h (Le.of (mo := []) (mr := []) kr kr kr kr)
      · intro a h; unfold slices_EqualFunc___impl_Node___impl_Node_impl_Node_impl_Node__impl_SameBut_1_l2 at h; cases h
      · rintro k_slices_EqualFunc___impl_Node___impl_Node_impl_Node_impl_Node__impl_SameBut_1_l2 ⟨p1, p0, x2⟩ h
        change slices_EqualFunc___impl_Node___impl_Node_impl_Node_impl_Node__impl_SameBut_1_l2 u (k_slices_EqualFunc___impl_Node___impl_Node_impl_Node_impl_Node__impl_SameBut_1_l2 + 1) p1 p0 x2 = some r at h
        rw [slices_EqualFunc___impl_Node___impl_Node_impl_Node_impl_Node__impl_SameBut_1_l2] at h
        refine Wp.srg [] [] ?_
        refine Runs.alln ?_
        refine Wp.fg ⟨[(1, .t (.sl 12 (p1.map Node.enc))), (2, .clo 86 []), (6, .t (.bool false)), (15, .t (.sl 12 (p0.map Node.enc))), (16, .t (.int .i64 ((p0.length : Int)))), (17, .t (.int .i64 x2)), (18, .t (.bool (decide (x2 < ((p0.length : Int))))))], [], []⟩ ?_
        refine Wp.seq ?_
        refine Wp.cond2 (b := decide (x2 < ((p0.length : Int)))) kr (fun hc => ?_) (fun hc => ?_)
        · have h := cond_t h hc
          refine Wp.skip ?_
          refine thenN ?_
          refine Wp.seq ?_
          refine Wp.block ?_
          refine Wp.srg [] [] ?_
          refine Runs.batch 1 kr ?_
          obtain ⟨y4, e_y4, h⟩ := bind_some h
          refine Runs.idxT (e := 114) (kk := .i64) (sz := 12) Node.enc p0 x2 rfl kr kr kr kr kr kr e_y4 ?_
          refine Runs.alln ?_
          refine Wp.fg ⟨[(1, .t (.sl 12 (p1.map Node.enc))), (2, .clo 86 []), (6, .t (.bool false)), (7, .t (.int .i64 x2)), (8, .obj 8 0), (15, .t (.sl 12 (p0.map Node.enc))), (16, .t (.int .i64 ((p0.length : Int)))), (17, .t (.int .i64 x2)), (18, .t (.bool (decide (x2 < ((p0.length : Int)))))), (19, .t (.int .i64 x2)), (20, .fadr (Node.enc y4)), (21, .agg ((Node.enc y4).map .t))], [(8, ((Node.enc y4).map .t))], []⟩ ?_
          refine Wp.srg [] [] ?_
          refine Runs.batch 2 kr ?_
          obtain ⟨y5, e_y5, h⟩ := bind_some h
          refine Runs.idxT (e := 114) (kk := .i64) (sz := 12) Node.enc p1 x2 rfl kr kr kr kr kr kr e_y5 ?_
          refine Runs.alln ?_
          refine Wp.fg ⟨[(1, .t (.sl 12 (p1.map Node.enc))), (2, .clo 86 []), (6, .t (.bool false)), (7, .t (.int .i64 x2)), (8, .obj 8 0), (9, .obj 9 0), (15, .t (.sl 12 (p0.map Node.enc))), (16, .t (.int .i64 ((p0.length : Int)))), (17, .t (.int .i64 x2)), (18, .t (.bool (decide (x2 < ((p0.length : Int)))))), (19, .t (.int .i64 x2)), (20, .fadr (Node.enc y4)), (21, .agg ((Node.enc y4).map .t)), (22, .t (.sl 12 (p1.map Node.enc))), (23, .t (.int .i64 x2)), (24, .fadr (Node.enc y5)), (25, .agg ((Node.enc y5).map .t))], [(8, ((Node.enc y4).map .t)), (9, ((Node.enc y5).map .t))], []⟩ ?_
          refine Wp.srg [] [] ?_
          refine Runs.batch 3 kr ?_
          obtain ⟨r6, e_r6, h⟩ := bind_some h
          refine Runs.callK false 29 86 [] [.agg ((Node.enc y4).map .t), .agg ((Node.enc y5).map .t)] [.agg ((Node.enc y4).map .t), .agg ((Node.enc y5).map .t)] (.one (.t (.bool r6))) [] rfl rfl kr kr kr kr kr (impl_SameBut_1_ok u y4 y5 r6 e_r6) kr ?_
          refine Runs.alln ?_
          refine Wp.fg ⟨[(1, .t (.sl 12 (p1.map Node.enc))), (2, .clo 86 []), (6, .t (.bool false)), (7, .t (.int .i64 x2)), (8, .obj 8 0), (9, .obj 9 0), (15, .t (.sl 12 (p0.map Node.enc))), (16, .t (.int .i64 ((p0.length : Int)))), (17, .t (.int .i64 x2)), (18, .t (.bool (decide (x2 < ((p0.length : Int)))))), (19, .t (.int .i64 x2)), (20, .fadr (Node.enc y4)), (21, .agg ((Node.enc y4).map .t)), (22, .t (.sl 12 (p1.map Node.enc))), (23, .t (.int .i64 x2)), (24, .fadr (Node.enc y5)), (25, .agg ((Node.enc y5).map .t)), (26, .clo 86 []), (27, .agg ((Node.enc y4).map .t)), (28, .agg ((Node.enc y5).map .t)), (29, .t (.bool r6)), (30, .t (.bool (!r6)))], [(8, ((Node.enc y4).map .t)), (9, ((Node.enc y5).map .t))], []⟩ ?_
          refine Wp.cond2 (b := !r6) kr (fun hc => ?_) (fun hc => ?_)
          · have h := cond_t h hc
            refine Wp.srg [] [] ?_
            refine Runs.alln ?_
            refine Wp.fg ⟨[(1, .t (.sl 12 (p1.map Node.enc))), (2, .clo 86 []), (6, .t (.bool false)), (7, .t (.int .i64 x2)), (8, .obj 8 0), (9, .obj 9 0), (15, .t (.sl 12 (p0.map Node.enc))), (16, .t (.int .i64 ((p0.length : Int)))), (17, .t (.int .i64 x2)), (18, .t (.bool (decide (x2 < ((p0.length : Int)))))), (19, .t (.int .i64 x2)), (20, .fadr (Node.enc y4)), (21, .agg ((Node.enc y4).map .t)), (22, .t (.sl 12 (p1.map Node.enc))), (23, .t (.int .i64 x2)), (24, .fadr (Node.enc y5)), (25, .agg ((Node.enc y5).map .t)), (26, .clo 86 []), (27, .agg ((Node.enc y4).map .t)), (28, .agg ((Node.enc y5).map .t)), (29, .t (.bool r6)), (30, .t (.bool (!r6)))], [(8, ((Node.enc y4).map .t)), (9, ((Node.enc y5).map .t))], []⟩ ?_
            refine Wp.ret ?_
            refine blkR ?_
            refine thenR ?_
            refine thenR ?_
            refine blkR ?_
            refine thenR ?_
            have hr := Option.some.inj h
            subst hr
            exact RetK [.t (.bool false)] (.one (.t (.bool false))) [] kr kr (.refl _) .nil
          · have h := cond_f h hc
            refine Wp.skip ?_
            refine blkN ?_
            refine thenN ?_
            refine Wp.rg [] [] ?_
            refine Runs.alln ?_
            exact ⟨(p1, p0, bAdd .i64 x2 1), h, Le.of (mo := []) (mr := []) kr kr kr kr⟩
        · have h := cond_f h hc
          refine Wp.exit ?_
          refine thenE ?_
          refine thenE ?_
          refine blkE ?_
          refine thenN ?_
          exact ⟨(), h, Le.of (mo := []) (mr := []) kr kr kr kr⟩
theorem impl_sameDisk_1_ok (u : Nat) (p0 : Put) (p1 : Put) (r : Bool) (h : impl_sameDisk_1 u p0 p1 = some r) : CallOK Try.prog 127 [.agg [.t (.int .i64 p0.fWhat), .t (.int .i64 p0.fAt), .t (.sl 1 (p0.fB.map (eInt .u8))), .t (.int .i64 p0.fR.fGen), .t (.int .i64 p0.fR.fSlot), .t (.int .i64 p0.fR.fLen)], .agg [.t (.int .i64 p1.fWhat), .t (.int .i64 p1.fAt), .t (.sl 1 (p1.fB.map (eInt .u8))), .t (.int .i64 p1.fR.fGen), .t (.int .i64 p1.fR.fSlot), .t (.int .i64 p1.fR.fLen)]] (.one (.t (.bool r))) [] := by
  unfold impl_sameDisk_1 at h
  refine CallOK.of_bodyK (fn := Try.f127) (m := false) [.agg ((Put.enc p0).map .t), .agg ((Put.enc p1).map .t)] kr rfl kr kr kr kr kr ?_
  refine Wp.srg [] [] ?_
  refine Runs.alln ?_
  refine Wp.fg ⟨[(2, .obj 2 0), (3, .obj 3 0), (4, .t (.bool false))], [(2, ((Put.enc p0).map .t)), (3, ((Put.enc p1).map .t))], []⟩ ?_
  refine Wp.srg [] [] ?_
  refine Runs.batch 6 kr ?_
  rcases tf (p0.fWhat == p1.fWhat) with hc | hc
  · have h := cond_t h hc
    refine Runs.known 10 (v := true) kr hc ?_
    refine Runs.batch 7 kr ?_
    rcases tf (p0.fAt == p1.fAt) with hc | hc
    · have h := cond_t h hc
      refine Runs.known 17 (v := true) kr hc ?_
      refine Runs.batch 4 kr ?_
      obtain ⟨r1, e_r1, h⟩ := bind_some h
      refine Runs.callK false 22 89 [] [.t (.sl 1 (p0.fB.map (eInt .u8))), .t (.sl 1 (p1.fB.map (eInt .u8)))] [.one (.t (.sl 1 (p0.fB.map (eInt .u8)))), .one (.t (.sl 1 (p1.fB.map (eInt .u8))))] (.one (.t (.bool r1))) [] rfl rfl kr kr kr kr kr (impl_SameBytes_ok u p0.fB p1.fB r1 e_r1) kr ?_
      refine Runs.batch 2 kr ?_
      rcases tf (r1) with hc | hc
      · have h := cond_t h hc
        refine Runs.known 24 (v := true) kr hc ?_
        refine Runs.alln ?_
        refine Wp.fg ⟨[(4, .t (.bool ([p0.fR.fGen, p0.fR.fSlot, p0.fR.fLen] == [p1.fR.fGen, p1.fR.fSlot, p1.fR.fLen])))], [], []⟩ ?_
        refine Wp.ret ?_
        have hr := Option.some.inj h
        subst hr
        exact RetK [.t (.bool ([p0.fR.fGen, p0.fR.fSlot, p0.fR.fLen] == [p1.fR.fGen, p1.fR.fSlot, p1.fR.fLen]))] (.one (.t (.bool ([p0.fR.fGen, p0.fR.fSlot, p0.fR.fLen] == [p1.fR.fGen, p1.fR.fSlot, p1.fR.fLen])))) [] kr kr (.refl _) .nil
      · have h := cond_f h hc
        refine Runs.known 24 (v := false) kr hc ?_
        refine Runs.alln ?_
        refine Wp.fg ⟨[(4, .t (.bool false))], [], []⟩ ?_
        refine Wp.ret ?_
        have hr := Option.some.inj h
        subst hr
        exact RetK [.t (.bool false)] (.one (.t (.bool false))) [] kr kr (.refl _) .nil
    · have h := cond_f h hc
      refine Runs.known 17 (v := false) kr hc ?_
      refine Runs.alln ?_
      refine Wp.fg ⟨[(4, .t (.bool false))], [], []⟩ ?_
      refine Wp.ret ?_
      have hr := Option.some.inj h
      subst hr
      exact RetK [.t (.bool false)] (.one (.t (.bool false))) [] kr kr (.refl _) .nil
  · have h := cond_f h hc
    refine Runs.known 10 (v := false) kr hc ?_
    refine Runs.alln ?_
    refine Wp.fg ⟨[(4, .t (.bool false))], [], []⟩ ?_
    refine Wp.ret ?_
    have hr := Option.some.inj h
    subst hr
    exact RetK [.t (.bool false)] (.one (.t (.bool false))) [] kr kr (.refl _) .nil
theorem slices_EqualFunc___impl_Put___impl_Put_impl_Put_impl_Put__impl_sameDisk_1_ok (u : Nat) (p0 : List Put) (p1 : List Put) (r : Bool) (h : slices_EqualFunc___impl_Put___impl_Put_impl_Put_impl_Put__impl_sameDisk_1 u p0 p1 = some r) : CallOK Try.prog 128 [.one (.t (.sl 6 (p0.map Put.enc))), .one (.t (.sl 6 (p1.map Put.enc))), .clo 127 []] (.one (.t (.bool r))) [] := by
  unfold slices_EqualFunc___impl_Put___impl_Put_impl_Put_impl_Put__impl_sameDisk_1 at h
  refine CallOK.of_bodyK (fn := Try.f128) (m := false) [.t (.sl 6 (p0.map Put.enc)), .t (.sl 6 (p1.map Put.enc)), .clo 127 []] kr rfl kr kr kr kr kr ?_
  refine Wp.srg [] [] ?_
  refine Runs.alln ?_
  refine Wp.fg ⟨[(0, .t (.sl 6 (p0.map Put.enc))), (1, .t (.sl 6 (p1.map Put.enc))), (2, .clo 127 []), (6, .t (.bool false))], [], []⟩ ?_
  refine Wp.seq ?_
  refine Wp.srg [] [] ?_
  refine Runs.batch 1 kr ?_
  refine Runs.lenT (y := .t (.sl 6 (p0.map Put.enc))) (e := 158) Put.enc p0 6 rfl rfl rfl kr kr kr kr kr ?_
  refine Runs.batch 1 kr ?_
  refine Runs.lenT (y := .t (.sl 6 (p1.map Put.enc))) (e := 158) Put.enc p1 6 rfl rfl rfl kr kr kr kr kr ?_
  refine Runs.alln ?_
  refine Wp.fg ⟨[(0, .t (.sl 6 (p0.map Put.enc))), (1, .t (.sl 6 (p1.map Put.enc))), (2, .clo 127 []), (6, .t (.bool false)), (14, .t (.bool (((p0.length : Int)) != ((p1.length : Int)))))], [], []⟩ ?_
  refine Wp.cond2 (b := ((p0.length : Int)) != ((p1.length : Int))) kr (fun hc => ?_) (fun hc => ?_)
  · have h := cond_t h hc
    refine Wp.srg [] [] ?_
    refine Runs.alln ?_
    refine Wp.fg ⟨[(0, .t (.sl 6 (p0.map Put.enc))), (1, .t (.sl 6 (p1.map Put.enc))), (2, .clo 127 []), (6, .t (.bool false))], [], []⟩ ?_
    refine Wp.ret ?_
    refine thenR ?_
    have hr := Option.some.inj h
    subst hr
    exact RetK [.t (.bool false)] (.one (.t (.bool false))) [] kr kr (.refl _) .nil
  · have h := cond_f h hc
    refine Wp.skip ?_
    refine thenN ?_
    refine Wp.seqJ (α := Unit) (fun a => ⟨[(6, .t (.bool false))], [], []⟩) (fun a => slices_EqualFunc___impl_Put___impl_Put_impl_Put_impl_Put__impl_sameDisk_1_j1 u = some r) ?_ ?_
    · rintro ⟨⟩ h
      change slices_EqualFunc___impl_Put___impl_Put_impl_Put_impl_Put__impl_sameDisk_1_j1 u = some r at h
      unfold slices_EqualFunc___impl_Put___impl_Put_impl_Put_impl_Put__impl_sameDisk_1_j1 at h
      refine Wp.srg [] [] ?_
      refine Runs.alln ?_
      refine Wp.fg ⟨[(6, .t (.bool true))], [], []⟩ ?_
      refine Wp.ret ?_
      have hr := Option.some.inj h
      subst hr
      exact RetK [.t (.bool true)] (.one (.t (.bool true))) [] kr kr (.refl _) .nil
    · refine Wp.srg [] [] ?_
      refine Runs.batch 1 kr ?_
      refine Runs.lenT (y := .t (.sl 6 (p0.map Put.enc))) (e := 158) Put.enc p0 6 rfl rfl rfl kr kr kr kr kr ?_
      refine Runs.alln ?_
      refine Wp.fg ⟨[(1, .t (.sl 6 (p1.map Put.enc))), (2, .clo 127 []), (6, .t (.bool false)), (15, .t (.sl 6 (p0.map Put.enc))), (16, .t (.int .i64 ((p0.length : Int)))), (17, .t (.int .i64 0))], [], []⟩ ?_
      refine Wp.block ?_
      refine Wp.loopF (α := (List Put) × (List Put) × Int) (fun a => ⟨[(1, .t (.sl 6 (a.1.map Put.enc))), (2, .clo 127 []), (6, .t (.bool false)), (15, .t (.sl 6 (a.2.1.map Put.enc))), (16, .t (.int .i64 ((a.2.1.length : Int)))), (17, .t (.int .i64 a.2.2))], [], []⟩) (fun k_slices_EqualFunc___impl_Put___impl_Put_impl_Put_impl_Put__impl_sameDisk_1_l2 a => slices_EqualFunc___impl_Put___impl_Put_impl_Put_impl_Put__impl_sameDisk_1_l2 u k_slices_EqualFunc___impl_Put___impl_Put_impl_Put_impl_Put__impl_sameDisk_1_l2 a.1 a.2.1 a.2.2 = some r) ?_ ?_ u (p1, p0, 0) h (Le.of (mo := []) (mr := []) kr kr kr kr)
      · intro a h; unfold slices_EqualFunc___impl_Put___impl_Put_impl_Put_impl_Put__impl_sameDisk_1_l2 at h; cases h
      · rintro k_slices_EqualFunc___impl_Put___impl_Put_impl_Put_impl_Put__impl_sameDisk_1_l2 ⟨p1, p0, x2⟩ h
        change slices_EqualFunc___impl_Put___impl_Put_impl_Put_impl_Put__impl_sameDisk_1_l2 u (k_slices_EqualFunc___impl_Put___impl_Put_impl_Put_impl_Put__impl_sameDisk_1_l2 + 1) p1 p0 x2 = some r at h
        rw [slices_EqualFunc___impl_Put___impl_Put_impl_Put_impl_Put__impl_sameDisk_1_l2] at h
        refine Wp.srg [] [] ?_
        refine Runs.alln ?_
        refine Wp.fg ⟨[(1, .t (.sl 6 (p1.map Put.enc))), (2, .clo 127 []), (6, .t (.bool false)), (15, .t (.sl 6 (p0.map Put.enc))), (16, .t (.int .i64 ((p0.length : Int)))), (17, .t (.int .i64 x2)), (18, .t (.bool (decide (x2 < ((p0.length : Int))))))], [], []⟩ ?_
        refine Wp.seq ?_
        refine Wp.cond2 (b := decide (x2 < ((p0.length : Int)))) kr (fun hc => ?_) (fun hc => ?_)
        · have h := cond_t h hc
          refine Wp.skip ?_
          refine thenN ?_
          refine Wp.seq ?_
          refine Wp.block ?_
          refine Wp.srg [] [] ?_
          refine Runs.batch 1 kr ?_
          obtain ⟨y4, e_y4, h⟩ := bind_some h
          refine Runs.idxT (e := 158) (kk := .i64) (sz := 6) Put.enc p0 x2 rfl kr kr kr kr kr kr e_y4 ?_
          refine Runs.alln ?_
          refine Wp.fg ⟨[(1, .t (.sl 6 (p1.map Put.enc))), (2, .clo 127 []), (6, .t (.bool false)), (7, .t (.int .i64 x2)), (8, .obj 8 0), (15, .t (.sl 6 (p0.map Put.enc))), (16, .t (.int .i64 ((p0.length : Int)))), (17, .t (.int .i64 x2)), (18, .t (.bool (decide (x2 < ((p0.length : Int)))))), (19, .t (.int .i64 x2)), (20, .fadr (Put.enc y4)), (21, .agg ((Put.enc y4).map .t))], [(8, ((Put.enc y4).map .t))], []⟩ ?_
          refine Wp.srg [] [] ?_
          refine Runs.batch 2 kr ?_
          obtain ⟨y5, e_y5, h⟩ := bind_some h
          refine Runs.idxT (e := 158) (kk := .i64) (sz := 6) Put.enc p1 x2 rfl kr kr kr kr kr kr e_y5 ?_
          refine Runs.alln ?_
          refine Wp.fg ⟨[(1, .t (.sl 6 (p1.map Put.enc))), (2, .clo 127 []), (6, .t (.bool false)), (7, .t (.int .i64 x2)), (8, .obj 8 0), (9, .obj 9 0), (15, .t (.sl 6 (p0.map Put.enc))), (16, .t (.int .i64 ((p0.length : Int)))), (17, .t (.int .i64 x2)), (18, .t (.bool (decide (x2 < ((p0.length : Int)))))), (19, .t (.int .i64 x2)), (20, .fadr (Put.enc y4)), (21, .agg ((Put.enc y4).map .t)), (22, .t (.sl 6 (p1.map Put.enc))), (23, .t (.int .i64 x2)), (24, .fadr (Put.enc y5)), (25, .agg ((Put.enc y5).map .t))], [(8, ((Put.enc y4).map .t)), (9, ((Put.enc y5).map .t))], []⟩ ?_
          refine Wp.srg [] [] ?_
          refine Runs.batch 3 kr ?_
          obtain ⟨r6, e_r6, h⟩ := bind_some h
          refine Runs.callK false 29 127 [] [.agg ((Put.enc y4).map .t), .agg ((Put.enc y5).map .t)] [.agg ((Put.enc y4).map .t), .agg ((Put.enc y5).map .t)] (.one (.t (.bool r6))) [] rfl rfl kr kr kr kr kr (impl_sameDisk_1_ok u y4 y5 r6 e_r6) kr ?_
          refine Runs.alln ?_
          refine Wp.fg ⟨[(1, .t (.sl 6 (p1.map Put.enc))), (2, .clo 127 []), (6, .t (.bool false)), (7, .t (.int .i64 x2)), (8, .obj 8 0), (9, .obj 9 0), (15, .t (.sl 6 (p0.map Put.enc))), (16, .t (.int .i64 ((p0.length : Int)))), (17, .t (.int .i64 x2)), (18, .t (.bool (decide (x2 < ((p0.length : Int)))))), (19, .t (.int .i64 x2)), (20, .fadr (Put.enc y4)), (21, .agg ((Put.enc y4).map .t)), (22, .t (.sl 6 (p1.map Put.enc))), (23, .t (.int .i64 x2)), (24, .fadr (Put.enc y5)), (25, .agg ((Put.enc y5).map .t)), (26, .clo 127 []), (27, .agg ((Put.enc y4).map .t)), (28, .agg ((Put.enc y5).map .t)), (29, .t (.bool r6)), (30, .t (.bool (!r6)))], [(8, ((Put.enc y4).map .t)), (9, ((Put.enc y5).map .t))], []⟩ ?_
          refine Wp.cond2 (b := !r6) kr (fun hc => ?_) (fun hc => ?_)
          · have h := cond_t h hc
            refine Wp.srg [] [] ?_
            refine Runs.alln ?_
            refine Wp.fg ⟨[(1, .t (.sl 6 (p1.map Put.enc))), (2, .clo 127 []), (6, .t (.bool false)), (7, .t (.int .i64 x2)), (8, .obj 8 0), (9, .obj 9 0), (15, .t (.sl 6 (p0.map Put.enc))), (16, .t (.int .i64 ((p0.length : Int)))), (17, .t (.int .i64 x2)), (18, .t (.bool (decide (x2 < ((p0.length : Int)))))), (19, .t (.int .i64 x2)), (20, .fadr (Put.enc y4)), (21, .agg ((Put.enc y4).map .t)), (22, .t (.sl 6 (p1.map Put.enc))), (23, .t (.int .i64 x2)), (24, .fadr (Put.enc y5)), (25, .agg ((Put.enc y5).map .t)), (26, .clo 127 []), (27, .agg ((Put.enc y4).map .t)), (28, .agg ((Put.enc y5).map .t)), (29, .t (.bool r6)), (30, .t (.bool (!r6)))], [(8, ((Put.enc y4).map .t)), (9, ((Put.enc y5).map .t))], []⟩ ?_
            refine Wp.ret ?_
            refine blkR ?_
            refine thenR ?_
            refine thenR ?_
            refine blkR ?_
            refine thenR ?_
            have hr := Option.some.inj h
            subst hr
            exact RetK [.t (.bool false)] (.one (.t (.bool false))) [] kr kr (.refl _) .nil
          · have h := cond_f h hc
            refine Wp.skip ?_
            refine blkN ?_
            refine thenN ?_
            refine Wp.rg [] [] ?_
            refine Runs.alln ?_
            exact ⟨(p1, p0, bAdd .i64 x2 1), h, Le.of (mo := []) (mr := []) kr kr kr kr⟩
        · have h := cond_f h hc
          refine Wp.exit ?_
          refine thenE ?_
          refine thenE ?_
          refine blkE ?_
          refine thenN ?_
          exact ⟨(), h, Le.of (mo := []) (mr := []) kr kr kr kr⟩
theorem impl_sameDisk_ok (u : Nat) (p0 : Disk) (p1 : Disk) (r : Bool) (h : impl_sameDisk u p0 p1 = some r) : CallOK Try.prog 94 [.agg [.t (.sl 1 (p0.fA.map (eInt .u8))), .t (.sl 1 (p0.fB.map (eInt .u8))), .t (.int .i64 p0.fR.fGen), .t (.int .i64 p0.fR.fSlot), .t (.int .i64 p0.fR.fLen), .t (.sl 6 (p0.fP.map Put.enc))], .agg [.t (.sl 1 (p1.fA.map (eInt .u8))), .t (.sl 1 (p1.fB.map (eInt .u8))), .t (.int .i64 p1.fR.fGen), .t (.int .i64 p1.fR.fSlot), .t (.int .i64 p1.fR.fLen), .t (.sl 6 (p1.fP.map Put.enc))]] (.one (.t (.bool r))) [] := by
  unfold impl_sameDisk at h
  refine CallOK.of_bodyK (fn := Try.f94) (m := false) [.agg ((Disk.enc p0).map .t), .agg ((Disk.enc p1).map .t)] kr rfl kr kr kr kr kr ?_
  refine Wp.srg [] [] ?_
  refine Runs.alln ?_
  refine Wp.fg ⟨[(2, .obj 2 0), (3, .obj 3 0), (4, .t (.bool false))], [(2, ((Disk.enc p0).map .t)), (3, ((Disk.enc p1).map .t))], []⟩ ?_
  refine Wp.srg [] [] ?_
  refine Runs.alln ?_
  refine Wp.fg ⟨[(2, .obj 2 0), (3, .obj 3 0), (4, .t (.bool false)), (5, .clo 127 [])], [(2, ((Disk.enc p0).map .t)), (3, ((Disk.enc p1).map .t))], []⟩ ?_
  refine Wp.srg [] [] ?_
  refine Runs.batch 4 kr ?_
  obtain ⟨r1, e_r1, h⟩ := bind_some h
  refine Runs.callK false 10 89 [] [.t (.sl 1 (p0.fA.map (eInt .u8))), .t (.sl 1 (p1.fA.map (eInt .u8)))] [.one (.t (.sl 1 (p0.fA.map (eInt .u8)))), .one (.t (.sl 1 (p1.fA.map (eInt .u8))))] (.one (.t (.bool r1))) [] rfl rfl kr kr kr kr kr (impl_SameBytes_ok u p0.fA p1.fA r1 e_r1) kr ?_
  refine Runs.batch 1 kr ?_
  rcases tf (r1) with hc | hc
  · have h := cond_t h hc
    refine Runs.known 11 (v := true) kr hc ?_
    refine Runs.batch 4 kr ?_
    obtain ⟨r2, e_r2, h⟩ := bind_some h
    refine Runs.callK false 16 89 [] [.t (.sl 1 (p0.fB.map (eInt .u8))), .t (.sl 1 (p1.fB.map (eInt .u8)))] [.one (.t (.sl 1 (p0.fB.map (eInt .u8)))), .one (.t (.sl 1 (p1.fB.map (eInt .u8))))] (.one (.t (.bool r2))) [] rfl rfl kr kr kr kr kr (impl_SameBytes_ok u p0.fB p1.fB r2 e_r2) kr ?_
    refine Runs.batch 2 kr ?_
    rcases tf (r2) with hc | hc
    · have h := cond_t h hc
      refine Runs.known 18 (v := true) kr hc ?_
      refine Runs.batch 7 kr ?_
      rcases tf ([p0.fR.fGen, p0.fR.fSlot, p0.fR.fLen] == [p1.fR.fGen, p1.fR.fSlot, p1.fR.fLen]) with hc | hc
      · have h := cond_t h hc
        refine Runs.known 25 (v := true) kr hc ?_
        refine Runs.batch 5 kr ?_
        obtain ⟨r3, e_r3, h⟩ := bind_some h
        refine Runs.callK false 31 128 [] [.t (.sl 6 (p0.fP.map Put.enc)), .t (.sl 6 (p1.fP.map Put.enc)), .clo 127 []] [.one (.t (.sl 6 (p0.fP.map Put.enc))), .one (.t (.sl 6 (p1.fP.map Put.enc))), .clo 127 []] (.one (.t (.bool r3))) [] rfl rfl kr kr kr kr kr (slices_EqualFunc___impl_Put___impl_Put_impl_Put_impl_Put__impl_sameDisk_1_ok u p0.fP p1.fP r3 e_r3) kr ?_
        refine Runs.alln ?_
        refine Wp.fg ⟨[(4, .t (.bool r3))], [], []⟩ ?_
        refine Wp.ret ?_
        have hr := Option.some.inj h
        subst hr
        exact RetK [.t (.bool r3)] (.one (.t (.bool r3))) [] kr kr (.refl _) .nil
      · have h := cond_f h hc
        refine Runs.known 25 (v := false) kr hc ?_
        refine Runs.alln ?_
        refine Wp.fg ⟨[(4, .t (.bool false))], [], []⟩ ?_
        refine Wp.ret ?_
        have hr := Option.some.inj h
        subst hr
        exact RetK [.t (.bool false)] (.one (.t (.bool false))) [] kr kr (.refl _) .nil
    · have h := cond_f h hc
      refine Runs.known 18 (v := false) kr hc ?_
      refine Runs.alln ?_
      refine Wp.fg ⟨[(4, .t (.bool false))], [], []⟩ ?_
      refine Wp.ret ?_
      have hr := Option.some.inj h
      subst hr
      exact RetK [.t (.bool false)] (.one (.t (.bool false))) [] kr kr (.refl _) .nil
  · have h := cond_f h hc
    refine Runs.known 11 (v := false) kr hc ?_
    refine Runs.alln ?_
    refine Wp.fg ⟨[(4, .t (.bool false))], [], []⟩ ?_
    refine Wp.ret ?_
    have hr := Option.some.inj h
    subst hr
    exact RetK [.t (.bool false)] (.one (.t (.bool false))) [] kr kr (.refl _) .nil
theorem slices_EqualFunc___impl_Disk___impl_Disk_impl_Disk_impl_Disk__impl_sameDisk_ok (u : Nat) (p0 : List Disk) (p1 : List Disk) (r : Bool) (h : slices_EqualFunc___impl_Disk___impl_Disk_impl_Disk_impl_Disk__impl_sameDisk u p0 p1 = some r) : CallOK Try.prog 93 [.one (.t (.sl 6 (p0.map Disk.enc))), .one (.t (.sl 6 (p1.map Disk.enc))), .clo 94 []] (.one (.t (.bool r))) [] := by
  unfold slices_EqualFunc___impl_Disk___impl_Disk_impl_Disk_impl_Disk__impl_sameDisk at h
  refine CallOK.of_bodyK (fn := Try.f93) (m := false) [.t (.sl 6 (p0.map Disk.enc)), .t (.sl 6 (p1.map Disk.enc)), .clo 94 []] kr rfl kr kr kr kr kr ?_
  refine Wp.srg [] [] ?_
  refine Runs.alln ?_
  refine Wp.fg ⟨[(0, .t (.sl 6 (p0.map Disk.enc))), (1, .t (.sl 6 (p1.map Disk.enc))), (2, .clo 94 []), (6, .t (.bool false))], [], []⟩ ?_
  refine Wp.seq ?_
  refine Wp.srg [] [] ?_
  refine Runs.batch 1 kr ?_
  refine Runs.lenT (y := .t (.sl 6 (p0.map Disk.enc))) (e := 109) Disk.enc p0 6 rfl rfl rfl kr kr kr kr kr ?_
  refine Runs.batch 1 kr ?_
  refine Runs.lenT (y := .t (.sl 6 (p1.map Disk.enc))) (e := 109) Disk.enc p1 6 rfl rfl rfl kr kr kr kr kr ?_
  refine Runs.alln ?_
  refine Wp.fg ⟨[(0, .t (.sl 6 (p0.map Disk.enc))), (1, .t (.sl 6 (p1.map Disk.enc))), (2, .clo 94 []), (6, .t (.bool false)), (14, .t (.bool (((p0.length : Int)) != ((p1.length : Int)))))], [], []⟩ ?_
  refine Wp.cond2 (b := ((p0.length : Int)) != ((p1.length : Int))) kr (fun hc => ?_) (fun hc => ?_)
  · have h := cond_t h hc
    refine Wp.srg [] [] ?_
    refine Runs.alln ?_
    refine Wp.fg ⟨[(0, .t (.sl 6 (p0.map Disk.enc))), (1, .t (.sl 6 (p1.map Disk.enc))), (2, .clo 94 []), (6, .t (.bool false))], [], []⟩ ?_
    refine Wp.ret ?_
    refine thenR ?_
    have hr := Option.some.inj h
    subst hr
    exact RetK [.t (.bool false)] (.one (.t (.bool false))) [] kr kr (.refl _) .nil
  · have h := cond_f h hc
    refine Wp.skip ?_
    refine thenN ?_
    refine Wp.seqJ (α := Unit) (fun a => ⟨[(6, .t (.bool false))], [], []⟩) (fun a => slices_EqualFunc___impl_Disk___impl_Disk_impl_Disk_impl_Disk__impl_sameDisk_j1 u = some r) ?_ ?_
    · rintro ⟨⟩ h
      change slices_EqualFunc___impl_Disk___impl_Disk_impl_Disk_impl_Disk__impl_sameDisk_j1 u = some r at h
      unfold slices_EqualFunc___impl_Disk___impl_Disk_impl_Disk_impl_Disk__impl_sameDisk_j1 at h
      refine Wp.srg [] [] ?_
      refine Runs.alln ?_
      refine Wp.fg ⟨[(6, .t (.bool true))], [], []⟩ ?_
      refine Wp.ret ?_
      have hr := Option.some.inj h
      subst hr
      exact RetK [.t (.bool true)] (.one (.t (.bool true))) [] kr kr (.refl _) .nil
    · refine Wp.srg [] [] ?_
      refine Runs.batch 1 kr ?_
      refine Runs.lenT (y := .t (.sl 6 (p0.map Disk.enc))) (e := 109) Disk.enc p0 6 rfl rfl rfl kr kr kr kr kr ?_
      refine Runs.alln ?_
      refine Wp.fg ⟨[(1, .t (.sl 6 (p1.map Disk.enc))), (2, .clo 94 []), (6, .t (.bool false)), (15, .t (.sl 6 (p0.map Disk.enc))), (16, .t (.int .i64 ((p0.length : Int)))), (17, .t (.int .i64 0))], [], []⟩ ?_
      refine Wp.block ?_
      refine Wp.loopF (α := (List Disk) × (List Disk) × Int) (fun a => ⟨[(1, .t (.sl 6 (a.1.map Disk.enc))), (2, .clo 94 []), (6, .t (.bool false)), (15, .t (.sl 6 (a.2.1.map Disk.enc))), (16, .t (.int .i64 ((a.2.1.length : Int)))), (17, .t (.int .i64 a.2.2))], [], []⟩) (fun k_slices_EqualFunc___impl_Disk___impl_Disk_impl_Disk_impl_Disk__impl_sameDisk_l2 a => slices_EqualFunc___impl_Disk___impl_Disk_impl_Disk_impl_Disk__impl_sameDisk_l2 u k_slices_EqualFunc___impl_Disk___impl_Disk_impl_Disk_impl_Disk__impl_sameDisk_l2 a.1 a.2.1 a.2.2 = some r) ?_ ?_ u (p1, p0, 0) h (Le.of (mo := []) (mr := []) kr kr kr kr)
      · intro a h; unfold slices_EqualFunc___impl_Disk___impl_Disk_impl_Disk_impl_Disk__impl_sameDisk_l2 at h; cases h
      · rintro k_slices_EqualFunc___impl_Disk___impl_Disk_impl_Disk_impl_Disk__impl_sameDisk_l2 ⟨p1, p0, x2⟩ h
        change slices_EqualFunc___impl_Disk___impl_Disk_impl_Disk_impl_Disk__impl_sameDisk_l2 u (k_slices_EqualFunc___impl_Disk___impl_Disk_impl_Disk_impl_Disk__impl_sameDisk_l2 + 1) p1 p0 x2 = some r at h
        rw [slices_EqualFunc___impl_Disk___impl_Disk_impl_Disk_impl_Disk__impl_sameDisk_l2] at h
        refine Wp.srg [] [] ?_
        refine Runs.alln ?_
        refine Wp.fg ⟨[(1, .t (.sl 6 (p1.map Disk.enc))), (2, .clo 94 []), (6, .t (.bool false)), (15, .t (.sl 6 (p0.map Disk.enc))), (16, .t (.int .i64 ((p0.length : Int)))), (17, .t (.int .i64 x2)), (18, .t (.bool (decide (x2 < ((p0.length : Int))))))], [], []⟩ ?_
        refine Wp.seq ?_
        refine Wp.cond2 (b := decide (x2 < ((p0.length : Int)))) kr (fun hc => ?_) (fun hc => ?_)
        · have h := cond_t h hc
          refine Wp.skip ?_
          refine thenN ?_
          refine Wp.seq ?_
          refine Wp.block ?_
          refine Wp.srg [] [] ?_
          refine Runs.batch 1 kr ?_
          obtain ⟨y4, e_y4, h⟩ := bind_some h
          refine Runs.idxT (e := 109) (kk := .i64) (sz := 6) Disk.enc p0 x2 rfl kr kr kr kr kr kr e_y4 ?_
          refine Runs.alln ?_
          refine Wp.fg ⟨[(1, .t (.sl 6 (p1.map Disk.enc))), (2, .clo 94 []), (6, .t (.bool false)), (7, .t (.int .i64 x2)), (8, .obj 8 0), (15, .t (.sl 6 (p0.map Disk.enc))), (16, .t (.int .i64 ((p0.length : Int)))), (17, .t (.int .i64 x2)), (18, .t (.bool (decide (x2 < ((p0.length : Int)))))), (19, .t (.int .i64 x2)), (20, .fadr (Disk.enc y4)), (21, .agg ((Disk.enc y4).map .t))], [(8, ((Disk.enc y4).map .t))], []⟩ ?_
          refine Wp.srg [] [] ?_
          refine Runs.batch 2 kr ?_
          obtain ⟨y5, e_y5, h⟩ := bind_some h
          refine Runs.idxT (e := 109) (kk := .i64) (sz := 6) Disk.enc p1 x2 rfl kr kr kr kr kr kr e_y5 ?_
          refine Runs.alln ?_
          refine Wp.fg ⟨[(1, .t (.sl 6 (p1.map Disk.enc))), (2, .clo 94 []), (6, .t (.bool false)), (7, .t (.int .i64 x2)), (8, .obj 8 0), (9, .obj 9 0), (15, .t (.sl 6 (p0.map Disk.enc))), (16, .t (.int .i64 ((p0.length : Int)))), (17, .t (.int .i64 x2)), (18, .t (.bool (decide (x2 < ((p0.length : Int)))))), (19, .t (.int .i64 x2)), (20, .fadr (Disk.enc y4)), (21, .agg ((Disk.enc y4).map .t)), (22, .t (.sl 6 (p1.map Disk.enc))), (23, .t (.int .i64 x2)), (24, .fadr (Disk.enc y5)), (25, .agg ((Disk.enc y5).map .t))], [(8, ((Disk.enc y4).map .t)), (9, ((Disk.enc y5).map .t))], []⟩ ?_
          refine Wp.srg [] [] ?_
          refine Runs.batch 3 kr ?_
          obtain ⟨r6, e_r6, h⟩ := bind_some h
          refine Runs.callK false 29 94 [] [.agg ((Disk.enc y4).map .t), .agg ((Disk.enc y5).map .t)] [.agg ((Disk.enc y4).map .t), .agg ((Disk.enc y5).map .t)] (.one (.t (.bool r6))) [] rfl rfl kr kr kr kr kr (impl_sameDisk_ok u y4 y5 r6 e_r6) kr ?_
          refine Runs.alln ?_
          refine Wp.fg ⟨[(1, .t (.sl 6 (p1.map Disk.enc))), (2, .clo 94 []), (6, .t (.bool false)), (7, .t (.int .i64 x2)), (8, .obj 8 0), (9, .obj 9 0), (15, .t (.sl 6 (p0.map Disk.enc))), (16, .t (.int .i64 ((p0.length : Int)))), (17, .t (.int .i64 x2)), (18, .t (.bool (decide (x2 < ((p0.length : Int)))))), (19, .t (.int .i64 x2)), (20, .fadr (Disk.enc y4)), (21, .agg ((Disk.enc y4).map .t)), (22, .t (.sl 6 (p1.map Disk.enc))), (23, .t (.int .i64 x2)), (24, .fadr (Disk.enc y5)), (25, .agg ((Disk.enc y5).map .t)), (26, .clo 94 []), (27, .agg ((Disk.enc y4).map .t)), (28, .agg ((Disk.enc y5).map .t)), (29, .t (.bool r6)), (30, .t (.bool (!r6)))], [(8, ((Disk.enc y4).map .t)), (9, ((Disk.enc y5).map .t))], []⟩ ?_
          refine Wp.cond2 (b := !r6) kr (fun hc => ?_) (fun hc => ?_)
          · have h := cond_t h hc
            refine Wp.srg [] [] ?_
            refine Runs.alln ?_
            refine Wp.fg ⟨[(1, .t (.sl 6 (p1.map Disk.enc))), (2, .clo 94 []), (6, .t (.bool false)), (7, .t (.int .i64 x2)), (8, .obj 8 0), (9, .obj 9 0), (15, .t (.sl 6 (p0.map Disk.enc))), (16, .t (.int .i64 ((p0.length : Int)))), (17, .t (.int .i64 x2)), (18, .t (.bool (decide (x2 < ((p0.length : Int)))))), (19, .t (.int .i64 x2)), (20, .fadr (Disk.enc y4)), (21, .agg ((Disk.enc y4).map .t)), (22, .t (.sl 6 (p1.map Disk.enc))), (23, .t (.int .i64 x2)), (24, .fadr (Disk.enc y5)), (25, .agg ((Disk.enc y5).map .t)), (26, .clo 94 []), (27, .agg ((Disk.enc y4).map .t)), (28, .agg ((Disk.enc y5).map .t)), (29, .t (.bool r6)), (30, .t (.bool (!r6)))], [(8, ((Disk.enc y4).map .t)), (9, ((Disk.enc y5).map .t))], []⟩ ?_
            refine Wp.ret ?_
            refine blkR ?_
            refine thenR ?_
            refine thenR ?_
            refine blkR ?_
            refine thenR ?_
            have hr := Option.some.inj h
            subst hr
            exact RetK [.t (.bool false)] (.one (.t (.bool false))) [] kr kr (.refl _) .nil
          · have h := cond_f h hc
            refine Wp.skip ?_
            refine blkN ?_
            refine thenN ?_
            refine Wp.rg [] [] ?_
            refine Runs.alln ?_
            exact ⟨(p1, p0, bAdd .i64 x2 1), h, Le.of (mo := []) (mr := []) kr kr kr kr⟩
        · have h := cond_f h hc
          refine Wp.exit ?_
          refine thenE ?_
          refine thenE ?_
          refine blkE ?_
          refine thenN ?_
          exact ⟨(), h, Le.of (mo := []) (mr := []) kr kr kr kr⟩
theorem impl_samePacket_ok (u : Nat) (p0 : Packet) (p1 : Packet) (r : Bool) (h : impl_samePacket u p0 p1 = some r) : CallOK Try.prog 130 [.agg [.t (.int .i64 p0.fFrom), .t (.int .i64 p0.fTo), .t (.sl 1 (p0.fB.map (eInt .u8)))], .agg [.t (.int .i64 p1.fFrom), .t (.int .i64 p1.fTo), .t (.sl 1 (p1.fB.map (eInt .u8)))]] (.one (.t (.bool r))) [] := by
  unfold impl_samePacket at h
  refine CallOK.of_bodyK (fn := Try.f130) (m := false) [.agg ((Packet.enc p0).map .t), .agg ((Packet.enc p1).map .t)] kr rfl kr kr kr kr kr ?_
  refine Wp.srg [] [] ?_
  refine Runs.alln ?_
  refine Wp.fg ⟨[(2, .obj 2 0), (3, .obj 3 0), (4, .t (.bool false))], [(2, ((Packet.enc p0).map .t)), (3, ((Packet.enc p1).map .t))], []⟩ ?_
  refine Wp.srg [] [] ?_
  refine Runs.batch 6 kr ?_
  rcases tf (p0.fFrom == p1.fFrom) with hc | hc
  · have h := cond_t h hc
    refine Runs.known 10 (v := true) kr hc ?_
    refine Runs.batch 7 kr ?_
    rcases tf (p0.fTo == p1.fTo) with hc | hc
    · have h := cond_t h hc
      refine Runs.known 17 (v := true) kr hc ?_
      refine Runs.batch 4 kr ?_
      obtain ⟨r1, e_r1, h⟩ := bind_some h
      refine Runs.callK false 22 89 [] [.t (.sl 1 (p0.fB.map (eInt .u8))), .t (.sl 1 (p1.fB.map (eInt .u8)))] [.one (.t (.sl 1 (p0.fB.map (eInt .u8)))), .one (.t (.sl 1 (p1.fB.map (eInt .u8))))] (.one (.t (.bool r1))) [] rfl rfl kr kr kr kr kr (impl_SameBytes_ok u p0.fB p1.fB r1 e_r1) kr ?_
      refine Runs.alln ?_
      refine Wp.fg ⟨[(4, .t (.bool r1))], [], []⟩ ?_
      refine Wp.ret ?_
      have hr := Option.some.inj h
      subst hr
      exact RetK [.t (.bool r1)] (.one (.t (.bool r1))) [] kr kr (.refl _) .nil
    · have h := cond_f h hc
      refine Runs.known 17 (v := false) kr hc ?_
      refine Runs.alln ?_
      refine Wp.fg ⟨[(4, .t (.bool false))], [], []⟩ ?_
      refine Wp.ret ?_
      have hr := Option.some.inj h
      subst hr
      exact RetK [.t (.bool false)] (.one (.t (.bool false))) [] kr kr (.refl _) .nil
  · have h := cond_f h hc
    refine Runs.known 10 (v := false) kr hc ?_
    refine Runs.alln ?_
    refine Wp.fg ⟨[(4, .t (.bool false))], [], []⟩ ?_
    refine Wp.ret ?_
    have hr := Option.some.inj h
    subst hr
    exact RetK [.t (.bool false)] (.one (.t (.bool false))) [] kr kr (.refl _) .nil
theorem slices_EqualFunc___impl_Packet___impl_Packet_impl_Packet_impl_Packet__impl_samePacket_ok (u : Nat) (p0 : List Packet) (p1 : List Packet) (r : Bool) (h : slices_EqualFunc___impl_Packet___impl_Packet_impl_Packet_impl_Packet__impl_samePacket u p0 p1 = some r) : CallOK Try.prog 129 [.one (.t (.sl 3 (p0.map Packet.enc))), .one (.t (.sl 3 (p1.map Packet.enc))), .clo 130 []] (.one (.t (.bool r))) [] := by
  unfold slices_EqualFunc___impl_Packet___impl_Packet_impl_Packet_impl_Packet__impl_samePacket at h
  refine CallOK.of_bodyK (fn := Try.f129) (m := false) [.t (.sl 3 (p0.map Packet.enc)), .t (.sl 3 (p1.map Packet.enc)), .clo 130 []] kr rfl kr kr kr kr kr ?_
  refine Wp.srg [] [] ?_
  refine Runs.alln ?_
  refine Wp.fg ⟨[(0, .t (.sl 3 (p0.map Packet.enc))), (1, .t (.sl 3 (p1.map Packet.enc))), (2, .clo 130 []), (6, .t (.bool false))], [], []⟩ ?_
  refine Wp.seq ?_
  refine Wp.srg [] [] ?_
  refine Runs.batch 1 kr ?_
  refine Runs.lenT (y := .t (.sl 3 (p0.map Packet.enc))) (e := 146) Packet.enc p0 3 rfl rfl rfl kr kr kr kr kr ?_
  refine Runs.batch 1 kr ?_
  refine Runs.lenT (y := .t (.sl 3 (p1.map Packet.enc))) (e := 146) Packet.enc p1 3 rfl rfl rfl kr kr kr kr kr ?_
  refine Runs.alln ?_
  refine Wp.fg ⟨[(0, .t (.sl 3 (p0.map Packet.enc))), (1, .t (.sl 3 (p1.map Packet.enc))), (2, .clo 130 []), (6, .t (.bool false)), (14, .t (.bool (((p0.length : Int)) != ((p1.length : Int)))))], [], []⟩ ?_
  refine Wp.cond2 (b := ((p0.length : Int)) != ((p1.length : Int))) kr (fun hc => ?_) (fun hc => ?_)
  · have h := cond_t h hc
    refine Wp.srg [] [] ?_
    refine Runs.alln ?_
    refine Wp.fg ⟨[(0, .t (.sl 3 (p0.map Packet.enc))), (1, .t (.sl 3 (p1.map Packet.enc))), (2, .clo 130 []), (6, .t (.bool false))], [], []⟩ ?_
    refine Wp.ret ?_
    refine thenR ?_
    have hr := Option.some.inj h
    subst hr
    exact RetK [.t (.bool false)] (.one (.t (.bool false))) [] kr kr (.refl _) .nil
  · have h := cond_f h hc
    refine Wp.skip ?_
    refine thenN ?_
    refine Wp.seqJ (α := Unit) (fun a => ⟨[(6, .t (.bool false))], [], []⟩) (fun a => slices_EqualFunc___impl_Packet___impl_Packet_impl_Packet_impl_Packet__impl_samePacket_j1 u = some r) ?_ ?_
    · rintro ⟨⟩ h
      change slices_EqualFunc___impl_Packet___impl_Packet_impl_Packet_impl_Packet__impl_samePacket_j1 u = some r at h
      unfold slices_EqualFunc___impl_Packet___impl_Packet_impl_Packet_impl_Packet__impl_samePacket_j1 at h
      refine Wp.srg [] [] ?_
      refine Runs.alln ?_
      refine Wp.fg ⟨[(6, .t (.bool true))], [], []⟩ ?_
      refine Wp.ret ?_
      have hr := Option.some.inj h
      subst hr
      exact RetK [.t (.bool true)] (.one (.t (.bool true))) [] kr kr (.refl _) .nil
    · refine Wp.srg [] [] ?_
      refine Runs.batch 1 kr ?_
      refine Runs.lenT (y := .t (.sl 3 (p0.map Packet.enc))) (e := 146) Packet.enc p0 3 rfl rfl rfl kr kr kr kr kr ?_
      refine Runs.alln ?_
      refine Wp.fg ⟨[(1, .t (.sl 3 (p1.map Packet.enc))), (2, .clo 130 []), (6, .t (.bool false)), (15, .t (.sl 3 (p0.map Packet.enc))), (16, .t (.int .i64 ((p0.length : Int)))), (17, .t (.int .i64 0))], [], []⟩ ?_
      refine Wp.block ?_
      refine Wp.loopF (α := (List Packet) × (List Packet) × Int) (fun a => ⟨[(1, .t (.sl 3 (a.1.map Packet.enc))), (2, .clo 130 []), (6, .t (.bool false)), (15, .t (.sl 3 (a.2.1.map Packet.enc))), (16, .t (.int .i64 ((a.2.1.length : Int)))), (17, .t (.int .i64 a.2.2))], [], []⟩) (fun k_slices_EqualFunc___impl_Packet___impl_Packet_impl_Packet_impl_Packet__impl_samePacket_l2 a => slices_EqualFunc___impl_Packet___impl_Packet_impl_Packet_impl_Packet__impl_samePacket_l2 u k_slices_EqualFunc___impl_Packet___impl_Packet_impl_Packet_impl_Packet__impl_samePacket_l2 a.1 a.2.1 a.2.2 = some r) ?_ ?_ u (p1, p0, 0) h (Le.of (mo := []) (mr := []) kr kr kr kr)
      · intro a h; unfold slices_EqualFunc___impl_Packet___impl_Packet_impl_Packet_impl_Packet__impl_samePacket_l2 at h; cases h
      · rintro k_slices_EqualFunc___impl_Packet___impl_Packet_impl_Packet_impl_Packet__impl_samePacket_l2 ⟨p1, p0, x2⟩ h
        change slices_EqualFunc___impl_Packet___impl_Packet_impl_Packet_impl_Packet__impl_samePacket_l2 u (k_slices_EqualFunc___impl_Packet___impl_Packet_impl_Packet_impl_Packet__impl_samePacket_l2 + 1) p1 p0 x2 = some r at h
        rw [slices_EqualFunc___impl_Packet___impl_Packet_impl_Packet_impl_Packet__impl_samePacket_l2] at h
        refine Wp.srg [] [] ?_
        refine Runs.alln ?_
        refine Wp.fg ⟨[(1, .t (.sl 3 (p1.map Packet.enc))), (2, .clo 130 []), (6, .t (.bool false)), (15, .t (.sl 3 (p0.map Packet.enc))), (16, .t (.int .i64 ((p0.length : Int)))), (17, .t (.int .i64 x2)), (18, .t (.bool (decide (x2 < ((p0.length : Int))))))], [], []⟩ ?_
        refine Wp.seq ?_
        refine Wp.cond2 (b := decide (x2 < ((p0.length : Int)))) kr (fun hc => ?_) (fun hc => ?_)
        · have h := cond_t h hc
          refine Wp.skip ?_
          refine thenN ?_
          refine Wp.seq ?_
          refine Wp.block ?_
          refine Wp.srg [] [] ?_
          refine Runs.batch 1 kr ?_
          obtain ⟨y4, e_y4, h⟩ := bind_some h
          refine Runs.idxT (e := 146) (kk := .i64) (sz := 3) Packet.enc p0 x2 rfl kr kr kr kr kr kr e_y4 ?_
          refine Runs.alln ?_
          refine Wp.fg ⟨[(1, .t (.sl 3 (p1.map Packet.enc))), (2, .clo 130 []), (6, .t (.bool false)), (7, .t (.int .i64 x2)), (8, .obj 8 0), (15, .t (.sl 3 (p0.map Packet.enc))), (16, .t (.int .i64 ((p0.length : Int)))), (17, .t (.int .i64 x2)), (18, .t (.bool (decide (x2 < ((p0.length : Int)))))), (19, .t (.int .i64 x2)), (20, .fadr (Packet.enc y4)), (21, .agg ((Packet.enc y4).map .t))], [(8, ((Packet.enc y4).map .t))], []⟩ ?_
          refine Wp.srg [] [] ?_
          refine Runs.batch 2 kr ?_
          obtain ⟨y5, e_y5, h⟩ := bind_some h
          refine Runs.idxT (e := 146) (kk := .i64) (sz := 3) Packet.enc p1 x2 rfl kr kr kr kr kr kr e_y5 ?_
          refine Runs.alln ?_
          refine Wp.fg ⟨[(1, .t (.sl 3 (p1.map Packet.enc))), (2, .clo 130 []), (6, .t (.bool false)), (7, .t (.int .i64 x2)), (8, .obj 8 0), (9, .obj 9 0), (15, .t (.sl 3 (p0.map Packet.enc))), (16, .t (.int .i64 ((p0.length : Int)))), (17, .t (.int .i64 x2)), (18, .t (.bool (decide (x2 < ((p0.length : Int)))))), (19, .t (.int .i64 x2)), (20, .fadr (Packet.enc y4)), (21, .agg ((Packet.enc y4).map .t)), (22, .t (.sl 3 (p1.map Packet.enc))), (23, .t (.int .i64 x2)), (24, .fadr (Packet.enc y5)), (25, .agg ((Packet.enc y5).map .t))], [(8, ((Packet.enc y4).map .t)), (9, ((Packet.enc y5).map .t))], []⟩ ?_
          refine Wp.srg [] [] ?_
          refine Runs.batch 3 kr ?_
          obtain ⟨r6, e_r6, h⟩ := bind_some h
          refine Runs.callK false 29 130 [] [.agg ((Packet.enc y4).map .t), .agg ((Packet.enc y5).map .t)] [.agg ((Packet.enc y4).map .t), .agg ((Packet.enc y5).map .t)] (.one (.t (.bool r6))) [] rfl rfl kr kr kr kr kr (impl_samePacket_ok u y4 y5 r6 e_r6) kr ?_
          refine Runs.alln ?_
          refine Wp.fg ⟨[(1, .t (.sl 3 (p1.map Packet.enc))), (2, .clo 130 []), (6, .t (.bool false)), (7, .t (.int .i64 x2)), (8, .obj 8 0), (9, .obj 9 0), (15, .t (.sl 3 (p0.map Packet.enc))), (16, .t (.int .i64 ((p0.length : Int)))), (17, .t (.int .i64 x2)), (18, .t (.bool (decide (x2 < ((p0.length : Int)))))), (19, .t (.int .i64 x2)), (20, .fadr (Packet.enc y4)), (21, .agg ((Packet.enc y4).map .t)), (22, .t (.sl 3 (p1.map Packet.enc))), (23, .t (.int .i64 x2)), (24, .fadr (Packet.enc y5)), (25, .agg ((Packet.enc y5).map .t)), (26, .clo 130 []), (27, .agg ((Packet.enc y4).map .t)), (28, .agg ((Packet.enc y5).map .t)), (29, .t (.bool r6)), (30, .t (.bool (!r6)))], [(8, ((Packet.enc y4).map .t)), (9, ((Packet.enc y5).map .t))], []⟩ ?_
          refine Wp.cond2 (b := !r6) kr (fun hc => ?_) (fun hc => ?_)
          · have h := cond_t h hc
            refine Wp.srg [] [] ?_
            refine Runs.alln ?_
            refine Wp.fg ⟨[(1, .t (.sl 3 (p1.map Packet.enc))), (2, .clo 130 []), (6, .t (.bool false)), (7, .t (.int .i64 x2)), (8, .obj 8 0), (9, .obj 9 0), (15, .t (.sl 3 (p0.map Packet.enc))), (16, .t (.int .i64 ((p0.length : Int)))), (17, .t (.int .i64 x2)), (18, .t (.bool (decide (x2 < ((p0.length : Int)))))), (19, .t (.int .i64 x2)), (20, .fadr (Packet.enc y4)), (21, .agg ((Packet.enc y4).map .t)), (22, .t (.sl 3 (p1.map Packet.enc))), (23, .t (.int .i64 x2)), (24, .fadr (Packet.enc y5)), (25, .agg ((Packet.enc y5).map .t)), (26, .clo 130 []), (27, .agg ((Packet.enc y4).map .t)), (28, .agg ((Packet.enc y5).map .t)), (29, .t (.bool r6)), (30, .t (.bool (!r6)))], [(8, ((Packet.enc y4).map .t)), (9, ((Packet.enc y5).map .t))], []⟩ ?_
            refine Wp.ret ?_
            refine blkR ?_
            refine thenR ?_
            refine thenR ?_
            refine blkR ?_
            refine thenR ?_
            have hr := Option.some.inj h
            subst hr
            exact RetK [.t (.bool false)] (.one (.t (.bool false))) [] kr kr (.refl _) .nil
          · have h := cond_f h hc
            refine Wp.skip ?_
            refine blkN ?_
            refine thenN ?_
            refine Wp.rg [] [] ?_
            refine Runs.alln ?_
            exact ⟨(p1, p0, bAdd .i64 x2 1), h, Le.of (mo := []) (mr := []) kr kr kr kr⟩
        · have h := cond_f h hc
          refine Wp.exit ?_
          refine thenE ?_
          refine thenE ?_
          refine blkE ?_
          refine thenN ?_
          exact ⟨(), h, Le.of (mo := []) (mr := []) kr kr kr kr⟩
theorem impl_SamePackets_ok (u : Nat) (p0 : List Packet) (p1 : List Packet) (r : Bool) (h : impl_SamePackets u p0 p1 = some r) : CallOK Try.prog 95 [.one (.t (.sl 3 (p0.map Packet.enc))), .one (.t (.sl 3 (p1.map Packet.enc)))] (.one (.t (.bool r))) [] := by
  unfold impl_SamePackets at h
  refine CallOK.of_bodyK (fn := Try.f95) (m := false) [.t (.sl 3 (p0.map Packet.enc)), .t (.sl 3 (p1.map Packet.enc))] kr rfl kr kr kr kr kr ?_
  refine Wp.srg [] [] ?_
  refine Runs.alln ?_
  refine Wp.fg ⟨[(0, .t (.sl 3 (p0.map Packet.enc))), (1, .t (.sl 3 (p1.map Packet.enc))), (4, .t (.bool false))], [], []⟩ ?_
  refine Wp.srg [] [] ?_
  refine Runs.batch 2 kr ?_
  obtain ⟨r1, e_r1, h⟩ := bind_some h
  refine Runs.callK false 7 129 [] [.t (.sl 3 (p0.map Packet.enc)), .t (.sl 3 (p1.map Packet.enc)), .clo 130 []] [.one (.t (.sl 3 (p0.map Packet.enc))), .one (.t (.sl 3 (p1.map Packet.enc))), .clo 130 []] (.one (.t (.bool r1))) [] rfl rfl kr kr kr kr kr (slices_EqualFunc___impl_Packet___impl_Packet_impl_Packet_impl_Packet__impl_samePacket_ok u p0 p1 r1 e_r1) kr ?_
  refine Runs.alln ?_
  refine Wp.fg ⟨[(4, .t (.bool r1))], [], []⟩ ?_
  refine Wp.ret ?_
  have hr := Option.some.inj h
  subst hr
  exact RetK [.t (.bool r1)] (.one (.t (.bool r1))) [] kr kr (.refl _) .nil
theorem slices_Equal___impl_Sent_impl_Sent_ok (u : Nat) (p0 : List Sent) (p1 : List Sent) (r : Bool) (h : slices_Equal___impl_Sent_impl_Sent u p0 p1 = some r) : CallOK Try.prog 96 [.one (.t (.sl 3 (p0.map Sent.enc))), .one (.t (.sl 3 (p1.map Sent.enc)))] (.one (.t (.bool r))) [] := by
  unfold slices_Equal___impl_Sent_impl_Sent at h
  refine CallOK.of_bodyK (fn := Try.f96) (m := false) [.t (.sl 3 (p0.map Sent.enc)), .t (.sl 3 (p1.map Sent.enc))] kr rfl kr kr kr kr kr ?_
  refine Wp.srg [] [] ?_
  refine Runs.alln ?_
  refine Wp.fg ⟨[(0, .t (.sl 3 (p0.map Sent.enc))), (1, .t (.sl 3 (p1.map Sent.enc))), (4, .t (.bool false))], [], []⟩ ?_
  refine Wp.seq ?_
  refine Wp.srg [] [] ?_
  refine Runs.batch 1 kr ?_
  refine Runs.lenT (y := .t (.sl 3 (p0.map Sent.enc))) (e := 99) Sent.enc p0 3 rfl rfl rfl kr kr kr kr kr ?_
  refine Runs.batch 1 kr ?_
  refine Runs.lenT (y := .t (.sl 3 (p1.map Sent.enc))) (e := 99) Sent.enc p1 3 rfl rfl rfl kr kr kr kr kr ?_
  refine Runs.alln ?_
  refine Wp.fg ⟨[(0, .t (.sl 3 (p0.map Sent.enc))), (1, .t (.sl 3 (p1.map Sent.enc))), (4, .t (.bool false)), (10, .t (.bool (((p0.length : Int)) != ((p1.length : Int)))))], [], []⟩ ?_
  refine Wp.cond2 (b := ((p0.length : Int)) != ((p1.length : Int))) kr (fun hc => ?_) (fun hc => ?_)
  · have h := cond_t h hc
    refine Wp.srg [] [] ?_
    refine Runs.alln ?_
    refine Wp.fg ⟨[(0, .t (.sl 3 (p0.map Sent.enc))), (1, .t (.sl 3 (p1.map Sent.enc))), (4, .t (.bool false))], [], []⟩ ?_
    refine Wp.ret ?_
    refine thenR ?_
    have hr := Option.some.inj h
    subst hr
    exact RetK [.t (.bool false)] (.one (.t (.bool false))) [] kr kr (.refl _) .nil
  · have h := cond_f h hc
    refine Wp.skip ?_
    refine thenN ?_
    refine Wp.seqJ (α := Unit) (fun a => ⟨[(4, .t (.bool false))], [], []⟩) (fun a => slices_Equal___impl_Sent_impl_Sent_j1 u = some r) ?_ ?_
    · rintro ⟨⟩ h
      change slices_Equal___impl_Sent_impl_Sent_j1 u = some r at h
      unfold slices_Equal___impl_Sent_impl_Sent_j1 at h
      refine Wp.srg [] [] ?_
      refine Runs.alln ?_
      refine Wp.fg ⟨[(4, .t (.bool true))], [], []⟩ ?_
      refine Wp.ret ?_
      have hr := Option.some.inj h
      subst hr
      exact RetK [.t (.bool true)] (.one (.t (.bool true))) [] kr kr (.refl _) .nil
    · refine Wp.srg [] [] ?_
      refine Runs.batch 1 kr ?_
      refine Runs.lenT (y := .t (.sl 3 (p0.map Sent.enc))) (e := 99) Sent.enc p0 3 rfl rfl rfl kr kr kr kr kr ?_
      refine Runs.alln ?_
      refine Wp.fg ⟨[(0, .t (.sl 3 (p0.map Sent.enc))), (1, .t (.sl 3 (p1.map Sent.enc))), (4, .t (.bool false)), (12, .t (.int .i64 ((p0.length : Int)))), (13, .t (.int .i64 0))], [], []⟩ ?_
      refine Wp.block ?_
      refine Wp.loopF (α := (List Sent) × (List Sent) × Int) (fun a => ⟨[(0, .t (.sl 3 (a.1.map Sent.enc))), (1, .t (.sl 3 (a.2.1.map Sent.enc))), (4, .t (.bool false)), (12, .t (.int .i64 ((a.1.length : Int)))), (13, .t (.int .i64 a.2.2))], [], []⟩) (fun k_slices_Equal___impl_Sent_impl_Sent_l2 a => slices_Equal___impl_Sent_impl_Sent_l2 u k_slices_Equal___impl_Sent_impl_Sent_l2 a.1 a.2.1 a.2.2 = some r) ?_ ?_ u (p0, p1, 0) h (Le.of (mo := []) (mr := []) kr kr kr kr)
      · intro a h; unfold slices_Equal___impl_Sent_impl_Sent_l2 at h; cases h
      · rintro k_slices_Equal___impl_Sent_impl_Sent_l2 ⟨p0, p1, x2⟩ h
        change slices_Equal___impl_Sent_impl_Sent_l2 u (k_slices_Equal___impl_Sent_impl_Sent_l2 + 1) p0 p1 x2 = some r at h
        rw [slices_Equal___impl_Sent_impl_Sent_l2] at h
        refine Wp.srg [] [] ?_
        refine Runs.alln ?_
        refine Wp.fg ⟨[(0, .t (.sl 3 (p0.map Sent.enc))), (1, .t (.sl 3 (p1.map Sent.enc))), (4, .t (.bool false)), (12, .t (.int .i64 ((p0.length : Int)))), (13, .t (.int .i64 x2)), (14, .t (.bool (decide (x2 < ((p0.length : Int))))))], [], []⟩ ?_
        refine Wp.seq ?_
        refine Wp.cond2 (b := decide (x2 < ((p0.length : Int)))) kr (fun hc => ?_) (fun hc => ?_)
        · have h := cond_t h hc
          refine Wp.skip ?_
          refine thenN ?_
          refine Wp.seq ?_
          refine Wp.block ?_
          refine Wp.srg [] [] ?_
          refine Runs.alln ?_
          refine Wp.fg ⟨[(0, .t (.sl 3 (p0.map Sent.enc))), (1, .t (.sl 3 (p1.map Sent.enc))), (4, .t (.bool false)), (5, .t (.int .i64 x2)), (12, .t (.int .i64 ((p0.length : Int)))), (13, .t (.int .i64 x2)), (14, .t (.bool (decide (x2 < ((p0.length : Int)))))), (15, .t (.int .i64 x2))], [], []⟩ ?_
          refine Wp.seq ?_
          refine Wp.regionA (pOf []) (rhoOf [(0, .frz), (1, .frz), (5, .frz), (16, .frz), (17, .frz), (18, .frz), (19, .frz), (20, .frz), (21, .frz), (22, .frz), (23, .frz)]) kr kr ?_
          refine Runs.batch 2 kr ?_
          obtain ⟨y4, e_y4, h⟩ := bind_some h
          refine Runs.idxT (e := 99) (kk := .i64) (sz := 3) Sent.enc p0 x2 rfl kr kr kr kr kr kr e_y4 ?_
          refine Runs.batch 3 kr ?_
          obtain ⟨y5, e_y5, h⟩ := bind_some h
          refine Runs.idxT (e := 99) (kk := .i64) (sz := 3) Sent.enc p1 x2 rfl kr kr kr kr kr kr e_y5 ?_
          refine Runs.alln ?_
          refine Wp.fg ⟨[(0, .t (.sl 3 (p0.map Sent.enc))), (1, .t (.sl 3 (p1.map Sent.enc))), (4, .t (.bool false)), (5, .t (.int .i64 x2)), (12, .t (.int .i64 ((p0.length : Int)))), (13, .t (.int .i64 x2)), (14, .t (.bool (decide (x2 < ((p0.length : Int)))))), (15, .t (.int .i64 x2)), (16, .t (.sl 3 (p0.map Sent.enc))), (17, .t (.int .i64 x2)), (18, .fadr (Sent.enc y4)), (19, .agg ((Sent.enc y4).map .t)), (20, .t (.sl 3 (p1.map Sent.enc))), (21, .t (.int .i64 x2)), (22, .fadr (Sent.enc y5)), (23, .agg ((Sent.enc y5).map .t)), (24, .t (.bool (!([y4.fFrom, y4.fTo, y4.fI] == [y5.fFrom, y5.fTo, y5.fI]))))], [], []⟩ ?_
          refine Wp.cond2 (b := !([y4.fFrom, y4.fTo, y4.fI] == [y5.fFrom, y5.fTo, y5.fI])) kr (fun hc => ?_) (fun hc => ?_)
          · have h := cond_t h hc
            refine Wp.srg [] [] ?_
            refine Runs.alln ?_
            refine Wp.fg ⟨[(0, .t (.sl 3 (p0.map Sent.enc))), (1, .t (.sl 3 (p1.map Sent.enc))), (4, .t (.bool false)), (5, .t (.int .i64 x2)), (12, .t (.int .i64 ((p0.length : Int)))), (13, .t (.int .i64 x2)), (14, .t (.bool (decide (x2 < ((p0.length : Int)))))), (15, .t (.int .i64 x2)), (16, .t (.sl 3 (p0.map Sent.enc))), (17, .t (.int .i64 x2)), (18, .fadr (Sent.enc y4)), (19, .agg ((Sent.enc y4).map .t)), (20, .t (.sl 3 (p1.map Sent.enc))), (21, .t (.int .i64 x2)), (22, .fadr (Sent.enc y5)), (23, .agg ((Sent.enc y5).map .t)), (24, .t (.bool (!([y4.fFrom, y4.fTo, y4.fI] == [y5.fFrom, y5.fTo, y5.fI]))))], [], []⟩ ?_
            refine Wp.ret ?_
            refine blkR ?_
            refine thenR ?_
            refine thenR ?_
            refine blkR ?_
            refine thenR ?_
            have hr := Option.some.inj h
            subst hr
            exact RetK [.t (.bool false)] (.one (.t (.bool false))) [] kr kr (.refl _) .nil
          · have h := cond_f h hc
            refine Wp.skip ?_
            refine blkN ?_
            refine thenN ?_
            refine Wp.rg [] [] ?_
            refine Runs.alln ?_
            exact ⟨(p0, p1, bAdd .i64 x2 1), h, Le.of (mo := []) (mr := []) kr kr kr kr⟩
        · have h := cond_f h hc
          refine Wp.exit ?_
          refine thenE ?_
          refine thenE ?_
          refine blkE ?_
          refine thenN ?_
          exact ⟨(), h, Le.of (mo := []) (mr := []) kr kr kr kr⟩
theorem impl_SameBut_ok (u : Nat) (p0 : World) (p1 : World) (r : Bool) (h : impl_SameBut u p0 p1 = some r) : CallOK Try.prog 40 [.agg [.t (.int .i64 p0.fC.fSize), .t (.int .i64 p0.fC.fWindow), .t (.int .i64 p0.fC.fSuspect), .t (.int .i64 p0.fC.fForget), .t (.sl 1 (p0.fT.fUp.map (eInt .i64))), .t (.sl 1 (p0.fNew.map (eInt .u8))), .t (.sl 1 (p0.fOld.map Image.enc)), .t (.sl 12 (p0.fN.map Node.enc)), .t (.sl 6 (p0.fD.map Disk.enc)), .t (.sl 3 (p0.fNet.map Packet.enc)), .t (.sl 3 (p0.fLog.map Sent.enc)), .t (.int .i64 p0.fLost)], .agg [.t (.int .i64 p1.fC.fSize), .t (.int .i64 p1.fC.fWindow), .t (.int .i64 p1.fC.fSuspect), .t (.int .i64 p1.fC.fForget), .t (.sl 1 (p1.fT.fUp.map (eInt .i64))), .t (.sl 1 (p1.fNew.map (eInt .u8))), .t (.sl 1 (p1.fOld.map Image.enc)), .t (.sl 12 (p1.fN.map Node.enc)), .t (.sl 6 (p1.fD.map Disk.enc)), .t (.sl 3 (p1.fNet.map Packet.enc)), .t (.sl 3 (p1.fLog.map Sent.enc)), .t (.int .i64 p1.fLost)]] (.one (.t (.bool r))) [] := by
  unfold impl_SameBut at h
  refine CallOK.of_bodyK (fn := Try.f40) (m := false) [.agg ((World.enc p0).map .t), .agg ((World.enc p1).map .t)] kr rfl kr kr kr kr kr ?_
  refine Wp.srg [] [] ?_
  refine Runs.alln ?_
  refine Wp.fg ⟨[(2, .obj 2 0), (3, .obj 3 0), (4, .t (.bool false))], [(2, ((World.enc p0).map .t)), (3, ((World.enc p1).map .t))], []⟩ ?_
  refine Wp.srg [] [] ?_
  refine Runs.alln ?_
  refine Wp.fg ⟨[(2, .obj 2 0), (3, .obj 3 0), (4, .t (.bool false)), (5, .clo 86 [])], [(2, ((World.enc p0).map .t)), (3, ((World.enc p1).map .t))], []⟩ ?_
  refine Wp.srg [] [] ?_
  refine Runs.batch 6 kr ?_
  rcases tf ([p0.fC.fSize, p0.fC.fWindow, p0.fC.fSuspect, p0.fC.fForget] == [p1.fC.fSize, p1.fC.fWindow, p1.fC.fSuspect, p1.fC.fForget]) with hc | hc
  · have h := cond_t h hc
    refine Runs.known 11 (v := true) kr hc ?_
    refine Runs.batch 6 kr ?_
    obtain ⟨r1, e_r1, h⟩ := bind_some h
    refine Runs.callK false 18 88 [] [.t (.sl 1 (p0.fT.fUp.map (eInt .i64))), .t (.sl 1 (p1.fT.fUp.map (eInt .i64)))] [.one (.t (.sl 1 (p0.fT.fUp.map (eInt .i64)))), .one (.t (.sl 1 (p1.fT.fUp.map (eInt .i64))))] (.one (.t (.bool r1))) [] rfl rfl kr kr kr kr kr (slices_Equal___int_int_ok u p0.fT.fUp p1.fT.fUp r1 e_r1) kr ?_
    refine Runs.batch 2 kr ?_
    rcases tf (r1) with hc | hc
    · have h := cond_t h hc
      refine Runs.known 20 (v := true) kr hc ?_
      refine Runs.batch 4 kr ?_
      obtain ⟨r2, e_r2, h⟩ := bind_some h
      refine Runs.callK false 25 89 [] [.t (.sl 1 (p0.fNew.map (eInt .u8))), .t (.sl 1 (p1.fNew.map (eInt .u8)))] [.one (.t (.sl 1 (p0.fNew.map (eInt .u8)))), .one (.t (.sl 1 (p1.fNew.map (eInt .u8))))] (.one (.t (.bool r2))) [] rfl rfl kr kr kr kr kr (impl_SameBytes_ok u p0.fNew p1.fNew r2 e_r2) kr ?_
      refine Runs.batch 2 kr ?_
      rcases tf (r2) with hc | hc
      · have h := cond_t h hc
        refine Runs.known 27 (v := true) kr hc ?_
        refine Runs.batch 4 kr ?_
        obtain ⟨r3, e_r3, h⟩ := bind_some h
        refine Runs.callK false 32 90 [] [.t (.sl 1 (p0.fOld.map Image.enc)), .t (.sl 1 (p1.fOld.map Image.enc)), .clo 91 []] [.one (.t (.sl 1 (p0.fOld.map Image.enc))), .one (.t (.sl 1 (p1.fOld.map Image.enc))), .clo 91 []] (.one (.t (.bool r3))) [] rfl rfl kr kr kr kr kr (slices_EqualFunc___impl_Image___impl_Image_impl_Image_impl_Image__impl_SameBut_2_ok u p0.fOld p1.fOld r3 e_r3) kr ?_
        refine Runs.batch 2 kr ?_
        rcases tf (r3) with hc | hc
        · have h := cond_t h hc
          refine Runs.known 34 (v := true) kr hc ?_
          refine Runs.batch 5 kr ?_
          obtain ⟨r4, e_r4, h⟩ := bind_some h
          refine Runs.callK false 40 92 [] [.t (.sl 12 (p0.fN.map Node.enc)), .t (.sl 12 (p1.fN.map Node.enc)), .clo 86 []] [.one (.t (.sl 12 (p0.fN.map Node.enc))), .one (.t (.sl 12 (p1.fN.map Node.enc))), .clo 86 []] (.one (.t (.bool r4))) [] rfl rfl kr kr kr kr kr (slices_EqualFunc___impl_Node___impl_Node_impl_Node_impl_Node__impl_SameBut_1_ok u p0.fN p1.fN r4 e_r4) kr ?_
          refine Runs.batch 2 kr ?_
          rcases tf (r4) with hc | hc
          · have h := cond_t h hc
            refine Runs.known 42 (v := true) kr hc ?_
            refine Runs.batch 4 kr ?_
            obtain ⟨r5, e_r5, h⟩ := bind_some h
            refine Runs.callK false 47 93 [] [.t (.sl 6 (p0.fD.map Disk.enc)), .t (.sl 6 (p1.fD.map Disk.enc)), .clo 94 []] [.one (.t (.sl 6 (p0.fD.map Disk.enc))), .one (.t (.sl 6 (p1.fD.map Disk.enc))), .clo 94 []] (.one (.t (.bool r5))) [] rfl rfl kr kr kr kr kr (slices_EqualFunc___impl_Disk___impl_Disk_impl_Disk_impl_Disk__impl_sameDisk_ok u p0.fD p1.fD r5 e_r5) kr ?_
            refine Runs.batch 2 kr ?_
            rcases tf (r5) with hc | hc
            · have h := cond_t h hc
              refine Runs.known 49 (v := true) kr hc ?_
              refine Runs.batch 4 kr ?_
              obtain ⟨r6, e_r6, h⟩ := bind_some h
              refine Runs.callK false 54 95 [] [.t (.sl 3 (p0.fNet.map Packet.enc)), .t (.sl 3 (p1.fNet.map Packet.enc))] [.one (.t (.sl 3 (p0.fNet.map Packet.enc))), .one (.t (.sl 3 (p1.fNet.map Packet.enc)))] (.one (.t (.bool r6))) [] rfl rfl kr kr kr kr kr (impl_SamePackets_ok u p0.fNet p1.fNet r6 e_r6) kr ?_
              refine Runs.batch 2 kr ?_
              rcases tf (r6) with hc | hc
              · have h := cond_t h hc
                refine Runs.known 56 (v := true) kr hc ?_
                refine Runs.batch 4 kr ?_
                obtain ⟨r7, e_r7, h⟩ := bind_some h
                refine Runs.callK false 61 96 [] [.t (.sl 3 (p0.fLog.map Sent.enc)), .t (.sl 3 (p1.fLog.map Sent.enc))] [.one (.t (.sl 3 (p0.fLog.map Sent.enc))), .one (.t (.sl 3 (p1.fLog.map Sent.enc)))] (.one (.t (.bool r7))) [] rfl rfl kr kr kr kr kr (slices_Equal___impl_Sent_impl_Sent_ok u p0.fLog p1.fLog r7 e_r7) kr ?_
                refine Runs.alln ?_
                refine Wp.fg ⟨[(4, .t (.bool r7))], [], []⟩ ?_
                refine Wp.ret ?_
                have hr := Option.some.inj h
                subst hr
                exact RetK [.t (.bool r7)] (.one (.t (.bool r7))) [] kr kr (.refl _) .nil
              · have h := cond_f h hc
                refine Runs.known 56 (v := false) kr hc ?_
                refine Runs.alln ?_
                refine Wp.fg ⟨[(4, .t (.bool false))], [], []⟩ ?_
                refine Wp.ret ?_
                have hr := Option.some.inj h
                subst hr
                exact RetK [.t (.bool false)] (.one (.t (.bool false))) [] kr kr (.refl _) .nil
            · have h := cond_f h hc
              refine Runs.known 49 (v := false) kr hc ?_
              refine Runs.alln ?_
              refine Wp.fg ⟨[(4, .t (.bool false))], [], []⟩ ?_
              refine Wp.ret ?_
              have hr := Option.some.inj h
              subst hr
              exact RetK [.t (.bool false)] (.one (.t (.bool false))) [] kr kr (.refl _) .nil
          · have h := cond_f h hc
            refine Runs.known 42 (v := false) kr hc ?_
            refine Runs.alln ?_
            refine Wp.fg ⟨[(4, .t (.bool false))], [], []⟩ ?_
            refine Wp.ret ?_
            have hr := Option.some.inj h
            subst hr
            exact RetK [.t (.bool false)] (.one (.t (.bool false))) [] kr kr (.refl _) .nil
        · have h := cond_f h hc
          refine Runs.known 34 (v := false) kr hc ?_
          refine Runs.alln ?_
          refine Wp.fg ⟨[(4, .t (.bool false))], [], []⟩ ?_
          refine Wp.ret ?_
          have hr := Option.some.inj h
          subst hr
          exact RetK [.t (.bool false)] (.one (.t (.bool false))) [] kr kr (.refl _) .nil
      · have h := cond_f h hc
        refine Runs.known 27 (v := false) kr hc ?_
        refine Runs.alln ?_
        refine Wp.fg ⟨[(4, .t (.bool false))], [], []⟩ ?_
        refine Wp.ret ?_
        have hr := Option.some.inj h
        subst hr
        exact RetK [.t (.bool false)] (.one (.t (.bool false))) [] kr kr (.refl _) .nil
    · have h := cond_f h hc
      refine Runs.known 20 (v := false) kr hc ?_
      refine Runs.alln ?_
      refine Wp.fg ⟨[(4, .t (.bool false))], [], []⟩ ?_
      refine Wp.ret ?_
      have hr := Option.some.inj h
      subst hr
      exact RetK [.t (.bool false)] (.one (.t (.bool false))) [] kr kr (.refl _) .nil
  · have h := cond_f h hc
    refine Runs.known 11 (v := false) kr hc ?_
    refine Runs.alln ?_
    refine Wp.fg ⟨[(4, .t (.bool false))], [], []⟩ ?_
    refine Wp.ret ?_
    have hr := Option.some.inj h
    subst hr
    exact RetK [.t (.bool false)] (.one (.t (.bool false))) [] kr kr (.refl _) .nil
theorem laws_eqConf_ok (u : Nat) (p0 : Conf) (p1 : Conf) (r : Bool) (h : laws_eqConf u p0 p1 = some r) : CallOK Try.prog 65 [.agg [.t (.int .i64 p0.fSize), .t (.int .i64 p0.fWindow), .t (.int .i64 p0.fSuspect), .t (.int .i64 p0.fForget)], .agg [.t (.int .i64 p1.fSize), .t (.int .i64 p1.fWindow), .t (.int .i64 p1.fSuspect), .t (.int .i64 p1.fForget)]] (.one (.t (.bool r))) [] := by
  unfold laws_eqConf at h
  refine CallOK.of_bodyK (fn := Try.f65) (m := false) [.agg ((Conf.enc p0).map .t), .agg ((Conf.enc p1).map .t)] kr rfl kr kr kr kr kr ?_
  refine Wp.srg [] [] ?_
  refine Runs.alln ?_
  refine Wp.fg ⟨[(2, .obj 2 0), (3, .obj 3 0), (4, .t (.bool false))], [(2, ((Conf.enc p0).map .t)), (3, ((Conf.enc p1).map .t))], []⟩ ?_
  refine Wp.seq ?_
  refine Wp.srg [] [] ?_
  refine Runs.alln ?_
  refine Wp.fg ⟨[(2, .obj 2 0), (3, .obj 3 0), (4, .t (.bool false)), (9, .t (.bool (p0.fSize != p1.fSize)))], [(2, ((Conf.enc p0).map .t)), (3, ((Conf.enc p1).map .t))], []⟩ ?_
  refine Wp.cond2 (b := p0.fSize != p1.fSize) kr (fun hc => ?_) (fun hc => ?_)
  · have h := cond_t h hc
    refine Wp.srg [] [] ?_
    refine Runs.alln ?_
    refine Wp.fg ⟨[(2, .obj 2 0), (3, .obj 3 0), (4, .t (.bool false))], [(2, ((Conf.enc p0).map .t)), (3, ((Conf.enc p1).map .t))], []⟩ ?_
    refine Wp.ret ?_
    refine thenR ?_
    have hr := Option.some.inj h
    subst hr
    exact RetK [.t (.bool false)] (.one (.t (.bool false))) [] kr kr (.refl _) .nil
  · have h := cond_f h hc
    refine Wp.skip ?_
    refine thenN ?_
    refine Wp.seq ?_
    refine Wp.srg [] [] ?_
    refine Runs.alln ?_
    refine Wp.fg ⟨[(2, .obj 2 0), (3, .obj 3 0), (4, .t (.bool false)), (14, .t (.bool (p0.fWindow != p1.fWindow)))], [(2, ((Conf.enc p0).map .t)), (3, ((Conf.enc p1).map .t))], []⟩ ?_
    refine Wp.cond2 (b := p0.fWindow != p1.fWindow) kr (fun hc => ?_) (fun hc => ?_)
    · have h := cond_t h hc
      refine Wp.srg [] [] ?_
      refine Runs.alln ?_
      refine Wp.fg ⟨[(2, .obj 2 0), (3, .obj 3 0), (4, .t (.bool false))], [(2, ((Conf.enc p0).map .t)), (3, ((Conf.enc p1).map .t))], []⟩ ?_
      refine Wp.ret ?_
      refine thenR ?_
      have hr := Option.some.inj h
      subst hr
      exact RetK [.t (.bool false)] (.one (.t (.bool false))) [] kr kr (.refl _) .nil
    · have h := cond_f h hc
      refine Wp.skip ?_
      refine thenN ?_
      refine Wp.seq ?_
      refine Wp.srg [] [] ?_
      refine Runs.alln ?_
      refine Wp.fg ⟨[(2, .obj 2 0), (3, .obj 3 0), (4, .t (.bool false)), (19, .t (.bool (p0.fSuspect != p1.fSuspect)))], [(2, ((Conf.enc p0).map .t)), (3, ((Conf.enc p1).map .t))], []⟩ ?_
      refine Wp.cond2 (b := p0.fSuspect != p1.fSuspect) kr (fun hc => ?_) (fun hc => ?_)
      · have h := cond_t h hc
        refine Wp.srg [] [] ?_
        refine Runs.alln ?_
        refine Wp.fg ⟨[(2, .obj 2 0), (3, .obj 3 0), (4, .t (.bool false))], [(2, ((Conf.enc p0).map .t)), (3, ((Conf.enc p1).map .t))], []⟩ ?_
        refine Wp.ret ?_
        refine thenR ?_
        have hr := Option.some.inj h
        subst hr
        exact RetK [.t (.bool false)] (.one (.t (.bool false))) [] kr kr (.refl _) .nil
      · have h := cond_f h hc
        refine Wp.skip ?_
        refine thenN ?_
        refine Wp.seq ?_
        refine Wp.srg [] [] ?_
        refine Runs.alln ?_
        refine Wp.fg ⟨[(4, .t (.bool false)), (24, .t (.bool (p0.fForget != p1.fForget)))], [], []⟩ ?_
        refine Wp.cond2 (b := p0.fForget != p1.fForget) kr (fun hc => ?_) (fun hc => ?_)
        · have h := cond_t h hc
          refine Wp.srg [] [] ?_
          refine Runs.alln ?_
          refine Wp.fg ⟨[(4, .t (.bool false))], [], []⟩ ?_
          refine Wp.ret ?_
          refine thenR ?_
          have hr := Option.some.inj h
          subst hr
          exact RetK [.t (.bool false)] (.one (.t (.bool false))) [] kr kr (.refl _) .nil
        · have h := cond_f h hc
          refine Wp.skip ?_
          refine thenN ?_
          refine Wp.srg [] [] ?_
          refine Runs.alln ?_
          refine Wp.fg ⟨[(4, .t (.bool true))], [], []⟩ ?_
          refine Wp.ret ?_
          have hr := Option.some.inj h
          subst hr
          exact RetK [.t (.bool true)] (.one (.t (.bool true))) [] kr kr (.refl _) .nil
theorem laws_eqIntS_ok (u : Nat) (p0 : List Int) (p1 : List Int) (r : Bool) (h : laws_eqIntS u p0 p1 = some r) : CallOK Try.prog 116 [.one (.t (.sl 1 (p0.map (eInt .i64)))), .one (.t (.sl 1 (p1.map (eInt .i64))))] (.one (.t (.bool r))) [] := by
  unfold laws_eqIntS at h
  refine CallOK.of_bodyK (fn := Try.f116) (m := false) [.t (.sl 1 (p0.map (eInt .i64))), .t (.sl 1 (p1.map (eInt .i64)))] kr rfl kr kr kr kr kr ?_
  refine Wp.srg [] [] ?_
  refine Runs.alln ?_
  refine Wp.fg ⟨[(0, .t (.sl 1 (p0.map (eInt .i64)))), (1, .t (.sl 1 (p1.map (eInt .i64)))), (4, .t (.bool false))], [], []⟩ ?_
  refine Wp.seq ?_
  refine Wp.srg [] [] ?_
  refine Runs.batch 1 kr ?_
  refine Runs.lenT (y := .t (.sl 1 (p0.map (eInt .i64)))) (e := 3) (eInt .i64) p0 1 rfl rfl rfl kr kr kr kr kr ?_
  refine Runs.batch 1 kr ?_
  refine Runs.lenT (y := .t (.sl 1 (p1.map (eInt .i64)))) (e := 3) (eInt .i64) p1 1 rfl rfl rfl kr kr kr kr kr ?_
  refine Runs.alln ?_
  refine Wp.fg ⟨[(0, .t (.sl 1 (p0.map (eInt .i64)))), (1, .t (.sl 1 (p1.map (eInt .i64)))), (4, .t (.bool false)), (10, .t (.bool (((p0.length : Int)) != ((p1.length : Int)))))], [], []⟩ ?_
  refine Wp.cond2 (b := ((p0.length : Int)) != ((p1.length : Int))) kr (fun hc => ?_) (fun hc => ?_)
  · have h := cond_t h hc
    refine Wp.srg [] [] ?_
    refine Runs.alln ?_
    refine Wp.fg ⟨[(0, .t (.sl 1 (p0.map (eInt .i64)))), (1, .t (.sl 1 (p1.map (eInt .i64)))), (4, .t (.bool false))], [], []⟩ ?_
    refine Wp.ret ?_
    refine thenR ?_
    have hr := Option.some.inj h
    subst hr
    exact RetK [.t (.bool false)] (.one (.t (.bool false))) [] kr kr (.refl _) .nil
  · have h := cond_f h hc
    refine Wp.skip ?_
    refine thenN ?_
    refine Wp.seqJ (α := Unit) (fun a => ⟨[(4, .t (.bool false))], [], []⟩) (fun a => laws_eqIntS_j1 u = some r) ?_ ?_
    · rintro ⟨⟩ h
      change laws_eqIntS_j1 u = some r at h
      unfold laws_eqIntS_j1 at h
      refine Wp.srg [] [] ?_
      refine Runs.alln ?_
      refine Wp.fg ⟨[(4, .t (.bool true))], [], []⟩ ?_
      refine Wp.ret ?_
      have hr := Option.some.inj h
      subst hr
      exact RetK [.t (.bool true)] (.one (.t (.bool true))) [] kr kr (.refl _) .nil
    · refine Wp.srg [] [] ?_
      refine Runs.alln ?_
      refine Wp.fg ⟨[(0, .t (.sl 1 (p0.map (eInt .i64)))), (1, .t (.sl 1 (p1.map (eInt .i64)))), (4, .t (.bool false)), (5, .t (.int .i64 0))], [], []⟩ ?_
      refine Wp.block ?_
      refine Wp.loopF (α := (List Int) × (List Int) × Int) (fun a => ⟨[(0, .t (.sl 1 (a.1.map (eInt .i64)))), (1, .t (.sl 1 (a.2.1.map (eInt .i64)))), (4, .t (.bool false)), (5, .t (.int .i64 a.2.2))], [], []⟩) (fun k_laws_eqIntS_l2 a => laws_eqIntS_l2 u k_laws_eqIntS_l2 a.1 a.2.1 a.2.2 = some r) ?_ ?_ u (p0, p1, 0) h (Le.of (mo := []) (mr := []) kr kr kr kr)
      · intro a h; unfold laws_eqIntS_l2 at h; cases h
      · rintro k_laws_eqIntS_l2 ⟨p0, p1, x2⟩ h
        change laws_eqIntS_l2 u (k_laws_eqIntS_l2 + 1) p0 p1 x2 = some r at h
        rw [laws_eqIntS_l2] at h
        refine Wp.seq ?_
        refine Wp.srg [] [] ?_
        refine Runs.batch 2 kr ?_
        refine Runs.lenT (y := .t (.sl 1 (p0.map (eInt .i64)))) (e := 3) (eInt .i64) p0 1 rfl rfl rfl kr kr kr kr kr ?_
        refine Runs.alln ?_
        refine Wp.fg ⟨[(0, .t (.sl 1 (p0.map (eInt .i64)))), (1, .t (.sl 1 (p1.map (eInt .i64)))), (4, .t (.bool false)), (5, .t (.int .i64 x2)), (11, .t (.int .i64 x2)), (12, .t (.sl 1 (p0.map (eInt .i64)))), (13, .t (.int .i64 ((p0.length : Int)))), (14, .t (.bool (decide (x2 < ((p0.length : Int))))))], [], []⟩ ?_
        refine Wp.cond2 (b := decide (x2 < ((p0.length : Int)))) kr (fun hc => ?_) (fun hc => ?_)
        · have h := cond_t h hc
          refine Wp.skip ?_
          refine thenN ?_
          refine Wp.seq ?_
          refine Wp.block ?_
          refine Wp.seq ?_
          refine Wp.regionA (pOf []) (rhoOf [(0, .frz), (1, .frz), (5, .frz), (17, .frz), (18, .frz), (19, .frz), (20, .frz), (21, .frz), (22, .frz), (23, .frz), (24, .frz)]) kr kr ?_
          refine Runs.batch 2 kr ?_
          obtain ⟨y4, e_y4, h⟩ := bind_some h
          refine Runs.idxT (e := 3) (kk := .i64) (sz := 1) (eInt .i64) p0 x2 rfl kr kr kr kr kr kr e_y4 ?_
          refine Runs.batch 3 kr ?_
          obtain ⟨y5, e_y5, h⟩ := bind_some h
          refine Runs.idxT (e := 3) (kk := .i64) (sz := 1) (eInt .i64) p1 x2 rfl kr kr kr kr kr kr e_y5 ?_
          refine Runs.alln ?_
          refine Wp.fg ⟨[(0, .t (.sl 1 (p0.map (eInt .i64)))), (1, .t (.sl 1 (p1.map (eInt .i64)))), (4, .t (.bool false)), (5, .t (.int .i64 x2)), (11, .t (.int .i64 x2)), (12, .t (.sl 1 (p0.map (eInt .i64)))), (13, .t (.int .i64 ((p0.length : Int)))), (14, .t (.bool (decide (x2 < ((p0.length : Int)))))), (17, .t (.sl 1 (p0.map (eInt .i64)))), (18, .t (.int .i64 x2)), (19, .fadr [.int .i64 y4]), (20, .t (.int .i64 y4)), (21, .t (.sl 1 (p1.map (eInt .i64)))), (22, .t (.int .i64 x2)), (23, .fadr [.int .i64 y5]), (24, .t (.int .i64 y5)), (25, .t (.bool (y4 != y5)))], [], []⟩ ?_
          refine Wp.cond2 (b := y4 != y5) kr (fun hc => ?_) (fun hc => ?_)
          · have h := cond_t h hc
            refine Wp.srg [] [] ?_
            refine Runs.alln ?_
            refine Wp.fg ⟨[(0, .t (.sl 1 (p0.map (eInt .i64)))), (1, .t (.sl 1 (p1.map (eInt .i64)))), (4, .t (.bool false)), (5, .t (.int .i64 x2)), (11, .t (.int .i64 x2)), (12, .t (.sl 1 (p0.map (eInt .i64)))), (13, .t (.int .i64 ((p0.length : Int)))), (14, .t (.bool (decide (x2 < ((p0.length : Int)))))), (17, .t (.sl 1 (p0.map (eInt .i64)))), (18, .t (.int .i64 x2)), (19, .fadr [.int .i64 y4]), (20, .t (.int .i64 y4)), (21, .t (.sl 1 (p1.map (eInt .i64)))), (22, .t (.int .i64 x2)), (23, .fadr [.int .i64 y5]), (24, .t (.int .i64 y5)), (25, .t (.bool (y4 != y5)))], [], []⟩ ?_
            refine Wp.ret ?_
            refine blkR ?_
            refine thenR ?_
            refine thenR ?_
            refine blkR ?_
            refine thenR ?_
            have hr := Option.some.inj h
            subst hr
            exact RetK [.t (.bool false)] (.one (.t (.bool false))) [] kr kr (.refl _) .nil
          · have h := cond_f h hc
            refine Wp.skip ?_
            refine blkN ?_
            refine thenN ?_
            refine Wp.rg [] [] ?_
            refine Runs.alln ?_
            exact ⟨(p0, p1, bAdd .i64 x2 1), h, Le.of (mo := []) (mr := []) kr kr kr kr⟩
        · have h := cond_f h hc
          refine Wp.exit ?_
          refine thenE ?_
          refine thenE ?_
          refine blkE ?_
          refine thenN ?_
          exact ⟨(), h, Le.of (mo := []) (mr := []) kr kr kr kr⟩
theorem laws_eqTree_ok (u : Nat) (p0 : Tree) (p1 : Tree) (r : Bool) (h : laws_eqTree u p0 p1 = some r) : CallOK Try.prog 66 [.agg [.t (.sl 1 (p0.fUp.map (eInt .i64)))], .agg [.t (.sl 1 (p1.fUp.map (eInt .i64)))]] (.one (.t (.bool r))) [] := by
  unfold laws_eqTree at h
  refine CallOK.of_bodyK (fn := Try.f66) (m := false) [.agg [.t (.sl 1 (p0.fUp.map (eInt .i64)))], .agg [.t (.sl 1 (p1.fUp.map (eInt .i64)))]] kr rfl kr kr kr kr kr ?_
  refine Wp.srg [] [] ?_
  refine Runs.alln ?_
  refine Wp.fg ⟨[(2, .obj 2 0), (3, .obj 3 0), (4, .t (.bool false))], [(2, [.t (.sl 1 (p0.fUp.map (eInt .i64)))]), (3, [.t (.sl 1 (p1.fUp.map (eInt .i64)))])], []⟩ ?_
  refine Wp.seq ?_
  refine Wp.srg [] [] ?_
  refine Runs.batch 4 kr ?_
  obtain ⟨r1, e_r1, h⟩ := bind_some h
  refine Runs.callK false 9 116 [] [.t (.sl 1 (p0.fUp.map (eInt .i64))), .t (.sl 1 (p1.fUp.map (eInt .i64)))] [.one (.t (.sl 1 (p0.fUp.map (eInt .i64)))), .one (.t (.sl 1 (p1.fUp.map (eInt .i64))))] (.one (.t (.bool r1))) [] rfl rfl kr kr kr kr kr (laws_eqIntS_ok u p0.fUp p1.fUp r1 e_r1) kr ?_
  refine Runs.alln ?_
  refine Wp.fg ⟨[(4, .t (.bool false)), (10, .t (.bool (!r1)))], [], []⟩ ?_
  refine Wp.cond2 (b := !r1) kr (fun hc => ?_) (fun hc => ?_)
  · have h := cond_t h hc
    refine Wp.srg [] [] ?_
    refine Runs.alln ?_
    refine Wp.fg ⟨[(4, .t (.bool false))], [], []⟩ ?_
    refine Wp.ret ?_
    refine thenR ?_
    have hr := Option.some.inj h
    subst hr
    exact RetK [.t (.bool false)] (.one (.t (.bool false))) [] kr kr (.refl _) .nil
  · have h := cond_f h hc
    refine Wp.skip ?_
    refine thenN ?_
    refine Wp.srg [] [] ?_
    refine Runs.alln ?_
    refine Wp.fg ⟨[(4, .t (.bool true))], [], []⟩ ?_
    refine Wp.ret ?_
    have hr := Option.some.inj h
    subst hr
    exact RetK [.t (.bool true)] (.one (.t (.bool true))) [] kr kr (.refl _) .nil
theorem laws_eqByteS_ok (u : Nat) (p0 : List Int) (p1 : List Int) (r : Bool) (h : laws_eqByteS u p0 p1 = some r) : CallOK Try.prog 16 [.one (.t (.sl 1 (p0.map (eInt .u8)))), .one (.t (.sl 1 (p1.map (eInt .u8))))] (.one (.t (.bool r))) [] := by
  unfold laws_eqByteS at h
  refine CallOK.of_bodyK (fn := Try.f16) (m := false) [.t (.sl 1 (p0.map (eInt .u8))), .t (.sl 1 (p1.map (eInt .u8)))] kr rfl kr kr kr kr kr ?_
  refine Wp.srg [] [] ?_
  refine Runs.alln ?_
  refine Wp.fg ⟨[(0, .t (.sl 1 (p0.map (eInt .u8)))), (1, .t (.sl 1 (p1.map (eInt .u8)))), (4, .t (.bool false))], [], []⟩ ?_
  refine Wp.seq ?_
  refine Wp.srg [] [] ?_
  refine Runs.batch 1 kr ?_
  refine Runs.lenT (y := .t (.sl 1 (p0.map (eInt .u8)))) (e := 5) (eInt .u8) p0 1 rfl rfl rfl kr kr kr kr kr ?_
  refine Runs.batch 1 kr ?_
  refine Runs.lenT (y := .t (.sl 1 (p1.map (eInt .u8)))) (e := 5) (eInt .u8) p1 1 rfl rfl rfl kr kr kr kr kr ?_
  refine Runs.alln ?_
  refine Wp.fg ⟨[(0, .t (.sl 1 (p0.map (eInt .u8)))), (1, .t (.sl 1 (p1.map (eInt .u8)))), (4, .t (.bool false)), (10, .t (.bool (((p0.length : Int)) != ((p1.length : Int)))))], [], []⟩ ?_
  refine Wp.cond2 (b := ((p0.length : Int)) != ((p1.length : Int))) kr (fun hc => ?_) (fun hc => ?_)
  · have h := cond_t h hc
    refine Wp.srg [] [] ?_
    refine Runs.alln ?_
    refine Wp.fg ⟨[(0, .t (.sl 1 (p0.map (eInt .u8)))), (1, .t (.sl 1 (p1.map (eInt .u8)))), (4, .t (.bool false))], [], []⟩ ?_
    refine Wp.ret ?_
    refine thenR ?_
    have hr := Option.some.inj h
    subst hr
    exact RetK [.t (.bool false)] (.one (.t (.bool false))) [] kr kr (.refl _) .nil
  · have h := cond_f h hc
    refine Wp.skip ?_
    refine thenN ?_
    refine Wp.seqJ (α := Unit) (fun a => ⟨[(4, .t (.bool false))], [], []⟩) (fun a => laws_eqByteS_j1 u = some r) ?_ ?_
    · rintro ⟨⟩ h
      change laws_eqByteS_j1 u = some r at h
      unfold laws_eqByteS_j1 at h
      refine Wp.srg [] [] ?_
      refine Runs.alln ?_
      refine Wp.fg ⟨[(4, .t (.bool true))], [], []⟩ ?_
      refine Wp.ret ?_
      have hr := Option.some.inj h
      subst hr
      exact RetK [.t (.bool true)] (.one (.t (.bool true))) [] kr kr (.refl _) .nil
    · refine Wp.srg [] [] ?_
      refine Runs.alln ?_
      refine Wp.fg ⟨[(0, .t (.sl 1 (p0.map (eInt .u8)))), (1, .t (.sl 1 (p1.map (eInt .u8)))), (4, .t (.bool false)), (5, .t (.int .i64 0))], [], []⟩ ?_
      refine Wp.block ?_
      refine Wp.loopF (α := (List Int) × (List Int) × Int) (fun a => ⟨[(0, .t (.sl 1 (a.1.map (eInt .u8)))), (1, .t (.sl 1 (a.2.1.map (eInt .u8)))), (4, .t (.bool false)), (5, .t (.int .i64 a.2.2))], [], []⟩) (fun k_laws_eqByteS_l2 a => laws_eqByteS_l2 u k_laws_eqByteS_l2 a.1 a.2.1 a.2.2 = some r) ?_ ?_ u (p0, p1, 0) h (Le.of (mo := []) (mr := []) kr kr kr kr)
      · intro a h; unfold laws_eqByteS_l2 at h; cases h
      · rintro k_laws_eqByteS_l2 ⟨p0, p1, x2⟩ h
        change laws_eqByteS_l2 u (k_laws_eqByteS_l2 + 1) p0 p1 x2 = some r at h
        rw [laws_eqByteS_l2] at h
        refine Wp.seq ?_
        refine Wp.srg [] [] ?_
        refine Runs.batch 2 kr ?_
        refine Runs.lenT (y := .t (.sl 1 (p0.map (eInt .u8)))) (e := 5) (eInt .u8) p0 1 rfl rfl rfl kr kr kr kr kr ?_
        refine Runs.alln ?_
        refine Wp.fg ⟨[(0, .t (.sl 1 (p0.map (eInt .u8)))), (1, .t (.sl 1 (p1.map (eInt .u8)))), (4, .t (.bool false)), (5, .t (.int .i64 x2)), (11, .t (.int .i64 x2)), (12, .t (.sl 1 (p0.map (eInt .u8)))), (13, .t (.int .i64 ((p0.length : Int)))), (14, .t (.bool (decide (x2 < ((p0.length : Int))))))], [], []⟩ ?_
        refine Wp.cond2 (b := decide (x2 < ((p0.length : Int)))) kr (fun hc => ?_) (fun hc => ?_)
        · have h := cond_t h hc
          refine Wp.skip ?_
          refine thenN ?_
          refine Wp.seq ?_
          refine Wp.block ?_
          refine Wp.seq ?_
          refine Wp.regionA (pOf []) (rhoOf [(0, .frz), (1, .frz), (5, .frz), (17, .frz), (18, .frz), (19, .frz), (20, .frz), (21, .frz), (22, .frz), (23, .frz), (24, .frz)]) kr kr ?_
          refine Runs.batch 2 kr ?_
          obtain ⟨y4, e_y4, h⟩ := bind_some h
          refine Runs.idxT (e := 5) (kk := .i64) (sz := 1) (eInt .u8) p0 x2 rfl kr kr kr kr kr kr e_y4 ?_
          refine Runs.batch 3 kr ?_
          obtain ⟨y5, e_y5, h⟩ := bind_some h
          refine Runs.idxT (e := 5) (kk := .i64) (sz := 1) (eInt .u8) p1 x2 rfl kr kr kr kr kr kr e_y5 ?_
          refine Runs.alln ?_
          refine Wp.fg ⟨[(0, .t (.sl 1 (p0.map (eInt .u8)))), (1, .t (.sl 1 (p1.map (eInt .u8)))), (4, .t (.bool false)), (5, .t (.int .i64 x2)), (11, .t (.int .i64 x2)), (12, .t (.sl 1 (p0.map (eInt .u8)))), (13, .t (.int .i64 ((p0.length : Int)))), (14, .t (.bool (decide (x2 < ((p0.length : Int)))))), (17, .t (.sl 1 (p0.map (eInt .u8)))), (18, .t (.int .i64 x2)), (19, .fadr [.int .u8 y4]), (20, .t (.int .u8 y4)), (21, .t (.sl 1 (p1.map (eInt .u8)))), (22, .t (.int .i64 x2)), (23, .fadr [.int .u8 y5]), (24, .t (.int .u8 y5)), (25, .t (.bool (y4 != y5)))], [], []⟩ ?_
          refine Wp.cond2 (b := y4 != y5) kr (fun hc => ?_) (fun hc => ?_)
          · have h := cond_t h hc
            refine Wp.srg [] [] ?_
            refine Runs.alln ?_
            refine Wp.fg ⟨[(0, .t (.sl 1 (p0.map (eInt .u8)))), (1, .t (.sl 1 (p1.map (eInt .u8)))), (4, .t (.bool false)), (5, .t (.int .i64 x2)), (11, .t (.int .i64 x2)), (12, .t (.sl 1 (p0.map (eInt .u8)))), (13, .t (.int .i64 ((p0.length : Int)))), (14, .t (.bool (decide (x2 < ((p0.length : Int)))))), (17, .t (.sl 1 (p0.map (eInt .u8)))), (18, .t (.int .i64 x2)), (19, .fadr [.int .u8 y4]), (20, .t (.int .u8 y4)), (21, .t (.sl 1 (p1.map (eInt .u8)))), (22, .t (.int .i64 x2)), (23, .fadr [.int .u8 y5]), (24, .t (.int .u8 y5)), (25, .t (.bool (y4 != y5)))], [], []⟩ ?_
            refine Wp.ret ?_
            refine blkR ?_
            refine thenR ?_
            refine thenR ?_
            refine blkR ?_
            refine thenR ?_
            have hr := Option.some.inj h
            subst hr
            exact RetK [.t (.bool false)] (.one (.t (.bool false))) [] kr kr (.refl _) .nil
          · have h := cond_f h hc
            refine Wp.skip ?_
            refine blkN ?_
            refine thenN ?_
            refine Wp.rg [] [] ?_
            refine Runs.alln ?_
            exact ⟨(p0, p1, bAdd .i64 x2 1), h, Le.of (mo := []) (mr := []) kr kr kr kr⟩
        · have h := cond_f h hc
          refine Wp.exit ?_
          refine thenE ?_
          refine thenE ?_
          refine blkE ?_
          refine thenN ?_
          exact ⟨(), h, Le.of (mo := []) (mr := []) kr kr kr kr⟩
theorem laws_eqImage_ok (u : Nat) (p0 : Image) (p1 : Image) (r : Bool) (h : laws_eqImage u p0 p1 = some r) : CallOK Try.prog 52 [.agg [.t (.sl 1 (p0.fB.map (eInt .u8)))], .agg [.t (.sl 1 (p1.fB.map (eInt .u8)))]] (.one (.t (.bool r))) [] := by
  unfold laws_eqImage at h
  refine CallOK.of_bodyK (fn := Try.f52) (m := false) [.agg [.t (.sl 1 (p0.fB.map (eInt .u8)))], .agg [.t (.sl 1 (p1.fB.map (eInt .u8)))]] kr rfl kr kr kr kr kr ?_
  refine Wp.srg [] [] ?_
  refine Runs.alln ?_
  refine Wp.fg ⟨[(2, .obj 2 0), (3, .obj 3 0), (4, .t (.bool false))], [(2, [.t (.sl 1 (p0.fB.map (eInt .u8)))]), (3, [.t (.sl 1 (p1.fB.map (eInt .u8)))])], []⟩ ?_
  refine Wp.seq ?_
  refine Wp.srg [] [] ?_
  refine Runs.batch 4 kr ?_
  obtain ⟨r1, e_r1, h⟩ := bind_some h
  refine Runs.callK false 9 16 [] [.t (.sl 1 (p0.fB.map (eInt .u8))), .t (.sl 1 (p1.fB.map (eInt .u8)))] [.one (.t (.sl 1 (p0.fB.map (eInt .u8)))), .one (.t (.sl 1 (p1.fB.map (eInt .u8))))] (.one (.t (.bool r1))) [] rfl rfl kr kr kr kr kr (laws_eqByteS_ok u p0.fB p1.fB r1 e_r1) kr ?_
  refine Runs.alln ?_
  refine Wp.fg ⟨[(4, .t (.bool false)), (10, .t (.bool (!r1)))], [], []⟩ ?_
  refine Wp.cond2 (b := !r1) kr (fun hc => ?_) (fun hc => ?_)
  · have h := cond_t h hc
    refine Wp.srg [] [] ?_
    refine Runs.alln ?_
    refine Wp.fg ⟨[(4, .t (.bool false))], [], []⟩ ?_
    refine Wp.ret ?_
    refine thenR ?_
    have hr := Option.some.inj h
    subst hr
    exact RetK [.t (.bool false)] (.one (.t (.bool false))) [] kr kr (.refl _) .nil
  · have h := cond_f h hc
    refine Wp.skip ?_
    refine thenN ?_
    refine Wp.srg [] [] ?_
    refine Runs.alln ?_
    refine Wp.fg ⟨[(4, .t (.bool true))], [], []⟩ ?_
    refine Wp.ret ?_
    have hr := Option.some.inj h
    subst hr
    exact RetK [.t (.bool true)] (.one (.t (.bool true))) [] kr kr (.refl _) .nil
theorem laws_eqImageS_ok (u : Nat) (p0 : List Image) (p1 : List Image) (r : Bool) (h : laws_eqImageS u p0 p1 = some r) : CallOK Try.prog 21 [.one (.t (.sl 1 (p0.map Image.enc))), .one (.t (.sl 1 (p1.map Image.enc)))] (.one (.t (.bool r))) [] := by
  unfold laws_eqImageS at h
  refine CallOK.of_bodyK (fn := Try.f21) (m := false) [.t (.sl 1 (p0.map Image.enc)), .t (.sl 1 (p1.map Image.enc))] kr rfl kr kr kr kr kr ?_
  refine Wp.srg [] [] ?_
  refine Runs.alln ?_
  refine Wp.fg ⟨[(0, .t (.sl 1 (p0.map Image.enc))), (1, .t (.sl 1 (p1.map Image.enc))), (4, .t (.bool false))], [], []⟩ ?_
  refine Wp.seq ?_
  refine Wp.srg [] [] ?_
  refine Runs.batch 1 kr ?_
  refine Runs.lenT (y := .t (.sl 1 (p0.map Image.enc))) (e := 67) Image.enc p0 1 rfl rfl rfl kr kr kr kr kr ?_
  refine Runs.batch 1 kr ?_
  refine Runs.lenT (y := .t (.sl 1 (p1.map Image.enc))) (e := 67) Image.enc p1 1 rfl rfl rfl kr kr kr kr kr ?_
  refine Runs.alln ?_
  refine Wp.fg ⟨[(0, .t (.sl 1 (p0.map Image.enc))), (1, .t (.sl 1 (p1.map Image.enc))), (4, .t (.bool false)), (10, .t (.bool (((p0.length : Int)) != ((p1.length : Int)))))], [], []⟩ ?_
  refine Wp.cond2 (b := ((p0.length : Int)) != ((p1.length : Int))) kr (fun hc => ?_) (fun hc => ?_)
  · have h := cond_t h hc
    refine Wp.srg [] [] ?_
    refine Runs.alln ?_
    refine Wp.fg ⟨[(0, .t (.sl 1 (p0.map Image.enc))), (1, .t (.sl 1 (p1.map Image.enc))), (4, .t (.bool false))], [], []⟩ ?_
    refine Wp.ret ?_
    refine thenR ?_
    have hr := Option.some.inj h
    subst hr
    exact RetK [.t (.bool false)] (.one (.t (.bool false))) [] kr kr (.refl _) .nil
  · have h := cond_f h hc
    refine Wp.skip ?_
    refine thenN ?_
    refine Wp.seqJ (α := Unit) (fun a => ⟨[(4, .t (.bool false))], [], []⟩) (fun a => laws_eqImageS_j1 u = some r) ?_ ?_
    · rintro ⟨⟩ h
      change laws_eqImageS_j1 u = some r at h
      unfold laws_eqImageS_j1 at h
      refine Wp.srg [] [] ?_
      refine Runs.alln ?_
      refine Wp.fg ⟨[(4, .t (.bool true))], [], []⟩ ?_
      refine Wp.ret ?_
      have hr := Option.some.inj h
      subst hr
      exact RetK [.t (.bool true)] (.one (.t (.bool true))) [] kr kr (.refl _) .nil
    · refine Wp.srg [] [] ?_
      refine Runs.alln ?_
      refine Wp.fg ⟨[(0, .t (.sl 1 (p0.map Image.enc))), (1, .t (.sl 1 (p1.map Image.enc))), (4, .t (.bool false)), (5, .t (.int .i64 0))], [], []⟩ ?_
      refine Wp.block ?_
      refine Wp.loopF (α := (List Image) × (List Image) × Int) (fun a => ⟨[(0, .t (.sl 1 (a.1.map Image.enc))), (1, .t (.sl 1 (a.2.1.map Image.enc))), (4, .t (.bool false)), (5, .t (.int .i64 a.2.2))], [], []⟩) (fun k_laws_eqImageS_l2 a => laws_eqImageS_l2 u k_laws_eqImageS_l2 a.1 a.2.1 a.2.2 = some r) ?_ ?_ u (p0, p1, 0) h (Le.of (mo := []) (mr := []) kr kr kr kr)
      · intro a h; unfold laws_eqImageS_l2 at h; cases h
      · rintro k_laws_eqImageS_l2 ⟨p0, p1, x2⟩ h
        change laws_eqImageS_l2 u (k_laws_eqImageS_l2 + 1) p0 p1 x2 = some r at h
        rw [laws_eqImageS_l2] at h
        refine Wp.seq ?_
        refine Wp.srg [] [] ?_
        refine Runs.batch 2 kr ?_
        refine Runs.lenT (y := .t (.sl 1 (p0.map Image.enc))) (e := 67) Image.enc p0 1 rfl rfl rfl kr kr kr kr kr ?_
        refine Runs.alln ?_
        refine Wp.fg ⟨[(0, .t (.sl 1 (p0.map Image.enc))), (1, .t (.sl 1 (p1.map Image.enc))), (4, .t (.bool false)), (5, .t (.int .i64 x2)), (11, .t (.int .i64 x2)), (12, .t (.sl 1 (p0.map Image.enc))), (13, .t (.int .i64 ((p0.length : Int)))), (14, .t (.bool (decide (x2 < ((p0.length : Int))))))], [], []⟩ ?_
        refine Wp.cond2 (b := decide (x2 < ((p0.length : Int)))) kr (fun hc => ?_) (fun hc => ?_)
        · have h := cond_t h hc
          refine Wp.skip ?_
          refine thenN ?_
          refine Wp.seq ?_
          refine Wp.block ?_
          refine Wp.seq ?_
          refine Wp.regionA (pOf []) (rhoOf [(0, .frz), (1, .frz), (5, .frz), (17, .frz), (18, .frz), (19, .frz), (20, .frz), (21, .frz), (22, .frz), (23, .frz), (24, .frz), (25, .frz)]) kr kr ?_
          refine Runs.batch 2 kr ?_
          obtain ⟨y4, e_y4, h⟩ := bind_some h
          refine Runs.idxT (e := 67) (kk := .i64) (sz := 1) Image.enc p0 x2 rfl kr kr kr kr kr kr e_y4 ?_
          refine Runs.batch 3 kr ?_
          obtain ⟨y5, e_y5, h⟩ := bind_some h
          refine Runs.idxT (e := 67) (kk := .i64) (sz := 1) Image.enc p1 x2 rfl kr kr kr kr kr kr e_y5 ?_
          refine Runs.batch 1 kr ?_
          obtain ⟨r6, e_r6, h⟩ := bind_some h
          refine Runs.callK false 25 52 [] [.agg [.t (.sl 1 (y4.fB.map (eInt .u8)))], .agg [.t (.sl 1 (y5.fB.map (eInt .u8)))]] [.agg [.t (.sl 1 (y4.fB.map (eInt .u8)))], .agg [.t (.sl 1 (y5.fB.map (eInt .u8)))]] (.one (.t (.bool r6))) [] rfl rfl kr kr kr kr kr (laws_eqImage_ok u y4 y5 r6 e_r6) kr ?_
          refine Runs.alln ?_
          refine Wp.fg ⟨[(0, .t (.sl 1 (p0.map Image.enc))), (1, .t (.sl 1 (p1.map Image.enc))), (4, .t (.bool false)), (5, .t (.int .i64 x2)), (11, .t (.int .i64 x2)), (12, .t (.sl 1 (p0.map Image.enc))), (13, .t (.int .i64 ((p0.length : Int)))), (14, .t (.bool (decide (x2 < ((p0.length : Int)))))), (17, .t (.sl 1 (p0.map Image.enc))), (18, .t (.int .i64 x2)), (19, .fadr [.sl 1 (y4.fB.map (eInt .u8))]), (20, .agg [.t (.sl 1 (y4.fB.map (eInt .u8)))]), (21, .t (.sl 1 (p1.map Image.enc))), (22, .t (.int .i64 x2)), (23, .fadr [.sl 1 (y5.fB.map (eInt .u8))]), (24, .agg [.t (.sl 1 (y5.fB.map (eInt .u8)))]), (25, .t (.bool r6)), (26, .t (.bool (!r6)))], [], []⟩ ?_
          refine Wp.cond2 (b := !r6) kr (fun hc => ?_) (fun hc => ?_)
          · have h := cond_t h hc
            refine Wp.srg [] [] ?_
            refine Runs.alln ?_
            refine Wp.fg ⟨[(0, .t (.sl 1 (p0.map Image.enc))), (1, .t (.sl 1 (p1.map Image.enc))), (4, .t (.bool false)), (5, .t (.int .i64 x2)), (11, .t (.int .i64 x2)), (12, .t (.sl 1 (p0.map Image.enc))), (13, .t (.int .i64 ((p0.length : Int)))), (14, .t (.bool (decide (x2 < ((p0.length : Int)))))), (17, .t (.sl 1 (p0.map Image.enc))), (18, .t (.int .i64 x2)), (19, .fadr [.sl 1 (y4.fB.map (eInt .u8))]), (20, .agg [.t (.sl 1 (y4.fB.map (eInt .u8)))]), (21, .t (.sl 1 (p1.map Image.enc))), (22, .t (.int .i64 x2)), (23, .fadr [.sl 1 (y5.fB.map (eInt .u8))]), (24, .agg [.t (.sl 1 (y5.fB.map (eInt .u8)))]), (25, .t (.bool r6)), (26, .t (.bool (!r6)))], [], []⟩ ?_
            refine Wp.ret ?_
            refine blkR ?_
            refine thenR ?_
            refine thenR ?_
            refine blkR ?_
            refine thenR ?_
            have hr := Option.some.inj h
            subst hr
            exact RetK [.t (.bool false)] (.one (.t (.bool false))) [] kr kr (.refl _) .nil
          · have h := cond_f h hc
            refine Wp.skip ?_
            refine blkN ?_
            refine thenN ?_
            refine Wp.rg [] [] ?_
            refine Runs.alln ?_
            exact ⟨(p0, p1, bAdd .i64 x2 1), h, Le.of (mo := []) (mr := []) kr kr kr kr⟩
        · have h := cond_f h hc
          refine Wp.exit ?_
          refine thenE ?_
          refine thenE ?_
          refine blkE ?_
          refine thenN ?_
          exact ⟨(), h, Le.of (mo := []) (mr := []) kr kr kr kr⟩
theorem laws_eqSum_ok (u : Nat) (p0 : Sum) (p1 : Sum) (r : Bool) (h : laws_eqSum u p0 p1 = some r) : CallOK Try.prog 199 [.agg [.t (.int .i64 p0.fW), .t (.int .i64 p0.fS)], .agg [.t (.int .i64 p1.fW), .t (.int .i64 p1.fS)]] (.one (.t (.bool r))) [] := by
  unfold laws_eqSum at h
  refine CallOK.of_bodyK (fn := Try.f199) (m := false) [.agg [.t (.int .i64 p0.fW), .t (.int .i64 p0.fS)], .agg [.t (.int .i64 p1.fW), .t (.int .i64 p1.fS)]] kr rfl kr kr kr kr kr ?_
  refine Wp.srg [] [] ?_
  refine Runs.alln ?_
  refine Wp.fg ⟨[(2, .obj 2 0), (3, .obj 3 0), (4, .t (.bool false))], [(2, [.t (.int .i64 p0.fW), .t (.int .i64 p0.fS)]), (3, [.t (.int .i64 p1.fW), .t (.int .i64 p1.fS)])], []⟩ ?_
  refine Wp.seq ?_
  refine Wp.srg [] [] ?_
  refine Runs.alln ?_
  refine Wp.fg ⟨[(2, .obj 2 0), (3, .obj 3 0), (4, .t (.bool false)), (9, .t (.bool (p0.fW != p1.fW)))], [(2, [.t (.int .i64 p0.fW), .t (.int .i64 p0.fS)]), (3, [.t (.int .i64 p1.fW), .t (.int .i64 p1.fS)])], []⟩ ?_
  refine Wp.cond2 (b := p0.fW != p1.fW) kr (fun hc => ?_) (fun hc => ?_)
  · have h := cond_t h hc
    refine Wp.srg [] [] ?_
    refine Runs.alln ?_
    refine Wp.fg ⟨[(2, .obj 2 0), (3, .obj 3 0), (4, .t (.bool false))], [(2, [.t (.int .i64 p0.fW), .t (.int .i64 p0.fS)]), (3, [.t (.int .i64 p1.fW), .t (.int .i64 p1.fS)])], []⟩ ?_
    refine Wp.ret ?_
    refine thenR ?_
    have hr := Option.some.inj h
    subst hr
    exact RetK [.t (.bool false)] (.one (.t (.bool false))) [] kr kr (.refl _) .nil
  · have h := cond_f h hc
    refine Wp.skip ?_
    refine thenN ?_
    refine Wp.seq ?_
    refine Wp.srg [] [] ?_
    refine Runs.alln ?_
    refine Wp.fg ⟨[(4, .t (.bool false)), (14, .t (.bool (p0.fS != p1.fS)))], [], []⟩ ?_
    refine Wp.cond2 (b := p0.fS != p1.fS) kr (fun hc => ?_) (fun hc => ?_)
    · have h := cond_t h hc
      refine Wp.srg [] [] ?_
      refine Runs.alln ?_
      refine Wp.fg ⟨[(4, .t (.bool false))], [], []⟩ ?_
      refine Wp.ret ?_
      refine thenR ?_
      have hr := Option.some.inj h
      subst hr
      exact RetK [.t (.bool false)] (.one (.t (.bool false))) [] kr kr (.refl _) .nil
    · have h := cond_f h hc
      refine Wp.skip ?_
      refine thenN ?_
      refine Wp.srg [] [] ?_
      refine Runs.alln ?_
      refine Wp.fg ⟨[(4, .t (.bool true))], [], []⟩ ?_
      refine Wp.ret ?_
      have hr := Option.some.inj h
      subst hr
      exact RetK [.t (.bool true)] (.one (.t (.bool true))) [] kr kr (.refl _) .nil
theorem laws_eqSumS_ok (u : Nat) (p0 : List Sum) (p1 : List Sum) (r : Bool) (h : laws_eqSumS u p0 p1 = some r) : CallOK Try.prog 186 [.one (.t (.sl 2 (p0.map Sum.enc))), .one (.t (.sl 2 (p1.map Sum.enc)))] (.one (.t (.bool r))) [] := by
  unfold laws_eqSumS at h
  refine CallOK.of_bodyK (fn := Try.f186) (m := false) [.t (.sl 2 (p0.map Sum.enc)), .t (.sl 2 (p1.map Sum.enc))] kr rfl kr kr kr kr kr ?_
  refine Wp.srg [] [] ?_
  refine Runs.alln ?_
  refine Wp.fg ⟨[(0, .t (.sl 2 (p0.map Sum.enc))), (1, .t (.sl 2 (p1.map Sum.enc))), (4, .t (.bool false))], [], []⟩ ?_
  refine Wp.seq ?_
  refine Wp.srg [] [] ?_
  refine Runs.batch 1 kr ?_
  refine Runs.lenT (y := .t (.sl 2 (p0.map Sum.enc))) (e := 166) Sum.enc p0 2 rfl rfl rfl kr kr kr kr kr ?_
  refine Runs.batch 1 kr ?_
  refine Runs.lenT (y := .t (.sl 2 (p1.map Sum.enc))) (e := 166) Sum.enc p1 2 rfl rfl rfl kr kr kr kr kr ?_
  refine Runs.alln ?_
  refine Wp.fg ⟨[(0, .t (.sl 2 (p0.map Sum.enc))), (1, .t (.sl 2 (p1.map Sum.enc))), (4, .t (.bool false)), (10, .t (.bool (((p0.length : Int)) != ((p1.length : Int)))))], [], []⟩ ?_
  refine Wp.cond2 (b := ((p0.length : Int)) != ((p1.length : Int))) kr (fun hc => ?_) (fun hc => ?_)
  · have h := cond_t h hc
    refine Wp.srg [] [] ?_
    refine Runs.alln ?_
    refine Wp.fg ⟨[(0, .t (.sl 2 (p0.map Sum.enc))), (1, .t (.sl 2 (p1.map Sum.enc))), (4, .t (.bool false))], [], []⟩ ?_
    refine Wp.ret ?_
    refine thenR ?_
    have hr := Option.some.inj h
    subst hr
    exact RetK [.t (.bool false)] (.one (.t (.bool false))) [] kr kr (.refl _) .nil
  · have h := cond_f h hc
    refine Wp.skip ?_
    refine thenN ?_
    refine Wp.seqJ (α := Unit) (fun a => ⟨[(4, .t (.bool false))], [], []⟩) (fun a => laws_eqSumS_j1 u = some r) ?_ ?_
    · rintro ⟨⟩ h
      change laws_eqSumS_j1 u = some r at h
      unfold laws_eqSumS_j1 at h
      refine Wp.srg [] [] ?_
      refine Runs.alln ?_
      refine Wp.fg ⟨[(4, .t (.bool true))], [], []⟩ ?_
      refine Wp.ret ?_
      have hr := Option.some.inj h
      subst hr
      exact RetK [.t (.bool true)] (.one (.t (.bool true))) [] kr kr (.refl _) .nil
    · refine Wp.srg [] [] ?_
      refine Runs.alln ?_
      refine Wp.fg ⟨[(0, .t (.sl 2 (p0.map Sum.enc))), (1, .t (.sl 2 (p1.map Sum.enc))), (4, .t (.bool false)), (5, .t (.int .i64 0))], [], []⟩ ?_
      refine Wp.block ?_
      refine Wp.loopF (α := (List Sum) × (List Sum) × Int) (fun a => ⟨[(0, .t (.sl 2 (a.1.map Sum.enc))), (1, .t (.sl 2 (a.2.1.map Sum.enc))), (4, .t (.bool false)), (5, .t (.int .i64 a.2.2))], [], []⟩) (fun k_laws_eqSumS_l2 a => laws_eqSumS_l2 u k_laws_eqSumS_l2 a.1 a.2.1 a.2.2 = some r) ?_ ?_ u (p0, p1, 0) h (Le.of (mo := []) (mr := []) kr kr kr kr)
      · intro a h; unfold laws_eqSumS_l2 at h; cases h
      · rintro k_laws_eqSumS_l2 ⟨p0, p1, x2⟩ h
        change laws_eqSumS_l2 u (k_laws_eqSumS_l2 + 1) p0 p1 x2 = some r at h
        rw [laws_eqSumS_l2] at h
        refine Wp.seq ?_
        refine Wp.srg [] [] ?_
        refine Runs.batch 2 kr ?_
        refine Runs.lenT (y := .t (.sl 2 (p0.map Sum.enc))) (e := 166) Sum.enc p0 2 rfl rfl rfl kr kr kr kr kr ?_
        refine Runs.alln ?_
        refine Wp.fg ⟨[(0, .t (.sl 2 (p0.map Sum.enc))), (1, .t (.sl 2 (p1.map Sum.enc))), (4, .t (.bool false)), (5, .t (.int .i64 x2)), (11, .t (.int .i64 x2)), (12, .t (.sl 2 (p0.map Sum.enc))), (13, .t (.int .i64 ((p0.length : Int)))), (14, .t (.bool (decide (x2 < ((p0.length : Int))))))], [], []⟩ ?_
        refine Wp.cond2 (b := decide (x2 < ((p0.length : Int)))) kr (fun hc => ?_) (fun hc => ?_)
        · have h := cond_t h hc
          refine Wp.skip ?_
          refine thenN ?_
          refine Wp.seq ?_
          refine Wp.block ?_
          refine Wp.seq ?_
          refine Wp.regionA (pOf []) (rhoOf [(0, .frz), (1, .frz), (5, .frz), (17, .frz), (18, .frz), (19, .frz), (20, .frz), (21, .frz), (22, .frz), (23, .frz), (24, .frz), (25, .frz)]) kr kr ?_
          refine Runs.batch 2 kr ?_
          obtain ⟨y4, e_y4, h⟩ := bind_some h
          refine Runs.idxT (e := 166) (kk := .i64) (sz := 2) Sum.enc p0 x2 rfl kr kr kr kr kr kr e_y4 ?_
          refine Runs.batch 3 kr ?_
          obtain ⟨y5, e_y5, h⟩ := bind_some h
          refine Runs.idxT (e := 166) (kk := .i64) (sz := 2) Sum.enc p1 x2 rfl kr kr kr kr kr kr e_y5 ?_
          refine Runs.batch 1 kr ?_
          obtain ⟨r6, e_r6, h⟩ := bind_some h
          refine Runs.callK false 25 199 [] [.agg [.t (.int .i64 y4.fW), .t (.int .i64 y4.fS)], .agg [.t (.int .i64 y5.fW), .t (.int .i64 y5.fS)]] [.agg [.t (.int .i64 y4.fW), .t (.int .i64 y4.fS)], .agg [.t (.int .i64 y5.fW), .t (.int .i64 y5.fS)]] (.one (.t (.bool r6))) [] rfl rfl kr kr kr kr kr (laws_eqSum_ok u y4 y5 r6 e_r6) kr ?_
          refine Runs.alln ?_
          refine Wp.fg ⟨[(0, .t (.sl 2 (p0.map Sum.enc))), (1, .t (.sl 2 (p1.map Sum.enc))), (4, .t (.bool false)), (5, .t (.int .i64 x2)), (11, .t (.int .i64 x2)), (12, .t (.sl 2 (p0.map Sum.enc))), (13, .t (.int .i64 ((p0.length : Int)))), (14, .t (.bool (decide (x2 < ((p0.length : Int)))))), (17, .t (.sl 2 (p0.map Sum.enc))), (18, .t (.int .i64 x2)), (19, .fadr [.int .i64 y4.fW, .int .i64 y4.fS]), (20, .agg [.t (.int .i64 y4.fW), .t (.int .i64 y4.fS)]), (21, .t (.sl 2 (p1.map Sum.enc))), (22, .t (.int .i64 x2)), (23, .fadr [.int .i64 y5.fW, .int .i64 y5.fS]), (24, .agg [.t (.int .i64 y5.fW), .t (.int .i64 y5.fS)]), (25, .t (.bool r6)), (26, .t (.bool (!r6)))], [], []⟩ ?_
          refine Wp.cond2 (b := !r6) kr (fun hc => ?_) (fun hc => ?_)
          · have h := cond_t h hc
            refine Wp.srg [] [] ?_
            refine Runs.alln ?_
            refine Wp.fg ⟨[(0, .t (.sl 2 (p0.map Sum.enc))), (1, .t (.sl 2 (p1.map Sum.enc))), (4, .t (.bool false)), (5, .t (.int .i64 x2)), (11, .t (.int .i64 x2)), (12, .t (.sl 2 (p0.map Sum.enc))), (13, .t (.int .i64 ((p0.length : Int)))), (14, .t (.bool (decide (x2 < ((p0.length : Int)))))), (17, .t (.sl 2 (p0.map Sum.enc))), (18, .t (.int .i64 x2)), (19, .fadr [.int .i64 y4.fW, .int .i64 y4.fS]), (20, .agg [.t (.int .i64 y4.fW), .t (.int .i64 y4.fS)]), (21, .t (.sl 2 (p1.map Sum.enc))), (22, .t (.int .i64 x2)), (23, .fadr [.int .i64 y5.fW, .int .i64 y5.fS]), (24, .agg [.t (.int .i64 y5.fW), .t (.int .i64 y5.fS)]), (25, .t (.bool r6)), (26, .t (.bool (!r6)))], [], []⟩ ?_
            refine Wp.ret ?_
            refine blkR ?_
            refine thenR ?_
            refine thenR ?_
            refine blkR ?_
            refine thenR ?_
            have hr := Option.some.inj h
            subst hr
            exact RetK [.t (.bool false)] (.one (.t (.bool false))) [] kr kr (.refl _) .nil
          · have h := cond_f h hc
            refine Wp.skip ?_
            refine blkN ?_
            refine thenN ?_
            refine Wp.rg [] [] ?_
            refine Runs.alln ?_
            exact ⟨(p0, p1, bAdd .i64 x2 1), h, Le.of (mo := []) (mr := []) kr kr kr kr⟩
        · have h := cond_f h hc
          refine Wp.exit ?_
          refine thenE ?_
          refine thenE ?_
          refine blkE ?_
          refine thenN ?_
          exact ⟨(), h, Le.of (mo := []) (mr := []) kr kr kr kr⟩
theorem laws_eqManifest_ok (u : Nat) (p0 : Manifest) (p1 : Manifest) (r : Bool) (h : laws_eqManifest u p0 p1 = some r) : CallOK Try.prog 158 [.agg [.t (.int .i64 p0.fGen), .t (.int .i64 p0.fSize), .t (.int .i64 p0.fLen), .t (.sl 2 (p0.fSums.map Sum.enc))], .agg [.t (.int .i64 p1.fGen), .t (.int .i64 p1.fSize), .t (.int .i64 p1.fLen), .t (.sl 2 (p1.fSums.map Sum.enc))]] (.one (.t (.bool r))) [] := by
  unfold laws_eqManifest at h
  refine CallOK.of_bodyK (fn := Try.f158) (m := false) [.agg ((Manifest.enc p0).map .t), .agg ((Manifest.enc p1).map .t)] kr rfl kr kr kr kr kr ?_
  refine Wp.srg [] [] ?_
  refine Runs.alln ?_
  refine Wp.fg ⟨[(2, .obj 2 0), (3, .obj 3 0), (4, .t (.bool false))], [(2, ((Manifest.enc p0).map .t)), (3, ((Manifest.enc p1).map .t))], []⟩ ?_
  refine Wp.seq ?_
  refine Wp.srg [] [] ?_
  refine Runs.alln ?_
  refine Wp.fg ⟨[(2, .obj 2 0), (3, .obj 3 0), (4, .t (.bool false)), (9, .t (.bool (p0.fGen != p1.fGen)))], [(2, ((Manifest.enc p0).map .t)), (3, ((Manifest.enc p1).map .t))], []⟩ ?_
  refine Wp.cond2 (b := p0.fGen != p1.fGen) kr (fun hc => ?_) (fun hc => ?_)
  · have h := cond_t h hc
    refine Wp.srg [] [] ?_
    refine Runs.alln ?_
    refine Wp.fg ⟨[(2, .obj 2 0), (3, .obj 3 0), (4, .t (.bool false))], [(2, ((Manifest.enc p0).map .t)), (3, ((Manifest.enc p1).map .t))], []⟩ ?_
    refine Wp.ret ?_
    refine thenR ?_
    have hr := Option.some.inj h
    subst hr
    exact RetK [.t (.bool false)] (.one (.t (.bool false))) [] kr kr (.refl _) .nil
  · have h := cond_f h hc
    refine Wp.skip ?_
    refine thenN ?_
    refine Wp.seq ?_
    refine Wp.srg [] [] ?_
    refine Runs.alln ?_
    refine Wp.fg ⟨[(2, .obj 2 0), (3, .obj 3 0), (4, .t (.bool false)), (14, .t (.bool (p0.fSize != p1.fSize)))], [(2, ((Manifest.enc p0).map .t)), (3, ((Manifest.enc p1).map .t))], []⟩ ?_
    refine Wp.cond2 (b := p0.fSize != p1.fSize) kr (fun hc => ?_) (fun hc => ?_)
    · have h := cond_t h hc
      refine Wp.srg [] [] ?_
      refine Runs.alln ?_
      refine Wp.fg ⟨[(2, .obj 2 0), (3, .obj 3 0), (4, .t (.bool false))], [(2, ((Manifest.enc p0).map .t)), (3, ((Manifest.enc p1).map .t))], []⟩ ?_
      refine Wp.ret ?_
      refine thenR ?_
      have hr := Option.some.inj h
      subst hr
      exact RetK [.t (.bool false)] (.one (.t (.bool false))) [] kr kr (.refl _) .nil
    · have h := cond_f h hc
      refine Wp.skip ?_
      refine thenN ?_
      refine Wp.seq ?_
      refine Wp.srg [] [] ?_
      refine Runs.alln ?_
      refine Wp.fg ⟨[(2, .obj 2 0), (3, .obj 3 0), (4, .t (.bool false)), (19, .t (.bool (p0.fLen != p1.fLen)))], [(2, ((Manifest.enc p0).map .t)), (3, ((Manifest.enc p1).map .t))], []⟩ ?_
      refine Wp.cond2 (b := p0.fLen != p1.fLen) kr (fun hc => ?_) (fun hc => ?_)
      · have h := cond_t h hc
        refine Wp.srg [] [] ?_
        refine Runs.alln ?_
        refine Wp.fg ⟨[(2, .obj 2 0), (3, .obj 3 0), (4, .t (.bool false))], [(2, ((Manifest.enc p0).map .t)), (3, ((Manifest.enc p1).map .t))], []⟩ ?_
        refine Wp.ret ?_
        refine thenR ?_
        have hr := Option.some.inj h
        subst hr
        exact RetK [.t (.bool false)] (.one (.t (.bool false))) [] kr kr (.refl _) .nil
      · have h := cond_f h hc
        refine Wp.skip ?_
        refine thenN ?_
        refine Wp.seq ?_
        refine Wp.srg [] [] ?_
        refine Runs.batch 4 kr ?_
        obtain ⟨r1, e_r1, h⟩ := bind_some h
        refine Runs.callK false 24 186 [] [.t (.sl 2 (p0.fSums.map Sum.enc)), .t (.sl 2 (p1.fSums.map Sum.enc))] [.one (.t (.sl 2 (p0.fSums.map Sum.enc))), .one (.t (.sl 2 (p1.fSums.map Sum.enc)))] (.one (.t (.bool r1))) [] rfl rfl kr kr kr kr kr (laws_eqSumS_ok u p0.fSums p1.fSums r1 e_r1) kr ?_
        refine Runs.alln ?_
        refine Wp.fg ⟨[(4, .t (.bool false)), (25, .t (.bool (!r1)))], [], []⟩ ?_
        refine Wp.cond2 (b := !r1) kr (fun hc => ?_) (fun hc => ?_)
        · have h := cond_t h hc
          refine Wp.srg [] [] ?_
          refine Runs.alln ?_
          refine Wp.fg ⟨[(4, .t (.bool false))], [], []⟩ ?_
          refine Wp.ret ?_
          refine thenR ?_
          have hr := Option.some.inj h
          subst hr
          exact RetK [.t (.bool false)] (.one (.t (.bool false))) [] kr kr (.refl _) .nil
        · have h := cond_f h hc
          refine Wp.skip ?_
          refine thenN ?_
          refine Wp.srg [] [] ?_
          refine Runs.alln ?_
          refine Wp.fg ⟨[(4, .t (.bool true))], [], []⟩ ?_
          refine Wp.ret ?_
          have hr := Option.some.inj h
          subst hr
          exact RetK [.t (.bool true)] (.one (.t (.bool true))) [] kr kr (.refl _) .nil
theorem laws_eqBuild_ok (u : Nat) (p0 : Build) (p1 : Build) (r : Bool) (h : laws_eqBuild u p0 p1 = some r) : CallOK Try.prog 159 [.agg [.t (.int .i64 p0.fHave), .t (.sl 1 (p0.fBuf.map (eInt .u8)))], .agg [.t (.int .i64 p1.fHave), .t (.sl 1 (p1.fBuf.map (eInt .u8)))]] (.one (.t (.bool r))) [] := by
  unfold laws_eqBuild at h
  refine CallOK.of_bodyK (fn := Try.f159) (m := false) [.agg [.t (.int .i64 p0.fHave), .t (.sl 1 (p0.fBuf.map (eInt .u8)))], .agg [.t (.int .i64 p1.fHave), .t (.sl 1 (p1.fBuf.map (eInt .u8)))]] kr rfl kr kr kr kr kr ?_
  refine Wp.srg [] [] ?_
  refine Runs.alln ?_
  refine Wp.fg ⟨[(2, .obj 2 0), (3, .obj 3 0), (4, .t (.bool false))], [(2, [.t (.int .i64 p0.fHave), .t (.sl 1 (p0.fBuf.map (eInt .u8)))]), (3, [.t (.int .i64 p1.fHave), .t (.sl 1 (p1.fBuf.map (eInt .u8)))])], []⟩ ?_
  refine Wp.seq ?_
  refine Wp.srg [] [] ?_
  refine Runs.alln ?_
  refine Wp.fg ⟨[(2, .obj 2 0), (3, .obj 3 0), (4, .t (.bool false)), (9, .t (.bool (p0.fHave != p1.fHave)))], [(2, [.t (.int .i64 p0.fHave), .t (.sl 1 (p0.fBuf.map (eInt .u8)))]), (3, [.t (.int .i64 p1.fHave), .t (.sl 1 (p1.fBuf.map (eInt .u8)))])], []⟩ ?_
  refine Wp.cond2 (b := p0.fHave != p1.fHave) kr (fun hc => ?_) (fun hc => ?_)
  · have h := cond_t h hc
    refine Wp.srg [] [] ?_
    refine Runs.alln ?_
    refine Wp.fg ⟨[(2, .obj 2 0), (3, .obj 3 0), (4, .t (.bool false))], [(2, [.t (.int .i64 p0.fHave), .t (.sl 1 (p0.fBuf.map (eInt .u8)))]), (3, [.t (.int .i64 p1.fHave), .t (.sl 1 (p1.fBuf.map (eInt .u8)))])], []⟩ ?_
    refine Wp.ret ?_
    refine thenR ?_
    have hr := Option.some.inj h
    subst hr
    exact RetK [.t (.bool false)] (.one (.t (.bool false))) [] kr kr (.refl _) .nil
  · have h := cond_f h hc
    refine Wp.skip ?_
    refine thenN ?_
    refine Wp.seq ?_
    refine Wp.srg [] [] ?_
    refine Runs.batch 4 kr ?_
    obtain ⟨r1, e_r1, h⟩ := bind_some h
    refine Runs.callK false 14 16 [] [.t (.sl 1 (p0.fBuf.map (eInt .u8))), .t (.sl 1 (p1.fBuf.map (eInt .u8)))] [.one (.t (.sl 1 (p0.fBuf.map (eInt .u8)))), .one (.t (.sl 1 (p1.fBuf.map (eInt .u8))))] (.one (.t (.bool r1))) [] rfl rfl kr kr kr kr kr (laws_eqByteS_ok u p0.fBuf p1.fBuf r1 e_r1) kr ?_
    refine Runs.alln ?_
    refine Wp.fg ⟨[(4, .t (.bool false)), (15, .t (.bool (!r1)))], [], []⟩ ?_
    refine Wp.cond2 (b := !r1) kr (fun hc => ?_) (fun hc => ?_)
    · have h := cond_t h hc
      refine Wp.srg [] [] ?_
      refine Runs.alln ?_
      refine Wp.fg ⟨[(4, .t (.bool false))], [], []⟩ ?_
      refine Wp.ret ?_
      refine thenR ?_
      have hr := Option.some.inj h
      subst hr
      exact RetK [.t (.bool false)] (.one (.t (.bool false))) [] kr kr (.refl _) .nil
    · have h := cond_f h hc
      refine Wp.skip ?_
      refine thenN ?_
      refine Wp.srg [] [] ?_
      refine Runs.alln ?_
      refine Wp.fg ⟨[(4, .t (.bool true))], [], []⟩ ?_
      refine Wp.ret ?_
      have hr := Option.some.inj h
      subst hr
      exact RetK [.t (.bool true)] (.one (.t (.bool true))) [] kr kr (.refl _) .nil
theorem laws_eqKid_ok (u : Nat) (p0 : Kid) (p1 : Kid) (r : Bool) (h : laws_eqKid u p0 p1 = some r) : CallOK Try.prog 187 [.agg [.t (.int .i64 p0.fId), .t (.int .i64 p0.fWant), .t (.int .i64 p0.fDone), .t (.int .i64 p0.fAge), .t (.int .i64 p0.fSent)], .agg [.t (.int .i64 p1.fId), .t (.int .i64 p1.fWant), .t (.int .i64 p1.fDone), .t (.int .i64 p1.fAge), .t (.int .i64 p1.fSent)]] (.one (.t (.bool r))) [] := by
  unfold laws_eqKid at h
  refine CallOK.of_bodyK (fn := Try.f187) (m := false) [.agg ((Kid.enc p0).map .t), .agg ((Kid.enc p1).map .t)] kr rfl kr kr kr kr kr ?_
  refine Wp.srg [] [] ?_
  refine Runs.alln ?_
  refine Wp.fg ⟨[(2, .obj 2 0), (3, .obj 3 0), (4, .t (.bool false))], [(2, ((Kid.enc p0).map .t)), (3, ((Kid.enc p1).map .t))], []⟩ ?_
  refine Wp.seq ?_
  refine Wp.srg [] [] ?_
  refine Runs.alln ?_
  refine Wp.fg ⟨[(2, .obj 2 0), (3, .obj 3 0), (4, .t (.bool false)), (9, .t (.bool (p0.fId != p1.fId)))], [(2, ((Kid.enc p0).map .t)), (3, ((Kid.enc p1).map .t))], []⟩ ?_
  refine Wp.cond2 (b := p0.fId != p1.fId) kr (fun hc => ?_) (fun hc => ?_)
  · have h := cond_t h hc
    refine Wp.srg [] [] ?_
    refine Runs.alln ?_
    refine Wp.fg ⟨[(2, .obj 2 0), (3, .obj 3 0), (4, .t (.bool false))], [(2, ((Kid.enc p0).map .t)), (3, ((Kid.enc p1).map .t))], []⟩ ?_
    refine Wp.ret ?_
    refine thenR ?_
    have hr := Option.some.inj h
    subst hr
    exact RetK [.t (.bool false)] (.one (.t (.bool false))) [] kr kr (.refl _) .nil
  · have h := cond_f h hc
    refine Wp.skip ?_
    refine thenN ?_
    refine Wp.seq ?_
    refine Wp.srg [] [] ?_
    refine Runs.alln ?_
    refine Wp.fg ⟨[(2, .obj 2 0), (3, .obj 3 0), (4, .t (.bool false)), (14, .t (.bool (p0.fWant != p1.fWant)))], [(2, ((Kid.enc p0).map .t)), (3, ((Kid.enc p1).map .t))], []⟩ ?_
    refine Wp.cond2 (b := p0.fWant != p1.fWant) kr (fun hc => ?_) (fun hc => ?_)
    · have h := cond_t h hc
      refine Wp.srg [] [] ?_
      refine Runs.alln ?_
      refine Wp.fg ⟨[(2, .obj 2 0), (3, .obj 3 0), (4, .t (.bool false))], [(2, ((Kid.enc p0).map .t)), (3, ((Kid.enc p1).map .t))], []⟩ ?_
      refine Wp.ret ?_
      refine thenR ?_
      have hr := Option.some.inj h
      subst hr
      exact RetK [.t (.bool false)] (.one (.t (.bool false))) [] kr kr (.refl _) .nil
    · have h := cond_f h hc
      refine Wp.skip ?_
      refine thenN ?_
      refine Wp.seq ?_
      refine Wp.srg [] [] ?_
      refine Runs.alln ?_
      refine Wp.fg ⟨[(2, .obj 2 0), (3, .obj 3 0), (4, .t (.bool false)), (19, .t (.bool (p0.fDone != p1.fDone)))], [(2, ((Kid.enc p0).map .t)), (3, ((Kid.enc p1).map .t))], []⟩ ?_
      refine Wp.cond2 (b := p0.fDone != p1.fDone) kr (fun hc => ?_) (fun hc => ?_)
      · have h := cond_t h hc
        refine Wp.srg [] [] ?_
        refine Runs.alln ?_
        refine Wp.fg ⟨[(2, .obj 2 0), (3, .obj 3 0), (4, .t (.bool false))], [(2, ((Kid.enc p0).map .t)), (3, ((Kid.enc p1).map .t))], []⟩ ?_
        refine Wp.ret ?_
        refine thenR ?_
        have hr := Option.some.inj h
        subst hr
        exact RetK [.t (.bool false)] (.one (.t (.bool false))) [] kr kr (.refl _) .nil
      · have h := cond_f h hc
        refine Wp.skip ?_
        refine thenN ?_
        refine Wp.seq ?_
        refine Wp.srg [] [] ?_
        refine Runs.alln ?_
        refine Wp.fg ⟨[(2, .obj 2 0), (3, .obj 3 0), (4, .t (.bool false)), (24, .t (.bool (p0.fAge != p1.fAge)))], [(2, ((Kid.enc p0).map .t)), (3, ((Kid.enc p1).map .t))], []⟩ ?_
        refine Wp.cond2 (b := p0.fAge != p1.fAge) kr (fun hc => ?_) (fun hc => ?_)
        · have h := cond_t h hc
          refine Wp.srg [] [] ?_
          refine Runs.alln ?_
          refine Wp.fg ⟨[(2, .obj 2 0), (3, .obj 3 0), (4, .t (.bool false))], [(2, ((Kid.enc p0).map .t)), (3, ((Kid.enc p1).map .t))], []⟩ ?_
          refine Wp.ret ?_
          refine thenR ?_
          have hr := Option.some.inj h
          subst hr
          exact RetK [.t (.bool false)] (.one (.t (.bool false))) [] kr kr (.refl _) .nil
        · have h := cond_f h hc
          refine Wp.skip ?_
          refine thenN ?_
          refine Wp.seq ?_
          refine Wp.srg [] [] ?_
          refine Runs.alln ?_
          refine Wp.fg ⟨[(4, .t (.bool false)), (29, .t (.bool (p0.fSent != p1.fSent)))], [], []⟩ ?_
          refine Wp.cond2 (b := p0.fSent != p1.fSent) kr (fun hc => ?_) (fun hc => ?_)
          · have h := cond_t h hc
            refine Wp.srg [] [] ?_
            refine Runs.alln ?_
            refine Wp.fg ⟨[(4, .t (.bool false))], [], []⟩ ?_
            refine Wp.ret ?_
            refine thenR ?_
            have hr := Option.some.inj h
            subst hr
            exact RetK [.t (.bool false)] (.one (.t (.bool false))) [] kr kr (.refl _) .nil
          · have h := cond_f h hc
            refine Wp.skip ?_
            refine thenN ?_
            refine Wp.srg [] [] ?_
            refine Runs.alln ?_
            refine Wp.fg ⟨[(4, .t (.bool true))], [], []⟩ ?_
            refine Wp.ret ?_
            have hr := Option.some.inj h
            subst hr
            exact RetK [.t (.bool true)] (.one (.t (.bool true))) [] kr kr (.refl _) .nil
theorem laws_eqKidS_ok (u : Nat) (p0 : List Kid) (p1 : List Kid) (r : Bool) (h : laws_eqKidS u p0 p1 = some r) : CallOK Try.prog 160 [.one (.t (.sl 5 (p0.map Kid.enc))), .one (.t (.sl 5 (p1.map Kid.enc)))] (.one (.t (.bool r))) [] := by
  unfold laws_eqKidS at h
  refine CallOK.of_bodyK (fn := Try.f160) (m := false) [.t (.sl 5 (p0.map Kid.enc)), .t (.sl 5 (p1.map Kid.enc))] kr rfl kr kr kr kr kr ?_
  refine Wp.srg [] [] ?_
  refine Runs.alln ?_
  refine Wp.fg ⟨[(0, .t (.sl 5 (p0.map Kid.enc))), (1, .t (.sl 5 (p1.map Kid.enc))), (4, .t (.bool false))], [], []⟩ ?_
  refine Wp.seq ?_
  refine Wp.srg [] [] ?_
  refine Runs.batch 1 kr ?_
  refine Runs.lenT (y := .t (.sl 5 (p0.map Kid.enc))) (e := 156) Kid.enc p0 5 rfl rfl rfl kr kr kr kr kr ?_
  refine Runs.batch 1 kr ?_
  refine Runs.lenT (y := .t (.sl 5 (p1.map Kid.enc))) (e := 156) Kid.enc p1 5 rfl rfl rfl kr kr kr kr kr ?_
  refine Runs.alln ?_
  refine Wp.fg ⟨[(0, .t (.sl 5 (p0.map Kid.enc))), (1, .t (.sl 5 (p1.map Kid.enc))), (4, .t (.bool false)), (10, .t (.bool (((p0.length : Int)) != ((p1.length : Int)))))], [], []⟩ ?_
  refine Wp.cond2 (b := ((p0.length : Int)) != ((p1.length : Int))) kr (fun hc => ?_) (fun hc => ?_)
  · have h := cond_t h hc
    refine Wp.srg [] [] ?_
    refine Runs.alln ?_
    refine Wp.fg ⟨[(0, .t (.sl 5 (p0.map Kid.enc))), (1, .t (.sl 5 (p1.map Kid.enc))), (4, .t (.bool false))], [], []⟩ ?_
    refine Wp.ret ?_
    refine thenR ?_
    have hr := Option.some.inj h
    subst hr
    exact RetK [.t (.bool false)] (.one (.t (.bool false))) [] kr kr (.refl _) .nil
  · have h := cond_f h hc
    refine Wp.skip ?_
    refine thenN ?_
    refine Wp.seqJ (α := Unit) (fun a => ⟨[(4, .t (.bool false))], [], []⟩) (fun a => laws_eqKidS_j1 u = some r) ?_ ?_
    · rintro ⟨⟩ h
      change laws_eqKidS_j1 u = some r at h
      unfold laws_eqKidS_j1 at h
      refine Wp.srg [] [] ?_
      refine Runs.alln ?_
      refine Wp.fg ⟨[(4, .t (.bool true))], [], []⟩ ?_
      refine Wp.ret ?_
      have hr := Option.some.inj h
      subst hr
      exact RetK [.t (.bool true)] (.one (.t (.bool true))) [] kr kr (.refl _) .nil
    · refine Wp.srg [] [] ?_
      refine Runs.alln ?_
      refine Wp.fg ⟨[(0, .t (.sl 5 (p0.map Kid.enc))), (1, .t (.sl 5 (p1.map Kid.enc))), (4, .t (.bool false)), (5, .t (.int .i64 0))], [], []⟩ ?_
      refine Wp.block ?_
      refine Wp.loopF (α := (List Kid) × (List Kid) × Int) (fun a => ⟨[(0, .t (.sl 5 (a.1.map Kid.enc))), (1, .t (.sl 5 (a.2.1.map Kid.enc))), (4, .t (.bool false)), (5, .t (.int .i64 a.2.2))], [], []⟩) (fun k_laws_eqKidS_l2 a => laws_eqKidS_l2 u k_laws_eqKidS_l2 a.1 a.2.1 a.2.2 = some r) ?_ ?_ u (p0, p1, 0) h (Le.of (mo := []) (mr := []) kr kr kr kr)
      · intro a h; unfold laws_eqKidS_l2 at h; cases h
      · rintro k_laws_eqKidS_l2 ⟨p0, p1, x2⟩ h
        change laws_eqKidS_l2 u (k_laws_eqKidS_l2 + 1) p0 p1 x2 = some r at h
        rw [laws_eqKidS_l2] at h
        refine Wp.seq ?_
        refine Wp.srg [] [] ?_
        refine Runs.batch 2 kr ?_
        refine Runs.lenT (y := .t (.sl 5 (p0.map Kid.enc))) (e := 156) Kid.enc p0 5 rfl rfl rfl kr kr kr kr kr ?_
        refine Runs.alln ?_
        refine Wp.fg ⟨[(0, .t (.sl 5 (p0.map Kid.enc))), (1, .t (.sl 5 (p1.map Kid.enc))), (4, .t (.bool false)), (5, .t (.int .i64 x2)), (11, .t (.int .i64 x2)), (12, .t (.sl 5 (p0.map Kid.enc))), (13, .t (.int .i64 ((p0.length : Int)))), (14, .t (.bool (decide (x2 < ((p0.length : Int))))))], [], []⟩ ?_
        refine Wp.cond2 (b := decide (x2 < ((p0.length : Int)))) kr (fun hc => ?_) (fun hc => ?_)
        · have h := cond_t h hc
          refine Wp.skip ?_
          refine thenN ?_
          refine Wp.seq ?_
          refine Wp.block ?_
          refine Wp.seq ?_
          refine Wp.regionA (pOf []) (rhoOf [(0, .frz), (1, .frz), (5, .frz), (17, .frz), (18, .frz), (19, .frz), (20, .frz), (21, .frz), (22, .frz), (23, .frz), (24, .frz), (25, .frz)]) kr kr ?_
          refine Runs.batch 2 kr ?_
          obtain ⟨y4, e_y4, h⟩ := bind_some h
          refine Runs.idxT (e := 156) (kk := .i64) (sz := 5) Kid.enc p0 x2 rfl kr kr kr kr kr kr e_y4 ?_
          refine Runs.batch 3 kr ?_
          obtain ⟨y5, e_y5, h⟩ := bind_some h
          refine Runs.idxT (e := 156) (kk := .i64) (sz := 5) Kid.enc p1 x2 rfl kr kr kr kr kr kr e_y5 ?_
          refine Runs.batch 1 kr ?_
          obtain ⟨r6, e_r6, h⟩ := bind_some h
          refine Runs.callK false 25 187 [] [.agg ((Kid.enc y4).map .t), .agg ((Kid.enc y5).map .t)] [.agg ((Kid.enc y4).map .t), .agg ((Kid.enc y5).map .t)] (.one (.t (.bool r6))) [] rfl rfl kr kr kr kr kr (laws_eqKid_ok u y4 y5 r6 e_r6) kr ?_
          refine Runs.alln ?_
          refine Wp.fg ⟨[(0, .t (.sl 5 (p0.map Kid.enc))), (1, .t (.sl 5 (p1.map Kid.enc))), (4, .t (.bool false)), (5, .t (.int .i64 x2)), (11, .t (.int .i64 x2)), (12, .t (.sl 5 (p0.map Kid.enc))), (13, .t (.int .i64 ((p0.length : Int)))), (14, .t (.bool (decide (x2 < ((p0.length : Int)))))), (17, .t (.sl 5 (p0.map Kid.enc))), (18, .t (.int .i64 x2)), (19, .fadr (Kid.enc y4)), (20, .agg ((Kid.enc y4).map .t)), (21, .t (.sl 5 (p1.map Kid.enc))), (22, .t (.int .i64 x2)), (23, .fadr (Kid.enc y5)), (24, .agg ((Kid.enc y5).map .t)), (25, .t (.bool r6)), (26, .t (.bool (!r6)))], [], []⟩ ?_
          refine Wp.cond2 (b := !r6) kr (fun hc => ?_) (fun hc => ?_)
          · have h := cond_t h hc
            refine Wp.srg [] [] ?_
            refine Runs.alln ?_
            refine Wp.fg ⟨[(0, .t (.sl 5 (p0.map Kid.enc))), (1, .t (.sl 5 (p1.map Kid.enc))), (4, .t (.bool false)), (5, .t (.int .i64 x2)), (11, .t (.int .i64 x2)), (12, .t (.sl 5 (p0.map Kid.enc))), (13, .t (.int .i64 ((p0.length : Int)))), (14, .t (.bool (decide (x2 < ((p0.length : Int)))))), (17, .t (.sl 5 (p0.map Kid.enc))), (18, .t (.int .i64 x2)), (19, .fadr (Kid.enc y4)), (20, .agg ((Kid.enc y4).map .t)), (21, .t (.sl 5 (p1.map Kid.enc))), (22, .t (.int .i64 x2)), (23, .fadr (Kid.enc y5)), (24, .agg ((Kid.enc y5).map .t)), (25, .t (.bool r6)), (26, .t (.bool (!r6)))], [], []⟩ ?_
            refine Wp.ret ?_
            refine blkR ?_
            refine thenR ?_
            refine thenR ?_
            refine blkR ?_
            refine thenR ?_
            have hr := Option.some.inj h
            subst hr
            exact RetK [.t (.bool false)] (.one (.t (.bool false))) [] kr kr (.refl _) .nil
          · have h := cond_f h hc
            refine Wp.skip ?_
            refine blkN ?_
            refine thenN ?_
            refine Wp.rg [] [] ?_
            refine Runs.alln ?_
            exact ⟨(p0, p1, bAdd .i64 x2 1), h, Le.of (mo := []) (mr := []) kr kr kr kr⟩
        · have h := cond_f h hc
          refine Wp.exit ?_
          refine thenE ?_
          refine thenE ?_
          refine blkE ?_
          refine thenN ?_
          exact ⟨(), h, Le.of (mo := []) (mr := []) kr kr kr kr⟩
theorem laws_eqNode_ok (u : Nat) (p0 : Node) (p1 : Node) (r : Bool) (h : laws_eqNode u p0 p1 = some r) : CallOK Try.prog 117 [.agg [.t (.bool p0.fOn), .t (.int .i64 p0.fBoss), .t (.int .i64 p0.fQuiet), .t (.int .i64 p0.fMan.fGen), .t (.int .i64 p0.fMan.fSize), .t (.int .i64 p0.fMan.fLen), .t (.sl 2 (p0.fMan.fSums.map Sum.enc)), .t (.int .i64 p0.fBld.fHave), .t (.sl 1 (p0.fBld.fBuf.map (eInt .u8))), .t (.int .i64 p0.fPhase), .t (.sl 5 (p0.fKids.map Kid.enc)), .t (.int .i64 p0.fDrops)], .agg [.t (.bool p1.fOn), .t (.int .i64 p1.fBoss), .t (.int .i64 p1.fQuiet), .t (.int .i64 p1.fMan.fGen), .t (.int .i64 p1.fMan.fSize), .t (.int .i64 p1.fMan.fLen), .t (.sl 2 (p1.fMan.fSums.map Sum.enc)), .t (.int .i64 p1.fBld.fHave), .t (.sl 1 (p1.fBld.fBuf.map (eInt .u8))), .t (.int .i64 p1.fPhase), .t (.sl 5 (p1.fKids.map Kid.enc)), .t (.int .i64 p1.fDrops)]] (.one (.t (.bool r))) [] := by
  unfold laws_eqNode at h
  refine CallOK.of_bodyK (fn := Try.f117) (m := false) [.agg ((Node.enc p0).map .t), .agg ((Node.enc p1).map .t)] kr rfl kr kr kr kr kr ?_
  refine Wp.srg [] [] ?_
  refine Runs.alln ?_
  refine Wp.fg ⟨[(2, .obj 2 0), (3, .obj 3 0), (4, .t (.bool false))], [(2, ((Node.enc p0).map .t)), (3, ((Node.enc p1).map .t))], []⟩ ?_
  refine Wp.seq ?_
  refine Wp.srg [] [] ?_
  refine Runs.alln ?_
  refine Wp.fg ⟨[(2, .obj 2 0), (3, .obj 3 0), (4, .t (.bool false)), (9, .t (.bool (!(p0.fOn == p1.fOn))))], [(2, ((Node.enc p0).map .t)), (3, ((Node.enc p1).map .t))], []⟩ ?_
  refine Wp.cond2 (b := !(p0.fOn == p1.fOn)) kr (fun hc => ?_) (fun hc => ?_)
  · have h := cond_t h hc
    refine Wp.srg [] [] ?_
    refine Runs.alln ?_
    refine Wp.fg ⟨[(2, .obj 2 0), (3, .obj 3 0), (4, .t (.bool false))], [(2, ((Node.enc p0).map .t)), (3, ((Node.enc p1).map .t))], []⟩ ?_
    refine Wp.ret ?_
    refine thenR ?_
    have hr := Option.some.inj h
    subst hr
    exact RetK [.t (.bool false)] (.one (.t (.bool false))) [] kr kr (.refl _) .nil
  · have h := cond_f h hc
    refine Wp.skip ?_
    refine thenN ?_
    refine Wp.seq ?_
    refine Wp.srg [] [] ?_
    refine Runs.alln ?_
    refine Wp.fg ⟨[(2, .obj 2 0), (3, .obj 3 0), (4, .t (.bool false)), (14, .t (.bool (p0.fBoss != p1.fBoss)))], [(2, ((Node.enc p0).map .t)), (3, ((Node.enc p1).map .t))], []⟩ ?_
    refine Wp.cond2 (b := p0.fBoss != p1.fBoss) kr (fun hc => ?_) (fun hc => ?_)
    · have h := cond_t h hc
      refine Wp.srg [] [] ?_
      refine Runs.alln ?_
      refine Wp.fg ⟨[(2, .obj 2 0), (3, .obj 3 0), (4, .t (.bool false))], [(2, ((Node.enc p0).map .t)), (3, ((Node.enc p1).map .t))], []⟩ ?_
      refine Wp.ret ?_
      refine thenR ?_
      have hr := Option.some.inj h
      subst hr
      exact RetK [.t (.bool false)] (.one (.t (.bool false))) [] kr kr (.refl _) .nil
    · have h := cond_f h hc
      refine Wp.skip ?_
      refine thenN ?_
      refine Wp.seq ?_
      refine Wp.srg [] [] ?_
      refine Runs.alln ?_
      refine Wp.fg ⟨[(2, .obj 2 0), (3, .obj 3 0), (4, .t (.bool false)), (19, .t (.bool (p0.fQuiet != p1.fQuiet)))], [(2, ((Node.enc p0).map .t)), (3, ((Node.enc p1).map .t))], []⟩ ?_
      refine Wp.cond2 (b := p0.fQuiet != p1.fQuiet) kr (fun hc => ?_) (fun hc => ?_)
      · have h := cond_t h hc
        refine Wp.srg [] [] ?_
        refine Runs.alln ?_
        refine Wp.fg ⟨[(2, .obj 2 0), (3, .obj 3 0), (4, .t (.bool false))], [(2, ((Node.enc p0).map .t)), (3, ((Node.enc p1).map .t))], []⟩ ?_
        refine Wp.ret ?_
        refine thenR ?_
        have hr := Option.some.inj h
        subst hr
        exact RetK [.t (.bool false)] (.one (.t (.bool false))) [] kr kr (.refl _) .nil
      · have h := cond_f h hc
        refine Wp.skip ?_
        refine thenN ?_
        refine Wp.seq ?_
        refine Wp.srg [] [] ?_
        refine Runs.batch 4 kr ?_
        obtain ⟨r1, e_r1, h⟩ := bind_some h
        refine Runs.callK false 24 158 [] [.agg ((Manifest.enc p0.fMan).map .t), .agg ((Manifest.enc p1.fMan).map .t)] [.agg ((Manifest.enc p0.fMan).map .t), .agg ((Manifest.enc p1.fMan).map .t)] (.one (.t (.bool r1))) [] rfl rfl kr kr kr kr kr (laws_eqManifest_ok u p0.fMan p1.fMan r1 e_r1) kr ?_
        refine Runs.alln ?_
        refine Wp.fg ⟨[(2, .obj 2 0), (3, .obj 3 0), (4, .t (.bool false)), (25, .t (.bool (!r1)))], [(2, ((Node.enc p0).map .t)), (3, ((Node.enc p1).map .t))], []⟩ ?_
        refine Wp.cond2 (b := !r1) kr (fun hc => ?_) (fun hc => ?_)
        · have h := cond_t h hc
          refine Wp.srg [] [] ?_
          refine Runs.alln ?_
          refine Wp.fg ⟨[(2, .obj 2 0), (3, .obj 3 0), (4, .t (.bool false))], [(2, ((Node.enc p0).map .t)), (3, ((Node.enc p1).map .t))], []⟩ ?_
          refine Wp.ret ?_
          refine thenR ?_
          have hr := Option.some.inj h
          subst hr
          exact RetK [.t (.bool false)] (.one (.t (.bool false))) [] kr kr (.refl _) .nil
        · have h := cond_f h hc
          refine Wp.skip ?_
          refine thenN ?_
          refine Wp.seq ?_
          refine Wp.srg [] [] ?_
          refine Runs.batch 4 kr ?_
          obtain ⟨r2, e_r2, h⟩ := bind_some h
          refine Runs.callK false 30 159 [] [.agg [.t (.int .i64 p0.fBld.fHave), .t (.sl 1 (p0.fBld.fBuf.map (eInt .u8)))], .agg [.t (.int .i64 p1.fBld.fHave), .t (.sl 1 (p1.fBld.fBuf.map (eInt .u8)))]] [.agg [.t (.int .i64 p0.fBld.fHave), .t (.sl 1 (p0.fBld.fBuf.map (eInt .u8)))], .agg [.t (.int .i64 p1.fBld.fHave), .t (.sl 1 (p1.fBld.fBuf.map (eInt .u8)))]] (.one (.t (.bool r2))) [] rfl rfl kr kr kr kr kr (laws_eqBuild_ok u p0.fBld p1.fBld r2 e_r2) kr ?_
          refine Runs.alln ?_
          refine Wp.fg ⟨[(2, .obj 2 0), (3, .obj 3 0), (4, .t (.bool false)), (31, .t (.bool (!r2)))], [(2, ((Node.enc p0).map .t)), (3, ((Node.enc p1).map .t))], []⟩ ?_
          refine Wp.cond2 (b := !r2) kr (fun hc => ?_) (fun hc => ?_)
          · have h := cond_t h hc
            refine Wp.srg [] [] ?_
            refine Runs.alln ?_
            refine Wp.fg ⟨[(2, .obj 2 0), (3, .obj 3 0), (4, .t (.bool false))], [(2, ((Node.enc p0).map .t)), (3, ((Node.enc p1).map .t))], []⟩ ?_
            refine Wp.ret ?_
            refine thenR ?_
            have hr := Option.some.inj h
            subst hr
            exact RetK [.t (.bool false)] (.one (.t (.bool false))) [] kr kr (.refl _) .nil
          · have h := cond_f h hc
            refine Wp.skip ?_
            refine thenN ?_
            refine Wp.seq ?_
            refine Wp.srg [] [] ?_
            refine Runs.alln ?_
            refine Wp.fg ⟨[(2, .obj 2 0), (3, .obj 3 0), (4, .t (.bool false)), (36, .t (.bool (p0.fPhase != p1.fPhase)))], [(2, ((Node.enc p0).map .t)), (3, ((Node.enc p1).map .t))], []⟩ ?_
            refine Wp.cond2 (b := p0.fPhase != p1.fPhase) kr (fun hc => ?_) (fun hc => ?_)
            · have h := cond_t h hc
              refine Wp.srg [] [] ?_
              refine Runs.alln ?_
              refine Wp.fg ⟨[(2, .obj 2 0), (3, .obj 3 0), (4, .t (.bool false))], [(2, ((Node.enc p0).map .t)), (3, ((Node.enc p1).map .t))], []⟩ ?_
              refine Wp.ret ?_
              refine thenR ?_
              have hr := Option.some.inj h
              subst hr
              exact RetK [.t (.bool false)] (.one (.t (.bool false))) [] kr kr (.refl _) .nil
            · have h := cond_f h hc
              refine Wp.skip ?_
              refine thenN ?_
              refine Wp.seq ?_
              refine Wp.srg [] [] ?_
              refine Runs.batch 4 kr ?_
              obtain ⟨r3, e_r3, h⟩ := bind_some h
              refine Runs.callK false 41 160 [] [.t (.sl 5 (p0.fKids.map Kid.enc)), .t (.sl 5 (p1.fKids.map Kid.enc))] [.one (.t (.sl 5 (p0.fKids.map Kid.enc))), .one (.t (.sl 5 (p1.fKids.map Kid.enc)))] (.one (.t (.bool r3))) [] rfl rfl kr kr kr kr kr (laws_eqKidS_ok u p0.fKids p1.fKids r3 e_r3) kr ?_
              refine Runs.alln ?_
              refine Wp.fg ⟨[(2, .obj 2 0), (3, .obj 3 0), (4, .t (.bool false)), (42, .t (.bool (!r3)))], [(2, ((Node.enc p0).map .t)), (3, ((Node.enc p1).map .t))], []⟩ ?_
              refine Wp.cond2 (b := !r3) kr (fun hc => ?_) (fun hc => ?_)
              · have h := cond_t h hc
                refine Wp.srg [] [] ?_
                refine Runs.alln ?_
                refine Wp.fg ⟨[(2, .obj 2 0), (3, .obj 3 0), (4, .t (.bool false))], [(2, ((Node.enc p0).map .t)), (3, ((Node.enc p1).map .t))], []⟩ ?_
                refine Wp.ret ?_
                refine thenR ?_
                have hr := Option.some.inj h
                subst hr
                exact RetK [.t (.bool false)] (.one (.t (.bool false))) [] kr kr (.refl _) .nil
              · have h := cond_f h hc
                refine Wp.skip ?_
                refine thenN ?_
                refine Wp.seq ?_
                refine Wp.srg [] [] ?_
                refine Runs.alln ?_
                refine Wp.fg ⟨[(4, .t (.bool false)), (47, .t (.bool (p0.fDrops != p1.fDrops)))], [], []⟩ ?_
                refine Wp.cond2 (b := p0.fDrops != p1.fDrops) kr (fun hc => ?_) (fun hc => ?_)
                · have h := cond_t h hc
                  refine Wp.srg [] [] ?_
                  refine Runs.alln ?_
                  refine Wp.fg ⟨[(4, .t (.bool false))], [], []⟩ ?_
                  refine Wp.ret ?_
                  refine thenR ?_
                  have hr := Option.some.inj h
                  subst hr
                  exact RetK [.t (.bool false)] (.one (.t (.bool false))) [] kr kr (.refl _) .nil
                · have h := cond_f h hc
                  refine Wp.skip ?_
                  refine thenN ?_
                  refine Wp.srg [] [] ?_
                  refine Runs.alln ?_
                  refine Wp.fg ⟨[(4, .t (.bool true))], [], []⟩ ?_
                  refine Wp.ret ?_
                  have hr := Option.some.inj h
                  subst hr
                  exact RetK [.t (.bool true)] (.one (.t (.bool true))) [] kr kr (.refl _) .nil
theorem laws_eqNodeS_ok (u : Nat) (p0 : List Node) (p1 : List Node) (r : Bool) (h : laws_eqNodeS u p0 p1 = some r) : CallOK Try.prog 67 [.one (.t (.sl 12 (p0.map Node.enc))), .one (.t (.sl 12 (p1.map Node.enc)))] (.one (.t (.bool r))) [] := by
  unfold laws_eqNodeS at h
  refine CallOK.of_bodyK (fn := Try.f67) (m := false) [.t (.sl 12 (p0.map Node.enc)), .t (.sl 12 (p1.map Node.enc))] kr rfl kr kr kr kr kr ?_
  refine Wp.srg [] [] ?_
  refine Runs.alln ?_
  refine Wp.fg ⟨[(0, .t (.sl 12 (p0.map Node.enc))), (1, .t (.sl 12 (p1.map Node.enc))), (4, .t (.bool false))], [], []⟩ ?_
  refine Wp.seq ?_
  refine Wp.srg [] [] ?_
  refine Runs.batch 1 kr ?_
  refine Runs.lenT (y := .t (.sl 12 (p0.map Node.enc))) (e := 114) Node.enc p0 12 rfl rfl rfl kr kr kr kr kr ?_
  refine Runs.batch 1 kr ?_
  refine Runs.lenT (y := .t (.sl 12 (p1.map Node.enc))) (e := 114) Node.enc p1 12 rfl rfl rfl kr kr kr kr kr ?_
  refine Runs.alln ?_
  refine Wp.fg ⟨[(0, .t (.sl 12 (p0.map Node.enc))), (1, .t (.sl 12 (p1.map Node.enc))), (4, .t (.bool false)), (10, .t (.bool (((p0.length : Int)) != ((p1.length : Int)))))], [], []⟩ ?_
  refine Wp.cond2 (b := ((p0.length : Int)) != ((p1.length : Int))) kr (fun hc => ?_) (fun hc => ?_)
  · have h := cond_t h hc
    refine Wp.srg [] [] ?_
    refine Runs.alln ?_
    refine Wp.fg ⟨[(0, .t (.sl 12 (p0.map Node.enc))), (1, .t (.sl 12 (p1.map Node.enc))), (4, .t (.bool false))], [], []⟩ ?_
    refine Wp.ret ?_
    refine thenR ?_
    have hr := Option.some.inj h
    subst hr
    exact RetK [.t (.bool false)] (.one (.t (.bool false))) [] kr kr (.refl _) .nil
  · have h := cond_f h hc
    refine Wp.skip ?_
    refine thenN ?_
    refine Wp.seqJ (α := Unit) (fun a => ⟨[(4, .t (.bool false))], [], []⟩) (fun a => laws_eqNodeS_j1 u = some r) ?_ ?_
    · rintro ⟨⟩ h
      change laws_eqNodeS_j1 u = some r at h
      unfold laws_eqNodeS_j1 at h
      refine Wp.srg [] [] ?_
      refine Runs.alln ?_
      refine Wp.fg ⟨[(4, .t (.bool true))], [], []⟩ ?_
      refine Wp.ret ?_
      have hr := Option.some.inj h
      subst hr
      exact RetK [.t (.bool true)] (.one (.t (.bool true))) [] kr kr (.refl _) .nil
    · refine Wp.srg [] [] ?_
      refine Runs.alln ?_
      refine Wp.fg ⟨[(0, .t (.sl 12 (p0.map Node.enc))), (1, .t (.sl 12 (p1.map Node.enc))), (4, .t (.bool false)), (5, .t (.int .i64 0))], [], []⟩ ?_
      refine Wp.block ?_
      refine Wp.loopF (α := (List Node) × (List Node) × Int) (fun a => ⟨[(0, .t (.sl 12 (a.1.map Node.enc))), (1, .t (.sl 12 (a.2.1.map Node.enc))), (4, .t (.bool false)), (5, .t (.int .i64 a.2.2))], [], []⟩) (fun k_laws_eqNodeS_l2 a => laws_eqNodeS_l2 u k_laws_eqNodeS_l2 a.1 a.2.1 a.2.2 = some r) ?_ ?_ u (p0, p1, 0) h (Le.of (mo := []) (mr := []) kr kr kr kr)
      · intro a h; unfold laws_eqNodeS_l2 at h; cases h
      · rintro k_laws_eqNodeS_l2 ⟨p0, p1, x2⟩ h
        change laws_eqNodeS_l2 u (k_laws_eqNodeS_l2 + 1) p0 p1 x2 = some r at h
        rw [laws_eqNodeS_l2] at h
        refine Wp.seq ?_
        refine Wp.srg [] [] ?_
        refine Runs.batch 2 kr ?_
        refine Runs.lenT (y := .t (.sl 12 (p0.map Node.enc))) (e := 114) Node.enc p0 12 rfl rfl rfl kr kr kr kr kr ?_
        refine Runs.alln ?_
        refine Wp.fg ⟨[(0, .t (.sl 12 (p0.map Node.enc))), (1, .t (.sl 12 (p1.map Node.enc))), (4, .t (.bool false)), (5, .t (.int .i64 x2)), (11, .t (.int .i64 x2)), (12, .t (.sl 12 (p0.map Node.enc))), (13, .t (.int .i64 ((p0.length : Int)))), (14, .t (.bool (decide (x2 < ((p0.length : Int))))))], [], []⟩ ?_
        refine Wp.cond2 (b := decide (x2 < ((p0.length : Int)))) kr (fun hc => ?_) (fun hc => ?_)
        · have h := cond_t h hc
          refine Wp.skip ?_
          refine thenN ?_
          refine Wp.seq ?_
          refine Wp.block ?_
          refine Wp.seq ?_
          refine Wp.regionA (pOf []) (rhoOf [(0, .frz), (1, .frz), (5, .frz), (17, .frz), (18, .frz), (19, .frz), (20, .frz), (21, .frz), (22, .frz), (23, .frz), (24, .frz), (25, .frz)]) kr kr ?_
          refine Runs.batch 2 kr ?_
          obtain ⟨y4, e_y4, h⟩ := bind_some h
          refine Runs.idxT (e := 114) (kk := .i64) (sz := 12) Node.enc p0 x2 rfl kr kr kr kr kr kr e_y4 ?_
          refine Runs.batch 3 kr ?_
          obtain ⟨y5, e_y5, h⟩ := bind_some h
          refine Runs.idxT (e := 114) (kk := .i64) (sz := 12) Node.enc p1 x2 rfl kr kr kr kr kr kr e_y5 ?_
          refine Runs.batch 1 kr ?_
          obtain ⟨r6, e_r6, h⟩ := bind_some h
          refine Runs.callK false 25 117 [] [.agg ((Node.enc y4).map .t), .agg ((Node.enc y5).map .t)] [.agg ((Node.enc y4).map .t), .agg ((Node.enc y5).map .t)] (.one (.t (.bool r6))) [] rfl rfl kr kr kr kr kr (laws_eqNode_ok u y4 y5 r6 e_r6) kr ?_
          refine Runs.alln ?_
          refine Wp.fg ⟨[(0, .t (.sl 12 (p0.map Node.enc))), (1, .t (.sl 12 (p1.map Node.enc))), (4, .t (.bool false)), (5, .t (.int .i64 x2)), (11, .t (.int .i64 x2)), (12, .t (.sl 12 (p0.map Node.enc))), (13, .t (.int .i64 ((p0.length : Int)))), (14, .t (.bool (decide (x2 < ((p0.length : Int)))))), (17, .t (.sl 12 (p0.map Node.enc))), (18, .t (.int .i64 x2)), (19, .fadr (Node.enc y4)), (20, .agg ((Node.enc y4).map .t)), (21, .t (.sl 12 (p1.map Node.enc))), (22, .t (.int .i64 x2)), (23, .fadr (Node.enc y5)), (24, .agg ((Node.enc y5).map .t)), (25, .t (.bool r6)), (26, .t (.bool (!r6)))], [], []⟩ ?_
          refine Wp.cond2 (b := !r6) kr (fun hc => ?_) (fun hc => ?_)
          · have h := cond_t h hc
            refine Wp.srg [] [] ?_
            refine Runs.alln ?_
            refine Wp.fg ⟨[(0, .t (.sl 12 (p0.map Node.enc))), (1, .t (.sl 12 (p1.map Node.enc))), (4, .t (.bool false)), (5, .t (.int .i64 x2)), (11, .t (.int .i64 x2)), (12, .t (.sl 12 (p0.map Node.enc))), (13, .t (.int .i64 ((p0.length : Int)))), (14, .t (.bool (decide (x2 < ((p0.length : Int)))))), (17, .t (.sl 12 (p0.map Node.enc))), (18, .t (.int .i64 x2)), (19, .fadr (Node.enc y4)), (20, .agg ((Node.enc y4).map .t)), (21, .t (.sl 12 (p1.map Node.enc))), (22, .t (.int .i64 x2)), (23, .fadr (Node.enc y5)), (24, .agg ((Node.enc y5).map .t)), (25, .t (.bool r6)), (26, .t (.bool (!r6)))], [], []⟩ ?_
            refine Wp.ret ?_
            refine blkR ?_
            refine thenR ?_
            refine thenR ?_
            refine blkR ?_
            refine thenR ?_
            have hr := Option.some.inj h
            subst hr
            exact RetK [.t (.bool false)] (.one (.t (.bool false))) [] kr kr (.refl _) .nil
          · have h := cond_f h hc
            refine Wp.skip ?_
            refine blkN ?_
            refine thenN ?_
            refine Wp.rg [] [] ?_
            refine Runs.alln ?_
            exact ⟨(p0, p1, bAdd .i64 x2 1), h, Le.of (mo := []) (mr := []) kr kr kr kr⟩
        · have h := cond_f h hc
          refine Wp.exit ?_
          refine thenE ?_
          refine thenE ?_
          refine blkE ?_
          refine thenN ?_
          exact ⟨(), h, Le.of (mo := []) (mr := []) kr kr kr kr⟩
theorem laws_eqRecord_ok (u : Nat) (p0 : Record) (p1 : Record) (r : Bool) (h : laws_eqRecord u p0 p1 = some r) : CallOK Try.prog 161 [.agg [.t (.int .i64 p0.fGen), .t (.int .i64 p0.fSlot), .t (.int .i64 p0.fLen)], .agg [.t (.int .i64 p1.fGen), .t (.int .i64 p1.fSlot), .t (.int .i64 p1.fLen)]] (.one (.t (.bool r))) [] := by
  unfold laws_eqRecord at h
  refine CallOK.of_bodyK (fn := Try.f161) (m := false) [.agg ((Record.enc p0).map .t), .agg ((Record.enc p1).map .t)] kr rfl kr kr kr kr kr ?_
  refine Wp.srg [] [] ?_
  refine Runs.alln ?_
  refine Wp.fg ⟨[(2, .obj 2 0), (3, .obj 3 0), (4, .t (.bool false))], [(2, ((Record.enc p0).map .t)), (3, ((Record.enc p1).map .t))], []⟩ ?_
  refine Wp.seq ?_
  refine Wp.srg [] [] ?_
  refine Runs.alln ?_
  refine Wp.fg ⟨[(2, .obj 2 0), (3, .obj 3 0), (4, .t (.bool false)), (9, .t (.bool (p0.fGen != p1.fGen)))], [(2, ((Record.enc p0).map .t)), (3, ((Record.enc p1).map .t))], []⟩ ?_
  refine Wp.cond2 (b := p0.fGen != p1.fGen) kr (fun hc => ?_) (fun hc => ?_)
  · have h := cond_t h hc
    refine Wp.srg [] [] ?_
    refine Runs.alln ?_
    refine Wp.fg ⟨[(2, .obj 2 0), (3, .obj 3 0), (4, .t (.bool false))], [(2, ((Record.enc p0).map .t)), (3, ((Record.enc p1).map .t))], []⟩ ?_
    refine Wp.ret ?_
    refine thenR ?_
    have hr := Option.some.inj h
    subst hr
    exact RetK [.t (.bool false)] (.one (.t (.bool false))) [] kr kr (.refl _) .nil
  · have h := cond_f h hc
    refine Wp.skip ?_
    refine thenN ?_
    refine Wp.seq ?_
    refine Wp.srg [] [] ?_
    refine Runs.alln ?_
    refine Wp.fg ⟨[(2, .obj 2 0), (3, .obj 3 0), (4, .t (.bool false)), (14, .t (.bool (p0.fSlot != p1.fSlot)))], [(2, ((Record.enc p0).map .t)), (3, ((Record.enc p1).map .t))], []⟩ ?_
    refine Wp.cond2 (b := p0.fSlot != p1.fSlot) kr (fun hc => ?_) (fun hc => ?_)
    · have h := cond_t h hc
      refine Wp.srg [] [] ?_
      refine Runs.alln ?_
      refine Wp.fg ⟨[(2, .obj 2 0), (3, .obj 3 0), (4, .t (.bool false))], [(2, ((Record.enc p0).map .t)), (3, ((Record.enc p1).map .t))], []⟩ ?_
      refine Wp.ret ?_
      refine thenR ?_
      have hr := Option.some.inj h
      subst hr
      exact RetK [.t (.bool false)] (.one (.t (.bool false))) [] kr kr (.refl _) .nil
    · have h := cond_f h hc
      refine Wp.skip ?_
      refine thenN ?_
      refine Wp.seq ?_
      refine Wp.srg [] [] ?_
      refine Runs.alln ?_
      refine Wp.fg ⟨[(4, .t (.bool false)), (19, .t (.bool (p0.fLen != p1.fLen)))], [], []⟩ ?_
      refine Wp.cond2 (b := p0.fLen != p1.fLen) kr (fun hc => ?_) (fun hc => ?_)
      · have h := cond_t h hc
        refine Wp.srg [] [] ?_
        refine Runs.alln ?_
        refine Wp.fg ⟨[(4, .t (.bool false))], [], []⟩ ?_
        refine Wp.ret ?_
        refine thenR ?_
        have hr := Option.some.inj h
        subst hr
        exact RetK [.t (.bool false)] (.one (.t (.bool false))) [] kr kr (.refl _) .nil
      · have h := cond_f h hc
        refine Wp.skip ?_
        refine thenN ?_
        refine Wp.srg [] [] ?_
        refine Runs.alln ?_
        refine Wp.fg ⟨[(4, .t (.bool true))], [], []⟩ ?_
        refine Wp.ret ?_
        have hr := Option.some.inj h
        subst hr
        exact RetK [.t (.bool true)] (.one (.t (.bool true))) [] kr kr (.refl _) .nil
theorem laws_eqPut_ok (u : Nat) (p0 : Put) (p1 : Put) (r : Bool) (h : laws_eqPut u p0 p1 = some r) : CallOK Try.prog 188 [.agg [.t (.int .i64 p0.fWhat), .t (.int .i64 p0.fAt), .t (.sl 1 (p0.fB.map (eInt .u8))), .t (.int .i64 p0.fR.fGen), .t (.int .i64 p0.fR.fSlot), .t (.int .i64 p0.fR.fLen)], .agg [.t (.int .i64 p1.fWhat), .t (.int .i64 p1.fAt), .t (.sl 1 (p1.fB.map (eInt .u8))), .t (.int .i64 p1.fR.fGen), .t (.int .i64 p1.fR.fSlot), .t (.int .i64 p1.fR.fLen)]] (.one (.t (.bool r))) [] := by
  unfold laws_eqPut at h
  refine CallOK.of_bodyK (fn := Try.f188) (m := false) [.agg ((Put.enc p0).map .t), .agg ((Put.enc p1).map .t)] kr rfl kr kr kr kr kr ?_
  refine Wp.srg [] [] ?_
  refine Runs.alln ?_
  refine Wp.fg ⟨[(2, .obj 2 0), (3, .obj 3 0), (4, .t (.bool false))], [(2, ((Put.enc p0).map .t)), (3, ((Put.enc p1).map .t))], []⟩ ?_
  refine Wp.seq ?_
  refine Wp.srg [] [] ?_
  refine Runs.alln ?_
  refine Wp.fg ⟨[(2, .obj 2 0), (3, .obj 3 0), (4, .t (.bool false)), (9, .t (.bool (p0.fWhat != p1.fWhat)))], [(2, ((Put.enc p0).map .t)), (3, ((Put.enc p1).map .t))], []⟩ ?_
  refine Wp.cond2 (b := p0.fWhat != p1.fWhat) kr (fun hc => ?_) (fun hc => ?_)
  · have h := cond_t h hc
    refine Wp.srg [] [] ?_
    refine Runs.alln ?_
    refine Wp.fg ⟨[(2, .obj 2 0), (3, .obj 3 0), (4, .t (.bool false))], [(2, ((Put.enc p0).map .t)), (3, ((Put.enc p1).map .t))], []⟩ ?_
    refine Wp.ret ?_
    refine thenR ?_
    have hr := Option.some.inj h
    subst hr
    exact RetK [.t (.bool false)] (.one (.t (.bool false))) [] kr kr (.refl _) .nil
  · have h := cond_f h hc
    refine Wp.skip ?_
    refine thenN ?_
    refine Wp.seq ?_
    refine Wp.srg [] [] ?_
    refine Runs.alln ?_
    refine Wp.fg ⟨[(2, .obj 2 0), (3, .obj 3 0), (4, .t (.bool false)), (14, .t (.bool (p0.fAt != p1.fAt)))], [(2, ((Put.enc p0).map .t)), (3, ((Put.enc p1).map .t))], []⟩ ?_
    refine Wp.cond2 (b := p0.fAt != p1.fAt) kr (fun hc => ?_) (fun hc => ?_)
    · have h := cond_t h hc
      refine Wp.srg [] [] ?_
      refine Runs.alln ?_
      refine Wp.fg ⟨[(2, .obj 2 0), (3, .obj 3 0), (4, .t (.bool false))], [(2, ((Put.enc p0).map .t)), (3, ((Put.enc p1).map .t))], []⟩ ?_
      refine Wp.ret ?_
      refine thenR ?_
      have hr := Option.some.inj h
      subst hr
      exact RetK [.t (.bool false)] (.one (.t (.bool false))) [] kr kr (.refl _) .nil
    · have h := cond_f h hc
      refine Wp.skip ?_
      refine thenN ?_
      refine Wp.seq ?_
      refine Wp.srg [] [] ?_
      refine Runs.batch 4 kr ?_
      obtain ⟨r1, e_r1, h⟩ := bind_some h
      refine Runs.callK false 19 16 [] [.t (.sl 1 (p0.fB.map (eInt .u8))), .t (.sl 1 (p1.fB.map (eInt .u8)))] [.one (.t (.sl 1 (p0.fB.map (eInt .u8)))), .one (.t (.sl 1 (p1.fB.map (eInt .u8))))] (.one (.t (.bool r1))) [] rfl rfl kr kr kr kr kr (laws_eqByteS_ok u p0.fB p1.fB r1 e_r1) kr ?_
      refine Runs.alln ?_
      refine Wp.fg ⟨[(2, .obj 2 0), (3, .obj 3 0), (4, .t (.bool false)), (20, .t (.bool (!r1)))], [(2, ((Put.enc p0).map .t)), (3, ((Put.enc p1).map .t))], []⟩ ?_
      refine Wp.cond2 (b := !r1) kr (fun hc => ?_) (fun hc => ?_)
      · have h := cond_t h hc
        refine Wp.srg [] [] ?_
        refine Runs.alln ?_
        refine Wp.fg ⟨[(2, .obj 2 0), (3, .obj 3 0), (4, .t (.bool false))], [(2, ((Put.enc p0).map .t)), (3, ((Put.enc p1).map .t))], []⟩ ?_
        refine Wp.ret ?_
        refine thenR ?_
        have hr := Option.some.inj h
        subst hr
        exact RetK [.t (.bool false)] (.one (.t (.bool false))) [] kr kr (.refl _) .nil
      · have h := cond_f h hc
        refine Wp.skip ?_
        refine thenN ?_
        refine Wp.seq ?_
        refine Wp.srg [] [] ?_
        refine Runs.batch 4 kr ?_
        obtain ⟨r2, e_r2, h⟩ := bind_some h
        refine Runs.callK false 25 161 [] [.agg ((Record.enc p0.fR).map .t), .agg ((Record.enc p1.fR).map .t)] [.agg ((Record.enc p0.fR).map .t), .agg ((Record.enc p1.fR).map .t)] (.one (.t (.bool r2))) [] rfl rfl kr kr kr kr kr (laws_eqRecord_ok u p0.fR p1.fR r2 e_r2) kr ?_
        refine Runs.alln ?_
        refine Wp.fg ⟨[(4, .t (.bool false)), (26, .t (.bool (!r2)))], [], []⟩ ?_
        refine Wp.cond2 (b := !r2) kr (fun hc => ?_) (fun hc => ?_)
        · have h := cond_t h hc
          refine Wp.srg [] [] ?_
          refine Runs.alln ?_
          refine Wp.fg ⟨[(4, .t (.bool false))], [], []⟩ ?_
          refine Wp.ret ?_
          refine thenR ?_
          have hr := Option.some.inj h
          subst hr
          exact RetK [.t (.bool false)] (.one (.t (.bool false))) [] kr kr (.refl _) .nil
        · have h := cond_f h hc
          refine Wp.skip ?_
          refine thenN ?_
          refine Wp.srg [] [] ?_
          refine Runs.alln ?_
          refine Wp.fg ⟨[(4, .t (.bool true))], [], []⟩ ?_
          refine Wp.ret ?_
          have hr := Option.some.inj h
          subst hr
          exact RetK [.t (.bool true)] (.one (.t (.bool true))) [] kr kr (.refl _) .nil
theorem laws_eqPutS_ok (u : Nat) (p0 : List Put) (p1 : List Put) (r : Bool) (h : laws_eqPutS u p0 p1 = some r) : CallOK Try.prog 162 [.one (.t (.sl 6 (p0.map Put.enc))), .one (.t (.sl 6 (p1.map Put.enc)))] (.one (.t (.bool r))) [] := by
  unfold laws_eqPutS at h
  refine CallOK.of_bodyK (fn := Try.f162) (m := false) [.t (.sl 6 (p0.map Put.enc)), .t (.sl 6 (p1.map Put.enc))] kr rfl kr kr kr kr kr ?_
  refine Wp.srg [] [] ?_
  refine Runs.alln ?_
  refine Wp.fg ⟨[(0, .t (.sl 6 (p0.map Put.enc))), (1, .t (.sl 6 (p1.map Put.enc))), (4, .t (.bool false))], [], []⟩ ?_
  refine Wp.seq ?_
  refine Wp.srg [] [] ?_
  refine Runs.batch 1 kr ?_
  refine Runs.lenT (y := .t (.sl 6 (p0.map Put.enc))) (e := 158) Put.enc p0 6 rfl rfl rfl kr kr kr kr kr ?_
  refine Runs.batch 1 kr ?_
  refine Runs.lenT (y := .t (.sl 6 (p1.map Put.enc))) (e := 158) Put.enc p1 6 rfl rfl rfl kr kr kr kr kr ?_
  refine Runs.alln ?_
  refine Wp.fg ⟨[(0, .t (.sl 6 (p0.map Put.enc))), (1, .t (.sl 6 (p1.map Put.enc))), (4, .t (.bool false)), (10, .t (.bool (((p0.length : Int)) != ((p1.length : Int)))))], [], []⟩ ?_
  refine Wp.cond2 (b := ((p0.length : Int)) != ((p1.length : Int))) kr (fun hc => ?_) (fun hc => ?_)
  · have h := cond_t h hc
    refine Wp.srg [] [] ?_
    refine Runs.alln ?_
    refine Wp.fg ⟨[(0, .t (.sl 6 (p0.map Put.enc))), (1, .t (.sl 6 (p1.map Put.enc))), (4, .t (.bool false))], [], []⟩ ?_
    refine Wp.ret ?_
    refine thenR ?_
    have hr := Option.some.inj h
    subst hr
    exact RetK [.t (.bool false)] (.one (.t (.bool false))) [] kr kr (.refl _) .nil
  · have h := cond_f h hc
    refine Wp.skip ?_
    refine thenN ?_
    refine Wp.seqJ (α := Unit) (fun a => ⟨[(4, .t (.bool false))], [], []⟩) (fun a => laws_eqPutS_j1 u = some r) ?_ ?_
    · rintro ⟨⟩ h
      change laws_eqPutS_j1 u = some r at h
      unfold laws_eqPutS_j1 at h
      refine Wp.srg [] [] ?_
      refine Runs.alln ?_
      refine Wp.fg ⟨[(4, .t (.bool true))], [], []⟩ ?_
      refine Wp.ret ?_
      have hr := Option.some.inj h
      subst hr
      exact RetK [.t (.bool true)] (.one (.t (.bool true))) [] kr kr (.refl _) .nil
    · refine Wp.srg [] [] ?_
      refine Runs.alln ?_
      refine Wp.fg ⟨[(0, .t (.sl 6 (p0.map Put.enc))), (1, .t (.sl 6 (p1.map Put.enc))), (4, .t (.bool false)), (5, .t (.int .i64 0))], [], []⟩ ?_
      refine Wp.block ?_
      refine Wp.loopF (α := (List Put) × (List Put) × Int) (fun a => ⟨[(0, .t (.sl 6 (a.1.map Put.enc))), (1, .t (.sl 6 (a.2.1.map Put.enc))), (4, .t (.bool false)), (5, .t (.int .i64 a.2.2))], [], []⟩) (fun k_laws_eqPutS_l2 a => laws_eqPutS_l2 u k_laws_eqPutS_l2 a.1 a.2.1 a.2.2 = some r) ?_ ?_ u (p0, p1, 0) h (Le.of (mo := []) (mr := []) kr kr kr kr)
      · intro a h; unfold laws_eqPutS_l2 at h; cases h
      · rintro k_laws_eqPutS_l2 ⟨p0, p1, x2⟩ h
        change laws_eqPutS_l2 u (k_laws_eqPutS_l2 + 1) p0 p1 x2 = some r at h
        rw [laws_eqPutS_l2] at h
        refine Wp.seq ?_
        refine Wp.srg [] [] ?_
        refine Runs.batch 2 kr ?_
        refine Runs.lenT (y := .t (.sl 6 (p0.map Put.enc))) (e := 158) Put.enc p0 6 rfl rfl rfl kr kr kr kr kr ?_
        refine Runs.alln ?_
        refine Wp.fg ⟨[(0, .t (.sl 6 (p0.map Put.enc))), (1, .t (.sl 6 (p1.map Put.enc))), (4, .t (.bool false)), (5, .t (.int .i64 x2)), (11, .t (.int .i64 x2)), (12, .t (.sl 6 (p0.map Put.enc))), (13, .t (.int .i64 ((p0.length : Int)))), (14, .t (.bool (decide (x2 < ((p0.length : Int))))))], [], []⟩ ?_
        refine Wp.cond2 (b := decide (x2 < ((p0.length : Int)))) kr (fun hc => ?_) (fun hc => ?_)
        · have h := cond_t h hc
          refine Wp.skip ?_
          refine thenN ?_
          refine Wp.seq ?_
          refine Wp.block ?_
          refine Wp.seq ?_
          refine Wp.regionA (pOf []) (rhoOf [(0, .frz), (1, .frz), (5, .frz), (17, .frz), (18, .frz), (19, .frz), (20, .frz), (21, .frz), (22, .frz), (23, .frz), (24, .frz), (25, .frz)]) kr kr ?_
          refine Runs.batch 2 kr ?_
          obtain ⟨y4, e_y4, h⟩ := bind_some h
          refine Runs.idxT (e := 158) (kk := .i64) (sz := 6) Put.enc p0 x2 rfl kr kr kr kr kr kr e_y4 ?_
          refine Runs.batch 3 kr ?_
          obtain ⟨y5, e_y5, h⟩ := bind_some h
          refine Runs.idxT (e := 158) (kk := .i64) (sz := 6) Put.enc p1 x2 rfl kr kr kr kr kr kr e_y5 ?_
          refine Runs.batch 1 kr ?_
          obtain ⟨r6, e_r6, h⟩ := bind_some h
          refine Runs.callK false 25 188 [] [.agg ((Put.enc y4).map .t), .agg ((Put.enc y5).map .t)] [.agg ((Put.enc y4).map .t), .agg ((Put.enc y5).map .t)] (.one (.t (.bool r6))) [] rfl rfl kr kr kr kr kr (laws_eqPut_ok u y4 y5 r6 e_r6) kr ?_
          refine Runs.alln ?_
          refine Wp.fg ⟨[(0, .t (.sl 6 (p0.map Put.enc))), (1, .t (.sl 6 (p1.map Put.enc))), (4, .t (.bool false)), (5, .t (.int .i64 x2)), (11, .t (.int .i64 x2)), (12, .t (.sl 6 (p0.map Put.enc))), (13, .t (.int .i64 ((p0.length : Int)))), (14, .t (.bool (decide (x2 < ((p0.length : Int)))))), (17, .t (.sl 6 (p0.map Put.enc))), (18, .t (.int .i64 x2)), (19, .fadr (Put.enc y4)), (20, .agg ((Put.enc y4).map .t)), (21, .t (.sl 6 (p1.map Put.enc))), (22, .t (.int .i64 x2)), (23, .fadr (Put.enc y5)), (24, .agg ((Put.enc y5).map .t)), (25, .t (.bool r6)), (26, .t (.bool (!r6)))], [], []⟩ ?_
          refine Wp.cond2 (b := !r6) kr (fun hc => ?_) (fun hc => ?_)
          · have h := cond_t h hc
            refine Wp.srg [] [] ?_
            refine Runs.alln ?_
            refine Wp.fg ⟨[(0, .t (.sl 6 (p0.map Put.enc))), (1, .t (.sl 6 (p1.map Put.enc))), (4, .t (.bool false)), (5, .t (.int .i64 x2)), (11, .t (.int .i64 x2)), (12, .t (.sl 6 (p0.map Put.enc))), (13, .t (.int .i64 ((p0.length : Int)))), (14, .t (.bool (decide (x2 < ((p0.length : Int)))))), (17, .t (.sl 6 (p0.map Put.enc))), (18, .t (.int .i64 x2)), (19, .fadr (Put.enc y4)), (20, .agg ((Put.enc y4).map .t)), (21, .t (.sl 6 (p1.map Put.enc))), (22, .t (.int .i64 x2)), (23, .fadr (Put.enc y5)), (24, .agg ((Put.enc y5).map .t)), (25, .t (.bool r6)), (26, .t (.bool (!r6)))], [], []⟩ ?_
            refine Wp.ret ?_
            refine blkR ?_
            refine thenR ?_
            refine thenR ?_
            refine blkR ?_
            refine thenR ?_
            have hr := Option.some.inj h
            subst hr
            exact RetK [.t (.bool false)] (.one (.t (.bool false))) [] kr kr (.refl _) .nil
          · have h := cond_f h hc
            refine Wp.skip ?_
            refine blkN ?_
            refine thenN ?_
            refine Wp.rg [] [] ?_
            refine Runs.alln ?_
            exact ⟨(p0, p1, bAdd .i64 x2 1), h, Le.of (mo := []) (mr := []) kr kr kr kr⟩
        · have h := cond_f h hc
          refine Wp.exit ?_
          refine thenE ?_
          refine thenE ?_
          refine blkE ?_
          refine thenN ?_
          exact ⟨(), h, Le.of (mo := []) (mr := []) kr kr kr kr⟩
theorem laws_eqDisk_ok (u : Nat) (p0 : Disk) (p1 : Disk) (r : Bool) (h : laws_eqDisk u p0 p1 = some r) : CallOK Try.prog 118 [.agg [.t (.sl 1 (p0.fA.map (eInt .u8))), .t (.sl 1 (p0.fB.map (eInt .u8))), .t (.int .i64 p0.fR.fGen), .t (.int .i64 p0.fR.fSlot), .t (.int .i64 p0.fR.fLen), .t (.sl 6 (p0.fP.map Put.enc))], .agg [.t (.sl 1 (p1.fA.map (eInt .u8))), .t (.sl 1 (p1.fB.map (eInt .u8))), .t (.int .i64 p1.fR.fGen), .t (.int .i64 p1.fR.fSlot), .t (.int .i64 p1.fR.fLen), .t (.sl 6 (p1.fP.map Put.enc))]] (.one (.t (.bool r))) [] := by
  unfold laws_eqDisk at h
  refine CallOK.of_bodyK (fn := Try.f118) (m := false) [.agg ((Disk.enc p0).map .t), .agg ((Disk.enc p1).map .t)] kr rfl kr kr kr kr kr ?_
  refine Wp.srg [] [] ?_
  refine Runs.alln ?_
  refine Wp.fg ⟨[(2, .obj 2 0), (3, .obj 3 0), (4, .t (.bool false))], [(2, ((Disk.enc p0).map .t)), (3, ((Disk.enc p1).map .t))], []⟩ ?_
  refine Wp.seq ?_
  refine Wp.srg [] [] ?_
  refine Runs.batch 4 kr ?_
  obtain ⟨r1, e_r1, h⟩ := bind_some h
  refine Runs.callK false 9 16 [] [.t (.sl 1 (p0.fA.map (eInt .u8))), .t (.sl 1 (p1.fA.map (eInt .u8)))] [.one (.t (.sl 1 (p0.fA.map (eInt .u8)))), .one (.t (.sl 1 (p1.fA.map (eInt .u8))))] (.one (.t (.bool r1))) [] rfl rfl kr kr kr kr kr (laws_eqByteS_ok u p0.fA p1.fA r1 e_r1) kr ?_
  refine Runs.alln ?_
  refine Wp.fg ⟨[(2, .obj 2 0), (3, .obj 3 0), (4, .t (.bool false)), (10, .t (.bool (!r1)))], [(2, ((Disk.enc p0).map .t)), (3, ((Disk.enc p1).map .t))], []⟩ ?_
  refine Wp.cond2 (b := !r1) kr (fun hc => ?_) (fun hc => ?_)
  · have h := cond_t h hc
    refine Wp.srg [] [] ?_
    refine Runs.alln ?_
    refine Wp.fg ⟨[(2, .obj 2 0), (3, .obj 3 0), (4, .t (.bool false))], [(2, ((Disk.enc p0).map .t)), (3, ((Disk.enc p1).map .t))], []⟩ ?_
    refine Wp.ret ?_
    refine thenR ?_
    have hr := Option.some.inj h
    subst hr
    exact RetK [.t (.bool false)] (.one (.t (.bool false))) [] kr kr (.refl _) .nil
  · have h := cond_f h hc
    refine Wp.skip ?_
    refine thenN ?_
    refine Wp.seq ?_
    refine Wp.srg [] [] ?_
    refine Runs.batch 4 kr ?_
    obtain ⟨r2, e_r2, h⟩ := bind_some h
    refine Runs.callK false 15 16 [] [.t (.sl 1 (p0.fB.map (eInt .u8))), .t (.sl 1 (p1.fB.map (eInt .u8)))] [.one (.t (.sl 1 (p0.fB.map (eInt .u8)))), .one (.t (.sl 1 (p1.fB.map (eInt .u8))))] (.one (.t (.bool r2))) [] rfl rfl kr kr kr kr kr (laws_eqByteS_ok u p0.fB p1.fB r2 e_r2) kr ?_
    refine Runs.alln ?_
    refine Wp.fg ⟨[(2, .obj 2 0), (3, .obj 3 0), (4, .t (.bool false)), (16, .t (.bool (!r2)))], [(2, ((Disk.enc p0).map .t)), (3, ((Disk.enc p1).map .t))], []⟩ ?_
    refine Wp.cond2 (b := !r2) kr (fun hc => ?_) (fun hc => ?_)
    · have h := cond_t h hc
      refine Wp.srg [] [] ?_
      refine Runs.alln ?_
      refine Wp.fg ⟨[(2, .obj 2 0), (3, .obj 3 0), (4, .t (.bool false))], [(2, ((Disk.enc p0).map .t)), (3, ((Disk.enc p1).map .t))], []⟩ ?_
      refine Wp.ret ?_
      refine thenR ?_
      have hr := Option.some.inj h
      subst hr
      exact RetK [.t (.bool false)] (.one (.t (.bool false))) [] kr kr (.refl _) .nil
    · have h := cond_f h hc
      refine Wp.skip ?_
      refine thenN ?_
      refine Wp.seq ?_
      refine Wp.srg [] [] ?_
      refine Runs.batch 4 kr ?_
      obtain ⟨r3, e_r3, h⟩ := bind_some h
      refine Runs.callK false 21 161 [] [.agg ((Record.enc p0.fR).map .t), .agg ((Record.enc p1.fR).map .t)] [.agg ((Record.enc p0.fR).map .t), .agg ((Record.enc p1.fR).map .t)] (.one (.t (.bool r3))) [] rfl rfl kr kr kr kr kr (laws_eqRecord_ok u p0.fR p1.fR r3 e_r3) kr ?_
      refine Runs.alln ?_
      refine Wp.fg ⟨[(2, .obj 2 0), (3, .obj 3 0), (4, .t (.bool false)), (22, .t (.bool (!r3)))], [(2, ((Disk.enc p0).map .t)), (3, ((Disk.enc p1).map .t))], []⟩ ?_
      refine Wp.cond2 (b := !r3) kr (fun hc => ?_) (fun hc => ?_)
      · have h := cond_t h hc
        refine Wp.srg [] [] ?_
        refine Runs.alln ?_
        refine Wp.fg ⟨[(2, .obj 2 0), (3, .obj 3 0), (4, .t (.bool false))], [(2, ((Disk.enc p0).map .t)), (3, ((Disk.enc p1).map .t))], []⟩ ?_
        refine Wp.ret ?_
        refine thenR ?_
        have hr := Option.some.inj h
        subst hr
        exact RetK [.t (.bool false)] (.one (.t (.bool false))) [] kr kr (.refl _) .nil
      · have h := cond_f h hc
        refine Wp.skip ?_
        refine thenN ?_
        refine Wp.seq ?_
        refine Wp.srg [] [] ?_
        refine Runs.batch 4 kr ?_
        obtain ⟨r4, e_r4, h⟩ := bind_some h
        refine Runs.callK false 27 162 [] [.t (.sl 6 (p0.fP.map Put.enc)), .t (.sl 6 (p1.fP.map Put.enc))] [.one (.t (.sl 6 (p0.fP.map Put.enc))), .one (.t (.sl 6 (p1.fP.map Put.enc)))] (.one (.t (.bool r4))) [] rfl rfl kr kr kr kr kr (laws_eqPutS_ok u p0.fP p1.fP r4 e_r4) kr ?_
        refine Runs.alln ?_
        refine Wp.fg ⟨[(4, .t (.bool false)), (28, .t (.bool (!r4)))], [], []⟩ ?_
        refine Wp.cond2 (b := !r4) kr (fun hc => ?_) (fun hc => ?_)
        · have h := cond_t h hc
          refine Wp.srg [] [] ?_
          refine Runs.alln ?_
          refine Wp.fg ⟨[(4, .t (.bool false))], [], []⟩ ?_
          refine Wp.ret ?_
          refine thenR ?_
          have hr := Option.some.inj h
          subst hr
          exact RetK [.t (.bool false)] (.one (.t (.bool false))) [] kr kr (.refl _) .nil
        · have h := cond_f h hc
          refine Wp.skip ?_
          refine thenN ?_
          refine Wp.srg [] [] ?_
          refine Runs.alln ?_
          refine Wp.fg ⟨[(4, .t (.bool true))], [], []⟩ ?_
          refine Wp.ret ?_
          have hr := Option.some.inj h
          subst hr
          exact RetK [.t (.bool true)] (.one (.t (.bool true))) [] kr kr (.refl _) .nil
theorem laws_eqDiskS_ok (u : Nat) (p0 : List Disk) (p1 : List Disk) (r : Bool) (h : laws_eqDiskS u p0 p1 = some r) : CallOK Try.prog 68 [.one (.t (.sl 6 (p0.map Disk.enc))), .one (.t (.sl 6 (p1.map Disk.enc)))] (.one (.t (.bool r))) [] := by
  unfold laws_eqDiskS at h
  refine CallOK.of_bodyK (fn := Try.f68) (m := false) [.t (.sl 6 (p0.map Disk.enc)), .t (.sl 6 (p1.map Disk.enc))] kr rfl kr kr kr kr kr ?_
  refine Wp.srg [] [] ?_
  refine Runs.alln ?_
  refine Wp.fg ⟨[(0, .t (.sl 6 (p0.map Disk.enc))), (1, .t (.sl 6 (p1.map Disk.enc))), (4, .t (.bool false))], [], []⟩ ?_
  refine Wp.seq ?_
  refine Wp.srg [] [] ?_
  refine Runs.batch 1 kr ?_
  refine Runs.lenT (y := .t (.sl 6 (p0.map Disk.enc))) (e := 109) Disk.enc p0 6 rfl rfl rfl kr kr kr kr kr ?_
  refine Runs.batch 1 kr ?_
  refine Runs.lenT (y := .t (.sl 6 (p1.map Disk.enc))) (e := 109) Disk.enc p1 6 rfl rfl rfl kr kr kr kr kr ?_
  refine Runs.alln ?_
  refine Wp.fg ⟨[(0, .t (.sl 6 (p0.map Disk.enc))), (1, .t (.sl 6 (p1.map Disk.enc))), (4, .t (.bool false)), (10, .t (.bool (((p0.length : Int)) != ((p1.length : Int)))))], [], []⟩ ?_
  refine Wp.cond2 (b := ((p0.length : Int)) != ((p1.length : Int))) kr (fun hc => ?_) (fun hc => ?_)
  · have h := cond_t h hc
    refine Wp.srg [] [] ?_
    refine Runs.alln ?_
    refine Wp.fg ⟨[(0, .t (.sl 6 (p0.map Disk.enc))), (1, .t (.sl 6 (p1.map Disk.enc))), (4, .t (.bool false))], [], []⟩ ?_
    refine Wp.ret ?_
    refine thenR ?_
    have hr := Option.some.inj h
    subst hr
    exact RetK [.t (.bool false)] (.one (.t (.bool false))) [] kr kr (.refl _) .nil
  · have h := cond_f h hc
    refine Wp.skip ?_
    refine thenN ?_
    refine Wp.seqJ (α := Unit) (fun a => ⟨[(4, .t (.bool false))], [], []⟩) (fun a => laws_eqDiskS_j1 u = some r) ?_ ?_
    · rintro ⟨⟩ h
      change laws_eqDiskS_j1 u = some r at h
      unfold laws_eqDiskS_j1 at h
      refine Wp.srg [] [] ?_
      refine Runs.alln ?_
      refine Wp.fg ⟨[(4, .t (.bool true))], [], []⟩ ?_
      refine Wp.ret ?_
      have hr := Option.some.inj h
      subst hr
      exact RetK [.t (.bool true)] (.one (.t (.bool true))) [] kr kr (.refl _) .nil
    · refine Wp.srg [] [] ?_
      refine Runs.alln ?_
      refine Wp.fg ⟨[(0, .t (.sl 6 (p0.map Disk.enc))), (1, .t (.sl 6 (p1.map Disk.enc))), (4, .t (.bool false)), (5, .t (.int .i64 0))], [], []⟩ ?_
      refine Wp.block ?_
      refine Wp.loopF (α := (List Disk) × (List Disk) × Int) (fun a => ⟨[(0, .t (.sl 6 (a.1.map Disk.enc))), (1, .t (.sl 6 (a.2.1.map Disk.enc))), (4, .t (.bool false)), (5, .t (.int .i64 a.2.2))], [], []⟩) (fun k_laws_eqDiskS_l2 a => laws_eqDiskS_l2 u k_laws_eqDiskS_l2 a.1 a.2.1 a.2.2 = some r) ?_ ?_ u (p0, p1, 0) h (Le.of (mo := []) (mr := []) kr kr kr kr)
      · intro a h; unfold laws_eqDiskS_l2 at h; cases h
      · rintro k_laws_eqDiskS_l2 ⟨p0, p1, x2⟩ h
        change laws_eqDiskS_l2 u (k_laws_eqDiskS_l2 + 1) p0 p1 x2 = some r at h
        rw [laws_eqDiskS_l2] at h
        refine Wp.seq ?_
        refine Wp.srg [] [] ?_
        refine Runs.batch 2 kr ?_
        refine Runs.lenT (y := .t (.sl 6 (p0.map Disk.enc))) (e := 109) Disk.enc p0 6 rfl rfl rfl kr kr kr kr kr ?_
        refine Runs.alln ?_
        refine Wp.fg ⟨[(0, .t (.sl 6 (p0.map Disk.enc))), (1, .t (.sl 6 (p1.map Disk.enc))), (4, .t (.bool false)), (5, .t (.int .i64 x2)), (11, .t (.int .i64 x2)), (12, .t (.sl 6 (p0.map Disk.enc))), (13, .t (.int .i64 ((p0.length : Int)))), (14, .t (.bool (decide (x2 < ((p0.length : Int))))))], [], []⟩ ?_
        refine Wp.cond2 (b := decide (x2 < ((p0.length : Int)))) kr (fun hc => ?_) (fun hc => ?_)
        · have h := cond_t h hc
          refine Wp.skip ?_
          refine thenN ?_
          refine Wp.seq ?_
          refine Wp.block ?_
          refine Wp.seq ?_
          refine Wp.regionA (pOf []) (rhoOf [(0, .frz), (1, .frz), (5, .frz), (17, .frz), (18, .frz), (19, .frz), (20, .frz), (21, .frz), (22, .frz), (23, .frz), (24, .frz), (25, .frz)]) kr kr ?_
          refine Runs.batch 2 kr ?_
          obtain ⟨y4, e_y4, h⟩ := bind_some h
          refine Runs.idxT (e := 109) (kk := .i64) (sz := 6) Disk.enc p0 x2 rfl kr kr kr kr kr kr e_y4 ?_
          refine Runs.batch 3 kr ?_
          obtain ⟨y5, e_y5, h⟩ := bind_some h
          refine Runs.idxT (e := 109) (kk := .i64) (sz := 6) Disk.enc p1 x2 rfl kr kr kr kr kr kr e_y5 ?_
          refine Runs.batch 1 kr ?_
          obtain ⟨r6, e_r6, h⟩ := bind_some h
          refine Runs.callK false 25 118 [] [.agg ((Disk.enc y4).map .t), .agg ((Disk.enc y5).map .t)] [.agg ((Disk.enc y4).map .t), .agg ((Disk.enc y5).map .t)] (.one (.t (.bool r6))) [] rfl rfl kr kr kr kr kr (laws_eqDisk_ok u y4 y5 r6 e_r6) kr ?_
          refine Runs.alln ?_
          refine Wp.fg ⟨[(0, .t (.sl 6 (p0.map Disk.enc))), (1, .t (.sl 6 (p1.map Disk.enc))), (4, .t (.bool false)), (5, .t (.int .i64 x2)), (11, .t (.int .i64 x2)), (12, .t (.sl 6 (p0.map Disk.enc))), (13, .t (.int .i64 ((p0.length : Int)))), (14, .t (.bool (decide (x2 < ((p0.length : Int)))))), (17, .t (.sl 6 (p0.map Disk.enc))), (18, .t (.int .i64 x2)), (19, .fadr (Disk.enc y4)), (20, .agg ((Disk.enc y4).map .t)), (21, .t (.sl 6 (p1.map Disk.enc))), (22, .t (.int .i64 x2)), (23, .fadr (Disk.enc y5)), (24, .agg ((Disk.enc y5).map .t)), (25, .t (.bool r6)), (26, .t (.bool (!r6)))], [], []⟩ ?_
          refine Wp.cond2 (b := !r6) kr (fun hc => ?_) (fun hc => ?_)
          · have h := cond_t h hc
            refine Wp.srg [] [] ?_
            refine Runs.alln ?_
            refine Wp.fg ⟨[(0, .t (.sl 6 (p0.map Disk.enc))), (1, .t (.sl 6 (p1.map Disk.enc))), (4, .t (.bool false)), (5, .t (.int .i64 x2)), (11, .t (.int .i64 x2)), (12, .t (.sl 6 (p0.map Disk.enc))), (13, .t (.int .i64 ((p0.length : Int)))), (14, .t (.bool (decide (x2 < ((p0.length : Int)))))), (17, .t (.sl 6 (p0.map Disk.enc))), (18, .t (.int .i64 x2)), (19, .fadr (Disk.enc y4)), (20, .agg ((Disk.enc y4).map .t)), (21, .t (.sl 6 (p1.map Disk.enc))), (22, .t (.int .i64 x2)), (23, .fadr (Disk.enc y5)), (24, .agg ((Disk.enc y5).map .t)), (25, .t (.bool r6)), (26, .t (.bool (!r6)))], [], []⟩ ?_
            refine Wp.ret ?_
            refine blkR ?_
            refine thenR ?_
            refine thenR ?_
            refine blkR ?_
            refine thenR ?_
            have hr := Option.some.inj h
            subst hr
            exact RetK [.t (.bool false)] (.one (.t (.bool false))) [] kr kr (.refl _) .nil
          · have h := cond_f h hc
            refine Wp.skip ?_
            refine blkN ?_
            refine thenN ?_
            refine Wp.rg [] [] ?_
            refine Runs.alln ?_
            exact ⟨(p0, p1, bAdd .i64 x2 1), h, Le.of (mo := []) (mr := []) kr kr kr kr⟩
        · have h := cond_f h hc
          refine Wp.exit ?_
          refine thenE ?_
          refine thenE ?_
          refine blkE ?_
          refine thenN ?_
          exact ⟨(), h, Le.of (mo := []) (mr := []) kr kr kr kr⟩
theorem laws_eqPacket_ok (u : Nat) (p0 : Packet) (p1 : Packet) (r : Bool) (h : laws_eqPacket u p0 p1 = some r) : CallOK Try.prog 119 [.agg [.t (.int .i64 p0.fFrom), .t (.int .i64 p0.fTo), .t (.sl 1 (p0.fB.map (eInt .u8)))], .agg [.t (.int .i64 p1.fFrom), .t (.int .i64 p1.fTo), .t (.sl 1 (p1.fB.map (eInt .u8)))]] (.one (.t (.bool r))) [] := by
  unfold laws_eqPacket at h
  refine CallOK.of_bodyK (fn := Try.f119) (m := false) [.agg ((Packet.enc p0).map .t), .agg ((Packet.enc p1).map .t)] kr rfl kr kr kr kr kr ?_
  refine Wp.srg [] [] ?_
  refine Runs.alln ?_
  refine Wp.fg ⟨[(2, .obj 2 0), (3, .obj 3 0), (4, .t (.bool false))], [(2, ((Packet.enc p0).map .t)), (3, ((Packet.enc p1).map .t))], []⟩ ?_
  refine Wp.seq ?_
  refine Wp.srg [] [] ?_
  refine Runs.alln ?_
  refine Wp.fg ⟨[(2, .obj 2 0), (3, .obj 3 0), (4, .t (.bool false)), (9, .t (.bool (p0.fFrom != p1.fFrom)))], [(2, ((Packet.enc p0).map .t)), (3, ((Packet.enc p1).map .t))], []⟩ ?_
  refine Wp.cond2 (b := p0.fFrom != p1.fFrom) kr (fun hc => ?_) (fun hc => ?_)
  · have h := cond_t h hc
    refine Wp.srg [] [] ?_
    refine Runs.alln ?_
    refine Wp.fg ⟨[(2, .obj 2 0), (3, .obj 3 0), (4, .t (.bool false))], [(2, ((Packet.enc p0).map .t)), (3, ((Packet.enc p1).map .t))], []⟩ ?_
    refine Wp.ret ?_
    refine thenR ?_
    have hr := Option.some.inj h
    subst hr
    exact RetK [.t (.bool false)] (.one (.t (.bool false))) [] kr kr (.refl _) .nil
  · have h := cond_f h hc
    refine Wp.skip ?_
    refine thenN ?_
    refine Wp.seq ?_
    refine Wp.srg [] [] ?_
    refine Runs.alln ?_
    refine Wp.fg ⟨[(2, .obj 2 0), (3, .obj 3 0), (4, .t (.bool false)), (14, .t (.bool (p0.fTo != p1.fTo)))], [(2, ((Packet.enc p0).map .t)), (3, ((Packet.enc p1).map .t))], []⟩ ?_
    refine Wp.cond2 (b := p0.fTo != p1.fTo) kr (fun hc => ?_) (fun hc => ?_)
    · have h := cond_t h hc
      refine Wp.srg [] [] ?_
      refine Runs.alln ?_
      refine Wp.fg ⟨[(2, .obj 2 0), (3, .obj 3 0), (4, .t (.bool false))], [(2, ((Packet.enc p0).map .t)), (3, ((Packet.enc p1).map .t))], []⟩ ?_
      refine Wp.ret ?_
      refine thenR ?_
      have hr := Option.some.inj h
      subst hr
      exact RetK [.t (.bool false)] (.one (.t (.bool false))) [] kr kr (.refl _) .nil
    · have h := cond_f h hc
      refine Wp.skip ?_
      refine thenN ?_
      refine Wp.seq ?_
      refine Wp.srg [] [] ?_
      refine Runs.batch 4 kr ?_
      obtain ⟨r1, e_r1, h⟩ := bind_some h
      refine Runs.callK false 19 16 [] [.t (.sl 1 (p0.fB.map (eInt .u8))), .t (.sl 1 (p1.fB.map (eInt .u8)))] [.one (.t (.sl 1 (p0.fB.map (eInt .u8)))), .one (.t (.sl 1 (p1.fB.map (eInt .u8))))] (.one (.t (.bool r1))) [] rfl rfl kr kr kr kr kr (laws_eqByteS_ok u p0.fB p1.fB r1 e_r1) kr ?_
      refine Runs.alln ?_
      refine Wp.fg ⟨[(4, .t (.bool false)), (20, .t (.bool (!r1)))], [], []⟩ ?_
      refine Wp.cond2 (b := !r1) kr (fun hc => ?_) (fun hc => ?_)
      · have h := cond_t h hc
        refine Wp.srg [] [] ?_
        refine Runs.alln ?_
        refine Wp.fg ⟨[(4, .t (.bool false))], [], []⟩ ?_
        refine Wp.ret ?_
        refine thenR ?_
        have hr := Option.some.inj h
        subst hr
        exact RetK [.t (.bool false)] (.one (.t (.bool false))) [] kr kr (.refl _) .nil
      · have h := cond_f h hc
        refine Wp.skip ?_
        refine thenN ?_
        refine Wp.srg [] [] ?_
        refine Runs.alln ?_
        refine Wp.fg ⟨[(4, .t (.bool true))], [], []⟩ ?_
        refine Wp.ret ?_
        have hr := Option.some.inj h
        subst hr
        exact RetK [.t (.bool true)] (.one (.t (.bool true))) [] kr kr (.refl _) .nil
theorem laws_eqPacketS_ok (u : Nat) (p0 : List Packet) (p1 : List Packet) (r : Bool) (h : laws_eqPacketS u p0 p1 = some r) : CallOK Try.prog 69 [.one (.t (.sl 3 (p0.map Packet.enc))), .one (.t (.sl 3 (p1.map Packet.enc)))] (.one (.t (.bool r))) [] := by
  unfold laws_eqPacketS at h
  refine CallOK.of_bodyK (fn := Try.f69) (m := false) [.t (.sl 3 (p0.map Packet.enc)), .t (.sl 3 (p1.map Packet.enc))] kr rfl kr kr kr kr kr ?_
  refine Wp.srg [] [] ?_
  refine Runs.alln ?_
  refine Wp.fg ⟨[(0, .t (.sl 3 (p0.map Packet.enc))), (1, .t (.sl 3 (p1.map Packet.enc))), (4, .t (.bool false))], [], []⟩ ?_
  refine Wp.seq ?_
  refine Wp.srg [] [] ?_
  refine Runs.batch 1 kr ?_
  refine Runs.lenT (y := .t (.sl 3 (p0.map Packet.enc))) (e := 146) Packet.enc p0 3 rfl rfl rfl kr kr kr kr kr ?_
  refine Runs.batch 1 kr ?_
  refine Runs.lenT (y := .t (.sl 3 (p1.map Packet.enc))) (e := 146) Packet.enc p1 3 rfl rfl rfl kr kr kr kr kr ?_
  refine Runs.alln ?_
  refine Wp.fg ⟨[(0, .t (.sl 3 (p0.map Packet.enc))), (1, .t (.sl 3 (p1.map Packet.enc))), (4, .t (.bool false)), (10, .t (.bool (((p0.length : Int)) != ((p1.length : Int)))))], [], []⟩ ?_
  refine Wp.cond2 (b := ((p0.length : Int)) != ((p1.length : Int))) kr (fun hc => ?_) (fun hc => ?_)
  · have h := cond_t h hc
    refine Wp.srg [] [] ?_
    refine Runs.alln ?_
    refine Wp.fg ⟨[(0, .t (.sl 3 (p0.map Packet.enc))), (1, .t (.sl 3 (p1.map Packet.enc))), (4, .t (.bool false))], [], []⟩ ?_
    refine Wp.ret ?_
    refine thenR ?_
    have hr := Option.some.inj h
    subst hr
    exact RetK [.t (.bool false)] (.one (.t (.bool false))) [] kr kr (.refl _) .nil
  · have h := cond_f h hc
    refine Wp.skip ?_
    refine thenN ?_
    refine Wp.seqJ (α := Unit) (fun a => ⟨[(4, .t (.bool false))], [], []⟩) (fun a => laws_eqPacketS_j1 u = some r) ?_ ?_
    · rintro ⟨⟩ h
      change laws_eqPacketS_j1 u = some r at h
      unfold laws_eqPacketS_j1 at h
      refine Wp.srg [] [] ?_
      refine Runs.alln ?_
      refine Wp.fg ⟨[(4, .t (.bool true))], [], []⟩ ?_
      refine Wp.ret ?_
      have hr := Option.some.inj h
      subst hr
      exact RetK [.t (.bool true)] (.one (.t (.bool true))) [] kr kr (.refl _) .nil
    · refine Wp.srg [] [] ?_
      refine Runs.alln ?_
      refine Wp.fg ⟨[(0, .t (.sl 3 (p0.map Packet.enc))), (1, .t (.sl 3 (p1.map Packet.enc))), (4, .t (.bool false)), (5, .t (.int .i64 0))], [], []⟩ ?_
      refine Wp.block ?_
      refine Wp.loopF (α := (List Packet) × (List Packet) × Int) (fun a => ⟨[(0, .t (.sl 3 (a.1.map Packet.enc))), (1, .t (.sl 3 (a.2.1.map Packet.enc))), (4, .t (.bool false)), (5, .t (.int .i64 a.2.2))], [], []⟩) (fun k_laws_eqPacketS_l2 a => laws_eqPacketS_l2 u k_laws_eqPacketS_l2 a.1 a.2.1 a.2.2 = some r) ?_ ?_ u (p0, p1, 0) h (Le.of (mo := []) (mr := []) kr kr kr kr)
      · intro a h; unfold laws_eqPacketS_l2 at h; cases h
      · rintro k_laws_eqPacketS_l2 ⟨p0, p1, x2⟩ h
        change laws_eqPacketS_l2 u (k_laws_eqPacketS_l2 + 1) p0 p1 x2 = some r at h
        rw [laws_eqPacketS_l2] at h
        refine Wp.seq ?_
        refine Wp.srg [] [] ?_
        refine Runs.batch 2 kr ?_
        refine Runs.lenT (y := .t (.sl 3 (p0.map Packet.enc))) (e := 146) Packet.enc p0 3 rfl rfl rfl kr kr kr kr kr ?_
        refine Runs.alln ?_
        refine Wp.fg ⟨[(0, .t (.sl 3 (p0.map Packet.enc))), (1, .t (.sl 3 (p1.map Packet.enc))), (4, .t (.bool false)), (5, .t (.int .i64 x2)), (11, .t (.int .i64 x2)), (12, .t (.sl 3 (p0.map Packet.enc))), (13, .t (.int .i64 ((p0.length : Int)))), (14, .t (.bool (decide (x2 < ((p0.length : Int))))))], [], []⟩ ?_
        refine Wp.cond2 (b := decide (x2 < ((p0.length : Int)))) kr (fun hc => ?_) (fun hc => ?_)
        · have h := cond_t h hc
          refine Wp.skip ?_
          refine thenN ?_
          refine Wp.seq ?_
          refine Wp.block ?_
          refine Wp.seq ?_
          refine Wp.regionA (pOf []) (rhoOf [(0, .frz), (1, .frz), (5, .frz), (17, .frz), (18, .frz), (19, .frz), (20, .frz), (21, .frz), (22, .frz), (23, .frz), (24, .frz), (25, .frz)]) kr kr ?_
          refine Runs.batch 2 kr ?_
          obtain ⟨y4, e_y4, h⟩ := bind_some h
          refine Runs.idxT (e := 146) (kk := .i64) (sz := 3) Packet.enc p0 x2 rfl kr kr kr kr kr kr e_y4 ?_
          refine Runs.batch 3 kr ?_
          obtain ⟨y5, e_y5, h⟩ := bind_some h
          refine Runs.idxT (e := 146) (kk := .i64) (sz := 3) Packet.enc p1 x2 rfl kr kr kr kr kr kr e_y5 ?_
          refine Runs.batch 1 kr ?_
          obtain ⟨r6, e_r6, h⟩ := bind_some h
          refine Runs.callK false 25 119 [] [.agg ((Packet.enc y4).map .t), .agg ((Packet.enc y5).map .t)] [.agg ((Packet.enc y4).map .t), .agg ((Packet.enc y5).map .t)] (.one (.t (.bool r6))) [] rfl rfl kr kr kr kr kr (laws_eqPacket_ok u y4 y5 r6 e_r6) kr ?_
          refine Runs.alln ?_
          refine Wp.fg ⟨[(0, .t (.sl 3 (p0.map Packet.enc))), (1, .t (.sl 3 (p1.map Packet.enc))), (4, .t (.bool false)), (5, .t (.int .i64 x2)), (11, .t (.int .i64 x2)), (12, .t (.sl 3 (p0.map Packet.enc))), (13, .t (.int .i64 ((p0.length : Int)))), (14, .t (.bool (decide (x2 < ((p0.length : Int)))))), (17, .t (.sl 3 (p0.map Packet.enc))), (18, .t (.int .i64 x2)), (19, .fadr (Packet.enc y4)), (20, .agg ((Packet.enc y4).map .t)), (21, .t (.sl 3 (p1.map Packet.enc))), (22, .t (.int .i64 x2)), (23, .fadr (Packet.enc y5)), (24, .agg ((Packet.enc y5).map .t)), (25, .t (.bool r6)), (26, .t (.bool (!r6)))], [], []⟩ ?_
          refine Wp.cond2 (b := !r6) kr (fun hc => ?_) (fun hc => ?_)
          · have h := cond_t h hc
            refine Wp.srg [] [] ?_
            refine Runs.alln ?_
            refine Wp.fg ⟨[(0, .t (.sl 3 (p0.map Packet.enc))), (1, .t (.sl 3 (p1.map Packet.enc))), (4, .t (.bool false)), (5, .t (.int .i64 x2)), (11, .t (.int .i64 x2)), (12, .t (.sl 3 (p0.map Packet.enc))), (13, .t (.int .i64 ((p0.length : Int)))), (14, .t (.bool (decide (x2 < ((p0.length : Int)))))), (17, .t (.sl 3 (p0.map Packet.enc))), (18, .t (.int .i64 x2)), (19, .fadr (Packet.enc y4)), (20, .agg ((Packet.enc y4).map .t)), (21, .t (.sl 3 (p1.map Packet.enc))), (22, .t (.int .i64 x2)), (23, .fadr (Packet.enc y5)), (24, .agg ((Packet.enc y5).map .t)), (25, .t (.bool r6)), (26, .t (.bool (!r6)))], [], []⟩ ?_
            refine Wp.ret ?_
            refine blkR ?_
            refine thenR ?_
            refine thenR ?_
            refine blkR ?_
            refine thenR ?_
            have hr := Option.some.inj h
            subst hr
            exact RetK [.t (.bool false)] (.one (.t (.bool false))) [] kr kr (.refl _) .nil
          · have h := cond_f h hc
            refine Wp.skip ?_
            refine blkN ?_
            refine thenN ?_
            refine Wp.rg [] [] ?_
            refine Runs.alln ?_
            exact ⟨(p0, p1, bAdd .i64 x2 1), h, Le.of (mo := []) (mr := []) kr kr kr kr⟩
        · have h := cond_f h hc
          refine Wp.exit ?_
          refine thenE ?_
          refine thenE ?_
          refine blkE ?_
          refine thenN ?_
          exact ⟨(), h, Le.of (mo := []) (mr := []) kr kr kr kr⟩
theorem laws_eqSent_ok (u : Nat) (p0 : Sent) (p1 : Sent) (r : Bool) (h : laws_eqSent u p0 p1 = some r) : CallOK Try.prog 120 [.agg [.t (.int .i64 p0.fFrom), .t (.int .i64 p0.fTo), .t (.int .i64 p0.fI)], .agg [.t (.int .i64 p1.fFrom), .t (.int .i64 p1.fTo), .t (.int .i64 p1.fI)]] (.one (.t (.bool r))) [] := by
  unfold laws_eqSent at h
  refine CallOK.of_bodyK (fn := Try.f120) (m := false) [.agg ((Sent.enc p0).map .t), .agg ((Sent.enc p1).map .t)] kr rfl kr kr kr kr kr ?_
  refine Wp.srg [] [] ?_
  refine Runs.alln ?_
  refine Wp.fg ⟨[(2, .obj 2 0), (3, .obj 3 0), (4, .t (.bool false))], [(2, ((Sent.enc p0).map .t)), (3, ((Sent.enc p1).map .t))], []⟩ ?_
  refine Wp.seq ?_
  refine Wp.srg [] [] ?_
  refine Runs.alln ?_
  refine Wp.fg ⟨[(2, .obj 2 0), (3, .obj 3 0), (4, .t (.bool false)), (9, .t (.bool (p0.fFrom != p1.fFrom)))], [(2, ((Sent.enc p0).map .t)), (3, ((Sent.enc p1).map .t))], []⟩ ?_
  refine Wp.cond2 (b := p0.fFrom != p1.fFrom) kr (fun hc => ?_) (fun hc => ?_)
  · have h := cond_t h hc
    refine Wp.srg [] [] ?_
    refine Runs.alln ?_
    refine Wp.fg ⟨[(2, .obj 2 0), (3, .obj 3 0), (4, .t (.bool false))], [(2, ((Sent.enc p0).map .t)), (3, ((Sent.enc p1).map .t))], []⟩ ?_
    refine Wp.ret ?_
    refine thenR ?_
    have hr := Option.some.inj h
    subst hr
    exact RetK [.t (.bool false)] (.one (.t (.bool false))) [] kr kr (.refl _) .nil
  · have h := cond_f h hc
    refine Wp.skip ?_
    refine thenN ?_
    refine Wp.seq ?_
    refine Wp.srg [] [] ?_
    refine Runs.alln ?_
    refine Wp.fg ⟨[(2, .obj 2 0), (3, .obj 3 0), (4, .t (.bool false)), (14, .t (.bool (p0.fTo != p1.fTo)))], [(2, ((Sent.enc p0).map .t)), (3, ((Sent.enc p1).map .t))], []⟩ ?_
    refine Wp.cond2 (b := p0.fTo != p1.fTo) kr (fun hc => ?_) (fun hc => ?_)
    · have h := cond_t h hc
      refine Wp.srg [] [] ?_
      refine Runs.alln ?_
      refine Wp.fg ⟨[(2, .obj 2 0), (3, .obj 3 0), (4, .t (.bool false))], [(2, ((Sent.enc p0).map .t)), (3, ((Sent.enc p1).map .t))], []⟩ ?_
      refine Wp.ret ?_
      refine thenR ?_
      have hr := Option.some.inj h
      subst hr
      exact RetK [.t (.bool false)] (.one (.t (.bool false))) [] kr kr (.refl _) .nil
    · have h := cond_f h hc
      refine Wp.skip ?_
      refine thenN ?_
      refine Wp.seq ?_
      refine Wp.srg [] [] ?_
      refine Runs.alln ?_
      refine Wp.fg ⟨[(4, .t (.bool false)), (19, .t (.bool (p0.fI != p1.fI)))], [], []⟩ ?_
      refine Wp.cond2 (b := p0.fI != p1.fI) kr (fun hc => ?_) (fun hc => ?_)
      · have h := cond_t h hc
        refine Wp.srg [] [] ?_
        refine Runs.alln ?_
        refine Wp.fg ⟨[(4, .t (.bool false))], [], []⟩ ?_
        refine Wp.ret ?_
        refine thenR ?_
        have hr := Option.some.inj h
        subst hr
        exact RetK [.t (.bool false)] (.one (.t (.bool false))) [] kr kr (.refl _) .nil
      · have h := cond_f h hc
        refine Wp.skip ?_
        refine thenN ?_
        refine Wp.srg [] [] ?_
        refine Runs.alln ?_
        refine Wp.fg ⟨[(4, .t (.bool true))], [], []⟩ ?_
        refine Wp.ret ?_
        have hr := Option.some.inj h
        subst hr
        exact RetK [.t (.bool true)] (.one (.t (.bool true))) [] kr kr (.refl _) .nil
theorem laws_eqSentS_ok (u : Nat) (p0 : List Sent) (p1 : List Sent) (r : Bool) (h : laws_eqSentS u p0 p1 = some r) : CallOK Try.prog 70 [.one (.t (.sl 3 (p0.map Sent.enc))), .one (.t (.sl 3 (p1.map Sent.enc)))] (.one (.t (.bool r))) [] := by
  unfold laws_eqSentS at h
  refine CallOK.of_bodyK (fn := Try.f70) (m := false) [.t (.sl 3 (p0.map Sent.enc)), .t (.sl 3 (p1.map Sent.enc))] kr rfl kr kr kr kr kr ?_
  refine Wp.srg [] [] ?_
  refine Runs.alln ?_
  refine Wp.fg ⟨[(0, .t (.sl 3 (p0.map Sent.enc))), (1, .t (.sl 3 (p1.map Sent.enc))), (4, .t (.bool false))], [], []⟩ ?_
  refine Wp.seq ?_
  refine Wp.srg [] [] ?_
  refine Runs.batch 1 kr ?_
  refine Runs.lenT (y := .t (.sl 3 (p0.map Sent.enc))) (e := 99) Sent.enc p0 3 rfl rfl rfl kr kr kr kr kr ?_
  refine Runs.batch 1 kr ?_
  refine Runs.lenT (y := .t (.sl 3 (p1.map Sent.enc))) (e := 99) Sent.enc p1 3 rfl rfl rfl kr kr kr kr kr ?_
  refine Runs.alln ?_
  refine Wp.fg ⟨[(0, .t (.sl 3 (p0.map Sent.enc))), (1, .t (.sl 3 (p1.map Sent.enc))), (4, .t (.bool false)), (10, .t (.bool (((p0.length : Int)) != ((p1.length : Int)))))], [], []⟩ ?_
  refine Wp.cond2 (b := ((p0.length : Int)) != ((p1.length : Int))) kr (fun hc => ?_) (fun hc => ?_)
  · have h := cond_t h hc
    refine Wp.srg [] [] ?_
    refine Runs.alln ?_
    refine Wp.fg ⟨[(0, .t (.sl 3 (p0.map Sent.enc))), (1, .t (.sl 3 (p1.map Sent.enc))), (4, .t (.bool false))], [], []⟩ ?_
    refine Wp.ret ?_
    refine thenR ?_
    have hr := Option.some.inj h
    subst hr
    exact RetK [.t (.bool false)] (.one (.t (.bool false))) [] kr kr (.refl _) .nil
  · have h := cond_f h hc
    refine Wp.skip ?_
    refine thenN ?_
    refine Wp.seqJ (α := Unit) (fun a => ⟨[(4, .t (.bool false))], [], []⟩) (fun a => laws_eqSentS_j1 u = some r) ?_ ?_
    · rintro ⟨⟩ h
      change laws_eqSentS_j1 u = some r at h
      unfold laws_eqSentS_j1 at h
      refine Wp.srg [] [] ?_
      refine Runs.alln ?_
      refine Wp.fg ⟨[(4, .t (.bool true))], [], []⟩ ?_
      refine Wp.ret ?_
      have hr := Option.some.inj h
      subst hr
      exact RetK [.t (.bool true)] (.one (.t (.bool true))) [] kr kr (.refl _) .nil
    · refine Wp.srg [] [] ?_
      refine Runs.alln ?_
      refine Wp.fg ⟨[(0, .t (.sl 3 (p0.map Sent.enc))), (1, .t (.sl 3 (p1.map Sent.enc))), (4, .t (.bool false)), (5, .t (.int .i64 0))], [], []⟩ ?_
      refine Wp.block ?_
      refine Wp.loopF (α := (List Sent) × (List Sent) × Int) (fun a => ⟨[(0, .t (.sl 3 (a.1.map Sent.enc))), (1, .t (.sl 3 (a.2.1.map Sent.enc))), (4, .t (.bool false)), (5, .t (.int .i64 a.2.2))], [], []⟩) (fun k_laws_eqSentS_l2 a => laws_eqSentS_l2 u k_laws_eqSentS_l2 a.1 a.2.1 a.2.2 = some r) ?_ ?_ u (p0, p1, 0) h (Le.of (mo := []) (mr := []) kr kr kr kr)
      · intro a h; unfold laws_eqSentS_l2 at h; cases h
      · rintro k_laws_eqSentS_l2 ⟨p0, p1, x2⟩ h
        change laws_eqSentS_l2 u (k_laws_eqSentS_l2 + 1) p0 p1 x2 = some r at h
        rw [laws_eqSentS_l2] at h
        refine Wp.seq ?_
        refine Wp.srg [] [] ?_
        refine Runs.batch 2 kr ?_
        refine Runs.lenT (y := .t (.sl 3 (p0.map Sent.enc))) (e := 99) Sent.enc p0 3 rfl rfl rfl kr kr kr kr kr ?_
        refine Runs.alln ?_
        refine Wp.fg ⟨[(0, .t (.sl 3 (p0.map Sent.enc))), (1, .t (.sl 3 (p1.map Sent.enc))), (4, .t (.bool false)), (5, .t (.int .i64 x2)), (11, .t (.int .i64 x2)), (12, .t (.sl 3 (p0.map Sent.enc))), (13, .t (.int .i64 ((p0.length : Int)))), (14, .t (.bool (decide (x2 < ((p0.length : Int))))))], [], []⟩ ?_
        refine Wp.cond2 (b := decide (x2 < ((p0.length : Int)))) kr (fun hc => ?_) (fun hc => ?_)
        · have h := cond_t h hc
          refine Wp.skip ?_
          refine thenN ?_
          refine Wp.seq ?_
          refine Wp.block ?_
          refine Wp.seq ?_
          refine Wp.regionA (pOf []) (rhoOf [(0, .frz), (1, .frz), (5, .frz), (17, .frz), (18, .frz), (19, .frz), (20, .frz), (21, .frz), (22, .frz), (23, .frz), (24, .frz), (25, .frz)]) kr kr ?_
          refine Runs.batch 2 kr ?_
          obtain ⟨y4, e_y4, h⟩ := bind_some h
          refine Runs.idxT (e := 99) (kk := .i64) (sz := 3) Sent.enc p0 x2 rfl kr kr kr kr kr kr e_y4 ?_
          refine Runs.batch 3 kr ?_
          obtain ⟨y5, e_y5, h⟩ := bind_some h
          refine Runs.idxT (e := 99) (kk := .i64) (sz := 3) Sent.enc p1 x2 rfl kr kr kr kr kr kr e_y5 ?_
          refine Runs.batch 1 kr ?_
          obtain ⟨r6, e_r6, h⟩ := bind_some h
          refine Runs.callK false 25 120 [] [.agg ((Sent.enc y4).map .t), .agg ((Sent.enc y5).map .t)] [.agg ((Sent.enc y4).map .t), .agg ((Sent.enc y5).map .t)] (.one (.t (.bool r6))) [] rfl rfl kr kr kr kr kr (laws_eqSent_ok u y4 y5 r6 e_r6) kr ?_
          refine Runs.alln ?_
          refine Wp.fg ⟨[(0, .t (.sl 3 (p0.map Sent.enc))), (1, .t (.sl 3 (p1.map Sent.enc))), (4, .t (.bool false)), (5, .t (.int .i64 x2)), (11, .t (.int .i64 x2)), (12, .t (.sl 3 (p0.map Sent.enc))), (13, .t (.int .i64 ((p0.length : Int)))), (14, .t (.bool (decide (x2 < ((p0.length : Int)))))), (17, .t (.sl 3 (p0.map Sent.enc))), (18, .t (.int .i64 x2)), (19, .fadr (Sent.enc y4)), (20, .agg ((Sent.enc y4).map .t)), (21, .t (.sl 3 (p1.map Sent.enc))), (22, .t (.int .i64 x2)), (23, .fadr (Sent.enc y5)), (24, .agg ((Sent.enc y5).map .t)), (25, .t (.bool r6)), (26, .t (.bool (!r6)))], [], []⟩ ?_
          refine Wp.cond2 (b := !r6) kr (fun hc => ?_) (fun hc => ?_)
          · have h := cond_t h hc
            refine Wp.srg [] [] ?_
            refine Runs.alln ?_
            refine Wp.fg ⟨[(0, .t (.sl 3 (p0.map Sent.enc))), (1, .t (.sl 3 (p1.map Sent.enc))), (4, .t (.bool false)), (5, .t (.int .i64 x2)), (11, .t (.int .i64 x2)), (12, .t (.sl 3 (p0.map Sent.enc))), (13, .t (.int .i64 ((p0.length : Int)))), (14, .t (.bool (decide (x2 < ((p0.length : Int)))))), (17, .t (.sl 3 (p0.map Sent.enc))), (18, .t (.int .i64 x2)), (19, .fadr (Sent.enc y4)), (20, .agg ((Sent.enc y4).map .t)), (21, .t (.sl 3 (p1.map Sent.enc))), (22, .t (.int .i64 x2)), (23, .fadr (Sent.enc y5)), (24, .agg ((Sent.enc y5).map .t)), (25, .t (.bool r6)), (26, .t (.bool (!r6)))], [], []⟩ ?_
            refine Wp.ret ?_
            refine blkR ?_
            refine thenR ?_
            refine thenR ?_
            refine blkR ?_
            refine thenR ?_
            have hr := Option.some.inj h
            subst hr
            exact RetK [.t (.bool false)] (.one (.t (.bool false))) [] kr kr (.refl _) .nil
          · have h := cond_f h hc
            refine Wp.skip ?_
            refine blkN ?_
            refine thenN ?_
            refine Wp.rg [] [] ?_
            refine Runs.alln ?_
            exact ⟨(p0, p1, bAdd .i64 x2 1), h, Le.of (mo := []) (mr := []) kr kr kr kr⟩
        · have h := cond_f h hc
          refine Wp.exit ?_
          refine thenE ?_
          refine thenE ?_
          refine blkE ?_
          refine thenN ?_
          exact ⟨(), h, Le.of (mo := []) (mr := []) kr kr kr kr⟩
theorem laws_eqWorld_ok (u : Nat) (p0 : World) (p1 : World) (r : Bool) (h : laws_eqWorld u p0 p1 = some r) : CallOK Try.prog 28 [.agg [.t (.int .i64 p0.fC.fSize), .t (.int .i64 p0.fC.fWindow), .t (.int .i64 p0.fC.fSuspect), .t (.int .i64 p0.fC.fForget), .t (.sl 1 (p0.fT.fUp.map (eInt .i64))), .t (.sl 1 (p0.fNew.map (eInt .u8))), .t (.sl 1 (p0.fOld.map Image.enc)), .t (.sl 12 (p0.fN.map Node.enc)), .t (.sl 6 (p0.fD.map Disk.enc)), .t (.sl 3 (p0.fNet.map Packet.enc)), .t (.sl 3 (p0.fLog.map Sent.enc)), .t (.int .i64 p0.fLost)], .agg [.t (.int .i64 p1.fC.fSize), .t (.int .i64 p1.fC.fWindow), .t (.int .i64 p1.fC.fSuspect), .t (.int .i64 p1.fC.fForget), .t (.sl 1 (p1.fT.fUp.map (eInt .i64))), .t (.sl 1 (p1.fNew.map (eInt .u8))), .t (.sl 1 (p1.fOld.map Image.enc)), .t (.sl 12 (p1.fN.map Node.enc)), .t (.sl 6 (p1.fD.map Disk.enc)), .t (.sl 3 (p1.fNet.map Packet.enc)), .t (.sl 3 (p1.fLog.map Sent.enc)), .t (.int .i64 p1.fLost)]] (.one (.t (.bool r))) [] := by
  unfold laws_eqWorld at h
  refine CallOK.of_bodyK (fn := Try.f28) (m := false) [.agg ((World.enc p0).map .t), .agg ((World.enc p1).map .t)] kr rfl kr kr kr kr kr ?_
  refine Wp.srg [] [] ?_
  refine Runs.alln ?_
  refine Wp.fg ⟨[(2, .obj 2 0), (3, .obj 3 0), (4, .t (.bool false))], [(2, ((World.enc p0).map .t)), (3, ((World.enc p1).map .t))], []⟩ ?_
  refine Wp.seq ?_
  refine Wp.srg [] [] ?_
  refine Runs.batch 4 kr ?_
  obtain ⟨r1, e_r1, h⟩ := bind_some h
  refine Runs.callK false 9 65 [] [.agg ((Conf.enc p0.fC).map .t), .agg ((Conf.enc p1.fC).map .t)] [.agg ((Conf.enc p0.fC).map .t), .agg ((Conf.enc p1.fC).map .t)] (.one (.t (.bool r1))) [] rfl rfl kr kr kr kr kr (laws_eqConf_ok u p0.fC p1.fC r1 e_r1) kr ?_
  refine Runs.alln ?_
  refine Wp.fg ⟨[(2, .obj 2 0), (3, .obj 3 0), (4, .t (.bool false)), (10, .t (.bool (!r1)))], [(2, ((World.enc p0).map .t)), (3, ((World.enc p1).map .t))], []⟩ ?_
  refine Wp.cond2 (b := !r1) kr (fun hc => ?_) (fun hc => ?_)
  · have h := cond_t h hc
    refine Wp.srg [] [] ?_
    refine Runs.alln ?_
    refine Wp.fg ⟨[(2, .obj 2 0), (3, .obj 3 0), (4, .t (.bool false))], [(2, ((World.enc p0).map .t)), (3, ((World.enc p1).map .t))], []⟩ ?_
    refine Wp.ret ?_
    refine thenR ?_
    have hr := Option.some.inj h
    subst hr
    exact RetK [.t (.bool false)] (.one (.t (.bool false))) [] kr kr (.refl _) .nil
  · have h := cond_f h hc
    refine Wp.skip ?_
    refine thenN ?_
    refine Wp.seq ?_
    refine Wp.srg [] [] ?_
    refine Runs.batch 4 kr ?_
    obtain ⟨r2, e_r2, h⟩ := bind_some h
    refine Runs.callK false 15 66 [] [.agg [.t (.sl 1 (p0.fT.fUp.map (eInt .i64)))], .agg [.t (.sl 1 (p1.fT.fUp.map (eInt .i64)))]] [.agg [.t (.sl 1 (p0.fT.fUp.map (eInt .i64)))], .agg [.t (.sl 1 (p1.fT.fUp.map (eInt .i64)))]] (.one (.t (.bool r2))) [] rfl rfl kr kr kr kr kr (laws_eqTree_ok u p0.fT p1.fT r2 e_r2) kr ?_
    refine Runs.alln ?_
    refine Wp.fg ⟨[(2, .obj 2 0), (3, .obj 3 0), (4, .t (.bool false)), (16, .t (.bool (!r2)))], [(2, ((World.enc p0).map .t)), (3, ((World.enc p1).map .t))], []⟩ ?_
    refine Wp.cond2 (b := !r2) kr (fun hc => ?_) (fun hc => ?_)
    · have h := cond_t h hc
      refine Wp.srg [] [] ?_
      refine Runs.alln ?_
      refine Wp.fg ⟨[(2, .obj 2 0), (3, .obj 3 0), (4, .t (.bool false))], [(2, ((World.enc p0).map .t)), (3, ((World.enc p1).map .t))], []⟩ ?_
      refine Wp.ret ?_
      refine thenR ?_
      have hr := Option.some.inj h
      subst hr
      exact RetK [.t (.bool false)] (.one (.t (.bool false))) [] kr kr (.refl _) .nil
    · have h := cond_f h hc
      refine Wp.skip ?_
      refine thenN ?_
      refine Wp.seq ?_
      refine Wp.srg [] [] ?_
      refine Runs.batch 4 kr ?_
      obtain ⟨r3, e_r3, h⟩ := bind_some h
      refine Runs.callK false 21 16 [] [.t (.sl 1 (p0.fNew.map (eInt .u8))), .t (.sl 1 (p1.fNew.map (eInt .u8)))] [.one (.t (.sl 1 (p0.fNew.map (eInt .u8)))), .one (.t (.sl 1 (p1.fNew.map (eInt .u8))))] (.one (.t (.bool r3))) [] rfl rfl kr kr kr kr kr (laws_eqByteS_ok u p0.fNew p1.fNew r3 e_r3) kr ?_
      refine Runs.alln ?_
      refine Wp.fg ⟨[(2, .obj 2 0), (3, .obj 3 0), (4, .t (.bool false)), (22, .t (.bool (!r3)))], [(2, ((World.enc p0).map .t)), (3, ((World.enc p1).map .t))], []⟩ ?_
      refine Wp.cond2 (b := !r3) kr (fun hc => ?_) (fun hc => ?_)
      · have h := cond_t h hc
        refine Wp.srg [] [] ?_
        refine Runs.alln ?_
        refine Wp.fg ⟨[(2, .obj 2 0), (3, .obj 3 0), (4, .t (.bool false))], [(2, ((World.enc p0).map .t)), (3, ((World.enc p1).map .t))], []⟩ ?_
        refine Wp.ret ?_
        refine thenR ?_
        have hr := Option.some.inj h
        subst hr
        exact RetK [.t (.bool false)] (.one (.t (.bool false))) [] kr kr (.refl _) .nil
      · have h := cond_f h hc
        refine Wp.skip ?_
        refine thenN ?_
        refine Wp.seq ?_
        refine Wp.srg [] [] ?_
        refine Runs.batch 4 kr ?_
        obtain ⟨r4, e_r4, h⟩ := bind_some h
        refine Runs.callK false 27 21 [] [.t (.sl 1 (p0.fOld.map Image.enc)), .t (.sl 1 (p1.fOld.map Image.enc))] [.one (.t (.sl 1 (p0.fOld.map Image.enc))), .one (.t (.sl 1 (p1.fOld.map Image.enc)))] (.one (.t (.bool r4))) [] rfl rfl kr kr kr kr kr (laws_eqImageS_ok u p0.fOld p1.fOld r4 e_r4) kr ?_
        refine Runs.alln ?_
        refine Wp.fg ⟨[(2, .obj 2 0), (3, .obj 3 0), (4, .t (.bool false)), (28, .t (.bool (!r4)))], [(2, ((World.enc p0).map .t)), (3, ((World.enc p1).map .t))], []⟩ ?_
        refine Wp.cond2 (b := !r4) kr (fun hc => ?_) (fun hc => ?_)
        · have h := cond_t h hc
          refine Wp.srg [] [] ?_
          refine Runs.alln ?_
          refine Wp.fg ⟨[(2, .obj 2 0), (3, .obj 3 0), (4, .t (.bool false))], [(2, ((World.enc p0).map .t)), (3, ((World.enc p1).map .t))], []⟩ ?_
          refine Wp.ret ?_
          refine thenR ?_
          have hr := Option.some.inj h
          subst hr
          exact RetK [.t (.bool false)] (.one (.t (.bool false))) [] kr kr (.refl _) .nil
        · have h := cond_f h hc
          refine Wp.skip ?_
          refine thenN ?_
          refine Wp.seq ?_
          refine Wp.srg [] [] ?_
          refine Runs.batch 4 kr ?_
          obtain ⟨r5, e_r5, h⟩ := bind_some h
          refine Runs.callK false 33 67 [] [.t (.sl 12 (p0.fN.map Node.enc)), .t (.sl 12 (p1.fN.map Node.enc))] [.one (.t (.sl 12 (p0.fN.map Node.enc))), .one (.t (.sl 12 (p1.fN.map Node.enc)))] (.one (.t (.bool r5))) [] rfl rfl kr kr kr kr kr (laws_eqNodeS_ok u p0.fN p1.fN r5 e_r5) kr ?_
          refine Runs.alln ?_
          refine Wp.fg ⟨[(2, .obj 2 0), (3, .obj 3 0), (4, .t (.bool false)), (34, .t (.bool (!r5)))], [(2, ((World.enc p0).map .t)), (3, ((World.enc p1).map .t))], []⟩ ?_
          refine Wp.cond2 (b := !r5) kr (fun hc => ?_) (fun hc => ?_)
          · have h := cond_t h hc
            refine Wp.srg [] [] ?_
            refine Runs.alln ?_
            refine Wp.fg ⟨[(2, .obj 2 0), (3, .obj 3 0), (4, .t (.bool false))], [(2, ((World.enc p0).map .t)), (3, ((World.enc p1).map .t))], []⟩ ?_
            refine Wp.ret ?_
            refine thenR ?_
            have hr := Option.some.inj h
            subst hr
            exact RetK [.t (.bool false)] (.one (.t (.bool false))) [] kr kr (.refl _) .nil
          · have h := cond_f h hc
            refine Wp.skip ?_
            refine thenN ?_
            refine Wp.seq ?_
            refine Wp.srg [] [] ?_
            refine Runs.batch 4 kr ?_
            obtain ⟨r6, e_r6, h⟩ := bind_some h
            refine Runs.callK false 39 68 [] [.t (.sl 6 (p0.fD.map Disk.enc)), .t (.sl 6 (p1.fD.map Disk.enc))] [.one (.t (.sl 6 (p0.fD.map Disk.enc))), .one (.t (.sl 6 (p1.fD.map Disk.enc)))] (.one (.t (.bool r6))) [] rfl rfl kr kr kr kr kr (laws_eqDiskS_ok u p0.fD p1.fD r6 e_r6) kr ?_
            refine Runs.alln ?_
            refine Wp.fg ⟨[(2, .obj 2 0), (3, .obj 3 0), (4, .t (.bool false)), (40, .t (.bool (!r6)))], [(2, ((World.enc p0).map .t)), (3, ((World.enc p1).map .t))], []⟩ ?_
            refine Wp.cond2 (b := !r6) kr (fun hc => ?_) (fun hc => ?_)
            · have h := cond_t h hc
              refine Wp.srg [] [] ?_
              refine Runs.alln ?_
              refine Wp.fg ⟨[(2, .obj 2 0), (3, .obj 3 0), (4, .t (.bool false))], [(2, ((World.enc p0).map .t)), (3, ((World.enc p1).map .t))], []⟩ ?_
              refine Wp.ret ?_
              refine thenR ?_
              have hr := Option.some.inj h
              subst hr
              exact RetK [.t (.bool false)] (.one (.t (.bool false))) [] kr kr (.refl _) .nil
            · have h := cond_f h hc
              refine Wp.skip ?_
              refine thenN ?_
              refine Wp.seq ?_
              refine Wp.srg [] [] ?_
              refine Runs.batch 4 kr ?_
              obtain ⟨r7, e_r7, h⟩ := bind_some h
              refine Runs.callK false 45 69 [] [.t (.sl 3 (p0.fNet.map Packet.enc)), .t (.sl 3 (p1.fNet.map Packet.enc))] [.one (.t (.sl 3 (p0.fNet.map Packet.enc))), .one (.t (.sl 3 (p1.fNet.map Packet.enc)))] (.one (.t (.bool r7))) [] rfl rfl kr kr kr kr kr (laws_eqPacketS_ok u p0.fNet p1.fNet r7 e_r7) kr ?_
              refine Runs.alln ?_
              refine Wp.fg ⟨[(2, .obj 2 0), (3, .obj 3 0), (4, .t (.bool false)), (46, .t (.bool (!r7)))], [(2, ((World.enc p0).map .t)), (3, ((World.enc p1).map .t))], []⟩ ?_
              refine Wp.cond2 (b := !r7) kr (fun hc => ?_) (fun hc => ?_)
              · have h := cond_t h hc
                refine Wp.srg [] [] ?_
                refine Runs.alln ?_
                refine Wp.fg ⟨[(2, .obj 2 0), (3, .obj 3 0), (4, .t (.bool false))], [(2, ((World.enc p0).map .t)), (3, ((World.enc p1).map .t))], []⟩ ?_
                refine Wp.ret ?_
                refine thenR ?_
                have hr := Option.some.inj h
                subst hr
                exact RetK [.t (.bool false)] (.one (.t (.bool false))) [] kr kr (.refl _) .nil
              · have h := cond_f h hc
                refine Wp.skip ?_
                refine thenN ?_
                refine Wp.seq ?_
                refine Wp.srg [] [] ?_
                refine Runs.batch 4 kr ?_
                obtain ⟨r8, e_r8, h⟩ := bind_some h
                refine Runs.callK false 51 70 [] [.t (.sl 3 (p0.fLog.map Sent.enc)), .t (.sl 3 (p1.fLog.map Sent.enc))] [.one (.t (.sl 3 (p0.fLog.map Sent.enc))), .one (.t (.sl 3 (p1.fLog.map Sent.enc)))] (.one (.t (.bool r8))) [] rfl rfl kr kr kr kr kr (laws_eqSentS_ok u p0.fLog p1.fLog r8 e_r8) kr ?_
                refine Runs.alln ?_
                refine Wp.fg ⟨[(2, .obj 2 0), (3, .obj 3 0), (4, .t (.bool false)), (52, .t (.bool (!r8)))], [(2, ((World.enc p0).map .t)), (3, ((World.enc p1).map .t))], []⟩ ?_
                refine Wp.cond2 (b := !r8) kr (fun hc => ?_) (fun hc => ?_)
                · have h := cond_t h hc
                  refine Wp.srg [] [] ?_
                  refine Runs.alln ?_
                  refine Wp.fg ⟨[(2, .obj 2 0), (3, .obj 3 0), (4, .t (.bool false))], [(2, ((World.enc p0).map .t)), (3, ((World.enc p1).map .t))], []⟩ ?_
                  refine Wp.ret ?_
                  refine thenR ?_
                  have hr := Option.some.inj h
                  subst hr
                  exact RetK [.t (.bool false)] (.one (.t (.bool false))) [] kr kr (.refl _) .nil
                · have h := cond_f h hc
                  refine Wp.skip ?_
                  refine thenN ?_
                  refine Wp.seq ?_
                  refine Wp.srg [] [] ?_
                  refine Runs.alln ?_
                  refine Wp.fg ⟨[(4, .t (.bool false)), (57, .t (.bool (p0.fLost != p1.fLost)))], [], []⟩ ?_
                  refine Wp.cond2 (b := p0.fLost != p1.fLost) kr (fun hc => ?_) (fun hc => ?_)
                  · have h := cond_t h hc
                    refine Wp.srg [] [] ?_
                    refine Runs.alln ?_
                    refine Wp.fg ⟨[(4, .t (.bool false))], [], []⟩ ?_
                    refine Wp.ret ?_
                    refine thenR ?_
                    have hr := Option.some.inj h
                    subst hr
                    exact RetK [.t (.bool false)] (.one (.t (.bool false))) [] kr kr (.refl _) .nil
                  · have h := cond_f h hc
                    refine Wp.skip ?_
                    refine thenN ?_
                    refine Wp.srg [] [] ?_
                    refine Runs.alln ?_
                    refine Wp.fg ⟨[(4, .t (.bool true))], [], []⟩ ?_
                    refine Wp.ret ?_
                    have hr := Option.some.inj h
                    subst hr
                    exact RetK [.t (.bool true)] (.one (.t (.bool true))) [] kr kr (.refl _) .nil
end Go.Tm
