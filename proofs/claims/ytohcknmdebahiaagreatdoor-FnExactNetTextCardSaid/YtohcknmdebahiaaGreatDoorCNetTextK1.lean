/- The functions as they are translated do what the pure functions say (printed). -/
import Derived.Test.YtohcknmdebahiaaGreatDoorCNetTextD
import Derived.Test.YtohcknmdebahiaaGreatDoorTm45
import Derived.Shelf.Strings.OnBuilder
import Derived.Test.YtohcknmdebahiaaGreatDoorProg
set_option maxRecDepth 100000
set_option maxHeartbeats 20000000
set_option linter.unusedVariables false
set_option linter.unusedSimpArgs false
namespace Go.Tm
open Go.Proofs
theorem laws_szIntS_ok (u : Nat) (p0 : List Int) (p1 : Int) (r : Int) (h : laws_szIntS u p0 p1 = some r) : CallOK Tryz.prog 65 [.one (.t (.sl 1 (p0.map (eInt .i64)))), .one (.i p1)] (.one (.i r)) [] := by
 unfold laws_szIntS at h
 refine CallOK.of_bodyK (fn := Tryz.f65) (m := false) [.t (.sl 1 (p0.map (eInt .i64))), .i p1] kr rfl kr kr kr kr kr ?_
 refine Wp.sag ⟨[(0, .t (.sl 1 (p0.map (eInt .i64)))), (1, .i p1), (4, .i 0)], [], []⟩ ?_
 refine Wp.sb 2 ?_
 refine Runs.lenT (y := .t (.sl 1 (p0.map (eInt .i64)))) (e := 3) (eInt .i64) p0 1 rfl rfl rfl kr kr kr kr kr ?_
 refine Runs.allf ⟨[(1, .i (bSub .i64 p1 ((p0.length : Int)))), (4, .i 0)], [], []⟩ ?_
 refine Wp.seq ?_
 refine Wp.sag ⟨[(1, .i (bSub .i64 p1 ((p0.length : Int)))), (4, .i 0), (10, .b (decide ((bSub .i64 p1 ((p0.length : Int))) < 0)))], [], []⟩ ?_
 refine Wp.c2 h (fun h => ?_) (fun h => ?_)
 ·refine Wp.sag ⟨[(1, .i (bSub .i64 p1 ((p0.length : Int)))), (4, .i (-1))], [], []⟩ ?_
  refine Wp.ret ?_
  refine thenR ?_
  obtain rfl := oi h
  exact RetK [.i (-1)] _ [] kr kr (.refl _) .nil
 refine Wp.sk ?_
 refine Wp.sag ⟨[(4, .i (bSub .i64 p1 ((p0.length : Int))))], [], []⟩ ?_
 refine Wp.ret ?_
 obtain rfl := oi h
 exact RetK [.i (bSub .i64 p1 ((p0.length : Int)))] _ [] kr kr (.refl _) .nil
theorem laws_szTree_ok (u : Nat) (p0 : Tree) (p1 : Int) (r : Int) (h : laws_szTree u p0 p1 = some r) : CallOK Tryz.prog 30 [.agg [.t (.sl 1 (p0.fUp.map (eInt .i64)))], .one (.i p1)] (.one (.i r)) [] := by
 unfold laws_szTree at h
 refine CallOK.of_bodyK (fn := Tryz.f30) (m := false) [.agg [.t (.sl 1 (p0.fUp.map (eInt .i64)))], .i p1] kr rfl kr kr kr kr kr ?_
 refine Wp.sag ⟨[(1, .i p1), (2, .obj 2 0), (4, .i 0)], [(2, [.t (.sl 1 (p0.fUp.map (eInt .i64)))])], []⟩ ?_
 refine Wp.sb 3 ?_
 obtain ⟨r1, e_r1, h⟩ := bind_some h
 refine Runs.ck 8 [.t (.sl 1 (p0.fUp.map (eInt .i64))), .i p1] (laws_szIntS_ok u p0.fUp p1 r1 e_r1) ?_
 refine Runs.allf ⟨[(1, .i r1), (4, .i 0)], [], []⟩ ?_
 refine Wp.seq ?_
 refine Wp.sag ⟨[(1, .i r1), (4, .i 0), (10, .b (decide (r1 < 0)))], [], []⟩ ?_
 refine Wp.c2 h (fun h => ?_) (fun h => ?_)
 ·refine Wp.sag ⟨[(1, .i r1), (4, .i (-1))], [], []⟩ ?_
  refine Wp.ret ?_
  refine thenR ?_
  obtain rfl := oi h
  exact RetK [.i (-1)] _ [] kr kr (.refl _) .nil
 refine Wp.sk ?_
 refine Wp.sag ⟨[(4, .i r1)], [], []⟩ ?_
 refine Wp.ret ?_
 obtain rfl := oi h
 exact RetK [.i r1] _ [] kr kr (.refl _) .nil
theorem laws_szByteS_ok (u : Nat) (p0 : List Int) (p1 : Int) (r : Int) (h : laws_szByteS u p0 p1 = some r) : CallOK Tryz.prog 31 [.one (.s p0), .one (.i p1)] (.one (.i r)) [] := by
 unfold laws_szByteS at h
 refine CallOK.of_bodyK (fn := Tryz.f31) (m := false) [.s p0, .i p1] kr rfl kr kr kr kr kr ?_
 refine Wp.sag ⟨[(0, .s p0), (1, .i p1), (4, .i 0)], [], []⟩ ?_
 refine Wp.sb 2 ?_
 refine Runs.lenT (y := .s p0) (e := 5) (eInt .u8) p0 1 rfl rfl rfl kr kr kr kr kr ?_
 refine Runs.allf ⟨[(1, .i (bSub .i64 p1 ((p0.length : Int)))), (4, .i 0)], [], []⟩ ?_
 refine Wp.seq ?_
 refine Wp.sag ⟨[(1, .i (bSub .i64 p1 ((p0.length : Int)))), (4, .i 0), (10, .b (decide ((bSub .i64 p1 ((p0.length : Int))) < 0)))], [], []⟩ ?_
 refine Wp.c2 h (fun h => ?_) (fun h => ?_)
 ·refine Wp.sag ⟨[(1, .i (bSub .i64 p1 ((p0.length : Int)))), (4, .i (-1))], [], []⟩ ?_
  refine Wp.ret ?_
  refine thenR ?_
  obtain rfl := oi h
  exact RetK [.i (-1)] _ [] kr kr (.refl _) .nil
 refine Wp.sk ?_
 refine Wp.sag ⟨[(4, .i (bSub .i64 p1 ((p0.length : Int))))], [], []⟩ ?_
 refine Wp.ret ?_
 obtain rfl := oi h
 exact RetK [.i (bSub .i64 p1 ((p0.length : Int)))] _ [] kr kr (.refl _) .nil
theorem laws_szImage_ok (u : Nat) (p0 : Image) (p1 : Int) (r : Int) (h : laws_szImage u p0 p1 = some r) : CallOK Tryz.prog 23 [.agg [.s p0.fB], .one (.i p1)] (.one (.i r)) [] := by
 unfold laws_szImage at h
 refine CallOK.of_bodyK (fn := Tryz.f23) (m := false) [.agg [.s p0.fB], .i p1] kr rfl kr kr kr kr kr ?_
 refine Wp.sag ⟨[(1, .i p1), (2, .obj 2 0), (4, .i 0)], [(2, [.s p0.fB])], []⟩ ?_
 refine Wp.sb 3 ?_
 obtain ⟨r1, e_r1, h⟩ := bind_some h
 refine Runs.ck 8 [.s p0.fB, .i p1] (laws_szByteS_ok u p0.fB p1 r1 e_r1) ?_
 refine Runs.allf ⟨[(1, .i r1), (4, .i 0)], [], []⟩ ?_
 refine Wp.seq ?_
 refine Wp.sag ⟨[(1, .i r1), (4, .i 0), (10, .b (decide (r1 < 0)))], [], []⟩ ?_
 refine Wp.c2 h (fun h => ?_) (fun h => ?_)
 ·refine Wp.sag ⟨[(1, .i r1), (4, .i (-1))], [], []⟩ ?_
  refine Wp.ret ?_
  refine thenR ?_
  obtain rfl := oi h
  exact RetK [.i (-1)] _ [] kr kr (.refl _) .nil
 refine Wp.sk ?_
 refine Wp.sag ⟨[(4, .i r1)], [], []⟩ ?_
 refine Wp.ret ?_
 obtain rfl := oi h
 exact RetK [.i r1] _ [] kr kr (.refl _) .nil
theorem laws_szImageS_ok (u : Nat) (p0 : List Image) (p1 : Int) (r : Int) (h : laws_szImageS u p0 p1 = some r) : CallOK Tryz.prog 7 [.one (.t (.sl 1 (p0.map Image.enc))), .one (.i p1)] (.one (.i r)) [] := by
 unfold laws_szImageS at h
 refine CallOK.of_bodyK (fn := Tryz.f7) (m := false) [.t (.sl 1 (p0.map Image.enc)), .i p1] kr rfl kr kr kr kr kr ?_
 refine Wp.sag ⟨[(0, .t (.sl 1 (p0.map Image.enc))), (1, .i p1), (4, .i 0)], [], []⟩ ?_
 refine Wp.sb 2 ?_
 refine Runs.lenT (y := .t (.sl 1 (p0.map Image.enc))) (e := 58) Image.enc p0 1 rfl rfl rfl kr kr kr kr kr ?_
 refine Runs.allf ⟨[(0, .t (.sl 1 (p0.map Image.enc))), (1, .i (bSub .i64 p1 ((p0.length : Int)))), (4, .i 0)], [], []⟩ ?_
 refine Wp.seq ?_
 refine Wp.sag ⟨[(0, .t (.sl 1 (p0.map Image.enc))), (1, .i (bSub .i64 p1 ((p0.length : Int)))), (4, .i 0), (11, .b (decide ((bSub .i64 p1 ((p0.length : Int))) < 0)))], [], []⟩ ?_
 refine Wp.c2 h (fun h => ?_) (fun h => ?_)
 ·refine Wp.sag ⟨[(0, .t (.sl 1 (p0.map Image.enc))), (1, .i (bSub .i64 p1 ((p0.length : Int)))), (4, .i (-1))], [], []⟩ ?_
  refine Wp.ret ?_
  refine thenR ?_
  obtain rfl := oi h
  exact RetK [.i (-1)] _ [] kr kr (.refl _) .nil
 refine Wp.sk ?_
 refine Wp.seqJ (α := Int) (fun a => ⟨[(1, .i a), (4, .i 0)], [], []⟩) (fun a => laws_szImageS_j1 u a = some r) ?_ ?_
 ·rintro x9 h
  change laws_szImageS_j1 u x9 = some r at h
  unfold laws_szImageS_j1 at h
  refine Wp.sag ⟨[(4, .i x9)], [], []⟩ ?_
  refine Wp.ret ?_
  obtain rfl := oi h
  exact RetK [.i x9] _ [] kr kr (.refl _) .nil
 ·refine Wp.sag ⟨[(0, .t (.sl 1 (p0.map Image.enc))), (1, .i (bSub .i64 p1 ((p0.length : Int)))), (4, .i 0), (5, .i 0)], [], []⟩ ?_
  refine Wp.block ?_
  refine Wp.loopF (α := (List Image) × Int × Int) (fun a => ⟨[(0, .t (.sl 1 (a.1.map Image.enc))), (1, .i a.2.1), (4, .i 0), (5, .i a.2.2)], [], []⟩) (fun k_laws_szImageS_l2 a => laws_szImageS_l2 u k_laws_szImageS_l2 a.1 a.2.1 a.2.2 = some r) ?_ ?_ u (p0, bSub .i64 p1 ((p0.length : Int)), 0) h (Le.of (mo := []) (mr := []) kr kr kr kr)
  ·intro a h; unfold laws_szImageS_l2 at h; cases h
  ·rintro k_laws_szImageS_l2 ⟨p0, x3, x4⟩ h
   change laws_szImageS_l2 u (k_laws_szImageS_l2 + 1) p0 x3 x4 = some r at h
   rw [laws_szImageS_l2] at h
   refine Wp.seq ?_
   refine Wp.sb 2 ?_
   refine Runs.lenT (y := .t (.sl 1 (p0.map Image.enc))) (e := 58) Image.enc p0 1 rfl rfl rfl kr kr kr kr kr ?_
   refine Runs.allf ⟨[(0, .t (.sl 1 (p0.map Image.enc))), (1, .i x3), (4, .i 0), (5, .i x4), (15, .b (decide (x4 < ((p0.length : Int)))))], [], []⟩ ?_
   refine Wp.c2 h (fun h => ?_) (fun h => ?_)
   ·refine Wp.sk ?_
    refine Wp.seq ?_
    refine Wp.block ?_
    refine Wp.sb 2 ?_
    obtain ⟨y7, e_y7, h⟩ := bind_some h
    refine Runs.idxT (e := 58) (kk := .i64) (sz := 1) Image.enc p0 x4 rfl kr kr kr kr kr kr e_y7 ?_
    refine Runs.batch 2 kr ?_
    obtain ⟨r8, e_r8, h⟩ := bind_some h
    refine Runs.ck 23 [.agg [.s y7.fB], .i x3] (laws_szImage_ok u y7 x3 r8 e_r8) ?_
    refine Runs.allf ⟨[(0, .t (.sl 1 (p0.map Image.enc))), (1, .i r8), (4, .i 0), (5, .i x4)], [], []⟩ ?_
    refine Wp.sag ⟨[(0, .t (.sl 1 (p0.map Image.enc))), (1, .i r8), (4, .i 0), (5, .i x4), (25, .b (decide (r8 < 0)))], [], []⟩ ?_
    refine Wp.c2 h (fun h => ?_) (fun h => ?_)
    ·refine Wp.sag ⟨[(0, .t (.sl 1 (p0.map Image.enc))), (1, .i r8), (4, .i (-1)), (5, .i x4)], [], []⟩ ?_
     refine Wp.ret ?_
     refine blkR ?_
     refine thenR ?_
     refine thenR ?_
     refine blkR ?_
     refine thenR ?_
     obtain rfl := oi h
     exact RetK [.i (-1)] _ [] kr kr (.refl _) .nil
    refine Wp.skip ?_
    refine blkN ?_
    refine thenN ?_
    refine Wp.rg [] [] ?_
    refine Runs.alln ?_
    exact ⟨(p0, r8, bAdd .i64 x4 1), h, Le.of (mo := []) (mr := []) kr kr kr kr⟩
   refine Wp.exit ?_
   refine thenE ?_
   refine thenE ?_
   refine blkE ?_
   refine thenN ?_
   exact ⟨x3, h, Le.of (mo := []) (mr := []) kr kr kr kr⟩
theorem laws_szSumS_ok (u : Nat) (p0 : List Sum) (p1 : Int) (r : Int) (h : laws_szSumS u p0 p1 = some r) : CallOK Tryz.prog 158 [.one (.t (.sl 2 (p0.map Sum.enc))), .one (.i p1)] (.one (.i r)) [] := by
 unfold laws_szSumS at h
 refine CallOK.of_bodyK (fn := Tryz.f158) (m := false) [.t (.sl 2 (p0.map Sum.enc)), .i p1] kr rfl kr kr kr kr kr ?_
 refine Wp.sag ⟨[(0, .t (.sl 2 (p0.map Sum.enc))), (1, .i p1), (4, .i 0)], [], []⟩ ?_
 refine Wp.sb 2 ?_
 refine Runs.lenT (y := .t (.sl 2 (p0.map Sum.enc))) (e := 226) Sum.enc p0 2 rfl rfl rfl kr kr kr kr kr ?_
 refine Runs.allf ⟨[(1, .i (bSub .i64 p1 ((p0.length : Int)))), (4, .i 0)], [], []⟩ ?_
 refine Wp.seq ?_
 refine Wp.sag ⟨[(1, .i (bSub .i64 p1 ((p0.length : Int)))), (4, .i 0), (10, .b (decide ((bSub .i64 p1 ((p0.length : Int))) < 0)))], [], []⟩ ?_
 refine Wp.c2 h (fun h => ?_) (fun h => ?_)
 ·refine Wp.sag ⟨[(1, .i (bSub .i64 p1 ((p0.length : Int)))), (4, .i (-1))], [], []⟩ ?_
  refine Wp.ret ?_
  refine thenR ?_
  obtain rfl := oi h
  exact RetK [.i (-1)] _ [] kr kr (.refl _) .nil
 refine Wp.sk ?_
 refine Wp.sag ⟨[(4, .i (bSub .i64 p1 ((p0.length : Int))))], [], []⟩ ?_
 refine Wp.ret ?_
 obtain rfl := oi h
 exact RetK [.i (bSub .i64 p1 ((p0.length : Int)))] _ [] kr kr (.refl _) .nil
theorem laws_szManifest_ok (u : Nat) (p0 : Manifest) (p1 : Int) (r : Int) (h : laws_szManifest u p0 p1 = some r) : CallOK Tryz.prog 107 [.agg [.i p0.fGen, .i p0.fSize, .i p0.fLen, .t (.sl 2 (p0.fSums.map Sum.enc))], .one (.i p1)] (.one (.i r)) [] := by
 unfold laws_szManifest at h
 refine CallOK.of_bodyK (fn := Tryz.f107) (m := false) [.agg ((Manifest.enc p0).map .t), .i p1] kr rfl kr kr kr kr kr ?_
 refine Wp.sag ⟨[(1, .i p1), (2, .obj 2 0), (4, .i 0)], [(2, ((Manifest.enc p0).map .t))], []⟩ ?_
 refine Wp.sb 3 ?_
 obtain ⟨r1, e_r1, h⟩ := bind_some h
 refine Runs.ck 8 [.t (.sl 2 (p0.fSums.map Sum.enc)), .i p1] (laws_szSumS_ok u p0.fSums p1 r1 e_r1) ?_
 refine Runs.allf ⟨[(1, .i r1), (4, .i 0)], [], []⟩ ?_
 refine Wp.seq ?_
 refine Wp.sag ⟨[(1, .i r1), (4, .i 0), (10, .b (decide (r1 < 0)))], [], []⟩ ?_
 refine Wp.c2 h (fun h => ?_) (fun h => ?_)
 ·refine Wp.sag ⟨[(1, .i r1), (4, .i (-1))], [], []⟩ ?_
  refine Wp.ret ?_
  refine thenR ?_
  obtain rfl := oi h
  exact RetK [.i (-1)] _ [] kr kr (.refl _) .nil
 refine Wp.sk ?_
 refine Wp.sag ⟨[(4, .i r1)], [], []⟩ ?_
 refine Wp.ret ?_
 obtain rfl := oi h
 exact RetK [.i r1] _ [] kr kr (.refl _) .nil
theorem laws_szBuild_ok (u : Nat) (p0 : Build) (p1 : Int) (r : Int) (h : laws_szBuild u p0 p1 = some r) : CallOK Tryz.prog 108 [.agg [.i p0.fHave, .s p0.fBuf], .one (.i p1)] (.one (.i r)) [] := by
 unfold laws_szBuild at h
 refine CallOK.of_bodyK (fn := Tryz.f108) (m := false) [.agg [.i p0.fHave, .s p0.fBuf], .i p1] kr rfl kr kr kr kr kr ?_
 refine Wp.sag ⟨[(1, .i p1), (2, .obj 2 0), (4, .i 0)], [(2, [.i p0.fHave, .s p0.fBuf])], []⟩ ?_
 refine Wp.sb 3 ?_
 obtain ⟨r1, e_r1, h⟩ := bind_some h
 refine Runs.ck 8 [.s p0.fBuf, .i p1] (laws_szByteS_ok u p0.fBuf p1 r1 e_r1) ?_
 refine Runs.allf ⟨[(1, .i r1), (4, .i 0)], [], []⟩ ?_
 refine Wp.seq ?_
 refine Wp.sag ⟨[(1, .i r1), (4, .i 0), (10, .b (decide (r1 < 0)))], [], []⟩ ?_
 refine Wp.c2 h (fun h => ?_) (fun h => ?_)
 ·refine Wp.sag ⟨[(1, .i r1), (4, .i (-1))], [], []⟩ ?_
  refine Wp.ret ?_
  refine thenR ?_
  obtain rfl := oi h
  exact RetK [.i (-1)] _ [] kr kr (.refl _) .nil
 refine Wp.sk ?_
 refine Wp.sag ⟨[(4, .i r1)], [], []⟩ ?_
 refine Wp.ret ?_
 obtain rfl := oi h
 exact RetK [.i r1] _ [] kr kr (.refl _) .nil
theorem laws_szKidS_ok (u : Nat) (p0 : List Kid) (p1 : Int) (r : Int) (h : laws_szKidS u p0 p1 = some r) : CallOK Tryz.prog 109 [.one (.t (.sl 5 (p0.map Kid.enc))), .one (.i p1)] (.one (.i r)) [] := by
 unfold laws_szKidS at h
 refine CallOK.of_bodyK (fn := Tryz.f109) (m := false) [.t (.sl 5 (p0.map Kid.enc)), .i p1] kr rfl kr kr kr kr kr ?_
 refine Wp.sag ⟨[(0, .t (.sl 5 (p0.map Kid.enc))), (1, .i p1), (4, .i 0)], [], []⟩ ?_
 refine Wp.sb 2 ?_
 refine Runs.lenT (y := .t (.sl 5 (p0.map Kid.enc))) (e := 202) Kid.enc p0 5 rfl rfl rfl kr kr kr kr kr ?_
 refine Runs.allf ⟨[(1, .i (bSub .i64 p1 ((p0.length : Int)))), (4, .i 0)], [], []⟩ ?_
 refine Wp.seq ?_
 refine Wp.sag ⟨[(1, .i (bSub .i64 p1 ((p0.length : Int)))), (4, .i 0), (10, .b (decide ((bSub .i64 p1 ((p0.length : Int))) < 0)))], [], []⟩ ?_
 refine Wp.c2 h (fun h => ?_) (fun h => ?_)
 ·refine Wp.sag ⟨[(1, .i (bSub .i64 p1 ((p0.length : Int)))), (4, .i (-1))], [], []⟩ ?_
  refine Wp.ret ?_
  refine thenR ?_
  obtain rfl := oi h
  exact RetK [.i (-1)] _ [] kr kr (.refl _) .nil
 refine Wp.sk ?_
 refine Wp.sag ⟨[(4, .i (bSub .i64 p1 ((p0.length : Int))))], [], []⟩ ?_
 refine Wp.ret ?_
 obtain rfl := oi h
 exact RetK [.i (bSub .i64 p1 ((p0.length : Int)))] _ [] kr kr (.refl _) .nil
theorem laws_szNode_ok (u : Nat) (p0 : Node) (p1 : Int) (r : Int) (h : laws_szNode u p0 p1 = some r) : CallOK Tryz.prog 66 [.agg [.b p0.fOn, .i p0.fBoss, .i p0.fQuiet, .i p0.fMan.fGen, .i p0.fMan.fSize, .i p0.fMan.fLen, .t (.sl 2 (p0.fMan.fSums.map Sum.enc)), .i p0.fBld.fHave, .s p0.fBld.fBuf, .i p0.fPhase, .t (.sl 5 (p0.fKids.map Kid.enc)), .i p0.fDrops], .one (.i p1)] (.one (.i r)) [] := by
 unfold laws_szNode at h
 refine CallOK.of_bodyK (fn := Tryz.f66) (m := false) [.agg ((Node.enc p0).map .t), .i p1] kr rfl kr kr kr kr kr ?_
 refine Wp.sag ⟨[(1, .i p1), (2, .obj 2 0), (4, .i 0)], [(2, ((Node.enc p0).map .t))], []⟩ ?_
 refine Wp.sb 3 ?_
 obtain ⟨r1, e_r1, h⟩ := bind_some h
 refine Runs.ck 8 [.agg ((Manifest.enc p0.fMan).map .t), .i p1] (laws_szManifest_ok u p0.fMan p1 r1 e_r1) ?_
 refine Runs.allf ⟨[(1, .i r1), (2, .obj 2 0), (4, .i 0)], [(2, ((Node.enc p0).map .t))], []⟩ ?_
 refine Wp.seq ?_
 refine Wp.sag ⟨[(1, .i r1), (2, .obj 2 0), (4, .i 0), (10, .b (decide (r1 < 0)))], [(2, ((Node.enc p0).map .t))], []⟩ ?_
 refine Wp.c2 h (fun h => ?_) (fun h => ?_)
 ·refine Wp.sag ⟨[(1, .i r1), (2, .obj 2 0), (4, .i (-1))], [(2, ((Node.enc p0).map .t))], []⟩ ?_
  refine Wp.ret ?_
  refine thenR ?_
  obtain rfl := oi h
  exact RetK [.i (-1)] _ [] kr kr (.refl _) .nil
 refine Wp.sk ?_
 refine Wp.sb 3 ?_
 obtain ⟨r2, e_r2, h⟩ := bind_some h
 refine Runs.ck 14 [.agg [.i p0.fBld.fHave, .s p0.fBld.fBuf], .i r1] (laws_szBuild_ok u p0.fBld r1 r2 e_r2) ?_
 refine Runs.allf ⟨[(1, .i r2), (2, .obj 2 0), (4, .i 0)], [(2, ((Node.enc p0).map .t))], []⟩ ?_
 refine Wp.seq ?_
 refine Wp.sag ⟨[(1, .i r2), (2, .obj 2 0), (4, .i 0), (16, .b (decide (r2 < 0)))], [(2, ((Node.enc p0).map .t))], []⟩ ?_
 refine Wp.c2 h (fun h => ?_) (fun h => ?_)
 ·refine Wp.sag ⟨[(1, .i r2), (2, .obj 2 0), (4, .i (-1))], [(2, ((Node.enc p0).map .t))], []⟩ ?_
  refine Wp.ret ?_
  refine thenR ?_
  obtain rfl := oi h
  exact RetK [.i (-1)] _ [] kr kr (.refl _) .nil
 refine Wp.sk ?_
 refine Wp.sb 3 ?_
 obtain ⟨r3, e_r3, h⟩ := bind_some h
 refine Runs.ck 20 [.t (.sl 5 (p0.fKids.map Kid.enc)), .i r2] (laws_szKidS_ok u p0.fKids r2 r3 e_r3) ?_
 refine Runs.allf ⟨[(1, .i r3), (4, .i 0)], [], []⟩ ?_
 refine Wp.seq ?_
 refine Wp.sag ⟨[(1, .i r3), (4, .i 0), (22, .b (decide (r3 < 0)))], [], []⟩ ?_
 refine Wp.c2 h (fun h => ?_) (fun h => ?_)
 ·refine Wp.sag ⟨[(1, .i r3), (4, .i (-1))], [], []⟩ ?_
  refine Wp.ret ?_
  refine thenR ?_
  obtain rfl := oi h
  exact RetK [.i (-1)] _ [] kr kr (.refl _) .nil
 refine Wp.sk ?_
 refine Wp.sag ⟨[(4, .i r3)], [], []⟩ ?_
 refine Wp.ret ?_
 obtain rfl := oi h
 exact RetK [.i r3] _ [] kr kr (.refl _) .nil
theorem laws_szNodeS_ok (u : Nat) (p0 : List Node) (p1 : Int) (r : Int) (h : laws_szNodeS u p0 p1 = some r) : CallOK Tryz.prog 32 [.one (.t (.sl 12 (p0.map Node.enc))), .one (.i p1)] (.one (.i r)) [] := by
 unfold laws_szNodeS at h
 refine CallOK.of_bodyK (fn := Tryz.f32) (m := false) [.t (.sl 12 (p0.map Node.enc)), .i p1] kr rfl kr kr kr kr kr ?_
 refine Wp.sag ⟨[(0, .t (.sl 12 (p0.map Node.enc))), (1, .i p1), (4, .i 0)], [], []⟩ ?_
 refine Wp.sb 2 ?_
 refine Runs.lenT (y := .t (.sl 12 (p0.map Node.enc))) (e := 110) Node.enc p0 12 rfl rfl rfl kr kr kr kr kr ?_
 refine Runs.allf ⟨[(0, .t (.sl 12 (p0.map Node.enc))), (1, .i (bSub .i64 p1 ((p0.length : Int)))), (4, .i 0)], [], []⟩ ?_
 refine Wp.seq ?_
 refine Wp.sag ⟨[(0, .t (.sl 12 (p0.map Node.enc))), (1, .i (bSub .i64 p1 ((p0.length : Int)))), (4, .i 0), (11, .b (decide ((bSub .i64 p1 ((p0.length : Int))) < 0)))], [], []⟩ ?_
 refine Wp.c2 h (fun h => ?_) (fun h => ?_)
 ·refine Wp.sag ⟨[(0, .t (.sl 12 (p0.map Node.enc))), (1, .i (bSub .i64 p1 ((p0.length : Int)))), (4, .i (-1))], [], []⟩ ?_
  refine Wp.ret ?_
  refine thenR ?_
  obtain rfl := oi h
  exact RetK [.i (-1)] _ [] kr kr (.refl _) .nil
 refine Wp.sk ?_
 refine Wp.seqJ (α := Int) (fun a => ⟨[(1, .i a), (4, .i 0)], [], []⟩) (fun a => laws_szNodeS_j1 u a = some r) ?_ ?_
 ·rintro x9 h
  change laws_szNodeS_j1 u x9 = some r at h
  unfold laws_szNodeS_j1 at h
  refine Wp.sag ⟨[(4, .i x9)], [], []⟩ ?_
  refine Wp.ret ?_
  obtain rfl := oi h
  exact RetK [.i x9] _ [] kr kr (.refl _) .nil
 ·refine Wp.sag ⟨[(0, .t (.sl 12 (p0.map Node.enc))), (1, .i (bSub .i64 p1 ((p0.length : Int)))), (4, .i 0), (5, .i 0)], [], []⟩ ?_
  refine Wp.block ?_
  refine Wp.loopF (α := (List Node) × Int × Int) (fun a => ⟨[(0, .t (.sl 12 (a.1.map Node.enc))), (1, .i a.2.1), (4, .i 0), (5, .i a.2.2)], [], []⟩) (fun k_laws_szNodeS_l2 a => laws_szNodeS_l2 u k_laws_szNodeS_l2 a.1 a.2.1 a.2.2 = some r) ?_ ?_ u (p0, bSub .i64 p1 ((p0.length : Int)), 0) h (Le.of (mo := []) (mr := []) kr kr kr kr)
  ·intro a h; unfold laws_szNodeS_l2 at h; cases h
  ·rintro k_laws_szNodeS_l2 ⟨p0, x3, x4⟩ h
   change laws_szNodeS_l2 u (k_laws_szNodeS_l2 + 1) p0 x3 x4 = some r at h
   rw [laws_szNodeS_l2] at h
   refine Wp.seq ?_
   refine Wp.sb 2 ?_
   refine Runs.lenT (y := .t (.sl 12 (p0.map Node.enc))) (e := 110) Node.enc p0 12 rfl rfl rfl kr kr kr kr kr ?_
   refine Runs.allf ⟨[(0, .t (.sl 12 (p0.map Node.enc))), (1, .i x3), (4, .i 0), (5, .i x4), (15, .b (decide (x4 < ((p0.length : Int)))))], [], []⟩ ?_
   refine Wp.c2 h (fun h => ?_) (fun h => ?_)
   ·refine Wp.sk ?_
    refine Wp.seq ?_
    refine Wp.block ?_
    refine Wp.sb 2 ?_
    obtain ⟨y7, e_y7, h⟩ := bind_some h
    refine Runs.idxT (e := 110) (kk := .i64) (sz := 12) Node.enc p0 x4 rfl kr kr kr kr kr kr e_y7 ?_
    refine Runs.batch 2 kr ?_
    obtain ⟨r8, e_r8, h⟩ := bind_some h
    refine Runs.ck 23 [.agg ((Node.enc y7).map .t), .i x3] (laws_szNode_ok u y7 x3 r8 e_r8) ?_
    refine Runs.allf ⟨[(0, .t (.sl 12 (p0.map Node.enc))), (1, .i r8), (4, .i 0), (5, .i x4)], [], []⟩ ?_
    refine Wp.sag ⟨[(0, .t (.sl 12 (p0.map Node.enc))), (1, .i r8), (4, .i 0), (5, .i x4), (25, .b (decide (r8 < 0)))], [], []⟩ ?_
    refine Wp.c2 h (fun h => ?_) (fun h => ?_)
    ·refine Wp.sag ⟨[(0, .t (.sl 12 (p0.map Node.enc))), (1, .i r8), (4, .i (-1)), (5, .i x4)], [], []⟩ ?_
     refine Wp.ret ?_
     refine blkR ?_
     refine thenR ?_
     refine thenR ?_
     refine blkR ?_
     refine thenR ?_
     obtain rfl := oi h
     exact RetK [.i (-1)] _ [] kr kr (.refl _) .nil
    refine Wp.skip ?_
    refine blkN ?_
    refine thenN ?_
    refine Wp.rg [] [] ?_
    refine Runs.alln ?_
    exact ⟨(p0, r8, bAdd .i64 x4 1), h, Le.of (mo := []) (mr := []) kr kr kr kr⟩
   refine Wp.exit ?_
   refine thenE ?_
   refine thenE ?_
   refine blkE ?_
   refine thenN ?_
   exact ⟨x3, h, Le.of (mo := []) (mr := []) kr kr kr kr⟩
theorem laws_szPut_ok (u : Nat) (p0 : Put) (p1 : Int) (r : Int) (h : laws_szPut u p0 p1 = some r) : CallOK Tryz.prog 159 [.agg [.i p0.fWhat, .i p0.fAt, .s p0.fB, .i p0.fR.fGen, .i p0.fR.fSlot, .i p0.fR.fLen], .one (.i p1)] (.one (.i r)) [] := by
 unfold laws_szPut at h
 refine CallOK.of_bodyK (fn := Tryz.f159) (m := false) [.agg ((Put.enc p0).map .t), .i p1] kr rfl kr kr kr kr kr ?_
 refine Wp.sag ⟨[(1, .i p1), (2, .obj 2 0), (4, .i 0)], [(2, ((Put.enc p0).map .t))], []⟩ ?_
 refine Wp.sb 3 ?_
 obtain ⟨r1, e_r1, h⟩ := bind_some h
 refine Runs.ck 8 [.s p0.fB, .i p1] (laws_szByteS_ok u p0.fB p1 r1 e_r1) ?_
 refine Runs.allf ⟨[(1, .i r1), (4, .i 0)], [], []⟩ ?_
 refine Wp.seq ?_
 refine Wp.sag ⟨[(1, .i r1), (4, .i 0), (10, .b (decide (r1 < 0)))], [], []⟩ ?_
 refine Wp.c2 h (fun h => ?_) (fun h => ?_)
 ·refine Wp.sag ⟨[(1, .i r1), (4, .i (-1))], [], []⟩ ?_
  refine Wp.ret ?_
  refine thenR ?_
  obtain rfl := oi h
  exact RetK [.i (-1)] _ [] kr kr (.refl _) .nil
 refine Wp.sk ?_
 refine Wp.sag ⟨[(4, .i r1)], [], []⟩ ?_
 refine Wp.ret ?_
 obtain rfl := oi h
 exact RetK [.i r1] _ [] kr kr (.refl _) .nil
theorem laws_szPutS_ok (u : Nat) (p0 : List Put) (p1 : Int) (r : Int) (h : laws_szPutS u p0 p1 = some r) : CallOK Tryz.prog 110 [.one (.t (.sl 6 (p0.map Put.enc))), .one (.i p1)] (.one (.i r)) [] := by
 unfold laws_szPutS at h
 refine CallOK.of_bodyK (fn := Tryz.f110) (m := false) [.t (.sl 6 (p0.map Put.enc)), .i p1] kr rfl kr kr kr kr kr ?_
 refine Wp.sag ⟨[(0, .t (.sl 6 (p0.map Put.enc))), (1, .i p1), (4, .i 0)], [], []⟩ ?_
 refine Wp.sb 2 ?_
 refine Runs.lenT (y := .t (.sl 6 (p0.map Put.enc))) (e := 197) Put.enc p0 6 rfl rfl rfl kr kr kr kr kr ?_
 refine Runs.allf ⟨[(0, .t (.sl 6 (p0.map Put.enc))), (1, .i (bSub .i64 p1 ((p0.length : Int)))), (4, .i 0)], [], []⟩ ?_
 refine Wp.seq ?_
 refine Wp.sag ⟨[(0, .t (.sl 6 (p0.map Put.enc))), (1, .i (bSub .i64 p1 ((p0.length : Int)))), (4, .i 0), (11, .b (decide ((bSub .i64 p1 ((p0.length : Int))) < 0)))], [], []⟩ ?_
 refine Wp.c2 h (fun h => ?_) (fun h => ?_)
 ·refine Wp.sag ⟨[(0, .t (.sl 6 (p0.map Put.enc))), (1, .i (bSub .i64 p1 ((p0.length : Int)))), (4, .i (-1))], [], []⟩ ?_
  refine Wp.ret ?_
  refine thenR ?_
  obtain rfl := oi h
  exact RetK [.i (-1)] _ [] kr kr (.refl _) .nil
 refine Wp.sk ?_
 refine Wp.seqJ (α := Int) (fun a => ⟨[(1, .i a), (4, .i 0)], [], []⟩) (fun a => laws_szPutS_j1 u a = some r) ?_ ?_
 ·rintro x9 h
  change laws_szPutS_j1 u x9 = some r at h
  unfold laws_szPutS_j1 at h
  refine Wp.sag ⟨[(4, .i x9)], [], []⟩ ?_
  refine Wp.ret ?_
  obtain rfl := oi h
  exact RetK [.i x9] _ [] kr kr (.refl _) .nil
 ·refine Wp.sag ⟨[(0, .t (.sl 6 (p0.map Put.enc))), (1, .i (bSub .i64 p1 ((p0.length : Int)))), (4, .i 0), (5, .i 0)], [], []⟩ ?_
  refine Wp.block ?_
  refine Wp.loopF (α := (List Put) × Int × Int) (fun a => ⟨[(0, .t (.sl 6 (a.1.map Put.enc))), (1, .i a.2.1), (4, .i 0), (5, .i a.2.2)], [], []⟩) (fun k_laws_szPutS_l2 a => laws_szPutS_l2 u k_laws_szPutS_l2 a.1 a.2.1 a.2.2 = some r) ?_ ?_ u (p0, bSub .i64 p1 ((p0.length : Int)), 0) h (Le.of (mo := []) (mr := []) kr kr kr kr)
  ·intro a h; unfold laws_szPutS_l2 at h; cases h
  ·rintro k_laws_szPutS_l2 ⟨p0, x3, x4⟩ h
   change laws_szPutS_l2 u (k_laws_szPutS_l2 + 1) p0 x3 x4 = some r at h
   rw [laws_szPutS_l2] at h
   refine Wp.seq ?_
   refine Wp.sb 2 ?_
   refine Runs.lenT (y := .t (.sl 6 (p0.map Put.enc))) (e := 197) Put.enc p0 6 rfl rfl rfl kr kr kr kr kr ?_
   refine Runs.allf ⟨[(0, .t (.sl 6 (p0.map Put.enc))), (1, .i x3), (4, .i 0), (5, .i x4), (15, .b (decide (x4 < ((p0.length : Int)))))], [], []⟩ ?_
   refine Wp.c2 h (fun h => ?_) (fun h => ?_)
   ·refine Wp.sk ?_
    refine Wp.seq ?_
    refine Wp.block ?_
    refine Wp.sb 2 ?_
    obtain ⟨y7, e_y7, h⟩ := bind_some h
    refine Runs.idxT (e := 197) (kk := .i64) (sz := 6) Put.enc p0 x4 rfl kr kr kr kr kr kr e_y7 ?_
    refine Runs.batch 2 kr ?_
    obtain ⟨r8, e_r8, h⟩ := bind_some h
    refine Runs.ck 23 [.agg ((Put.enc y7).map .t), .i x3] (laws_szPut_ok u y7 x3 r8 e_r8) ?_
    refine Runs.allf ⟨[(0, .t (.sl 6 (p0.map Put.enc))), (1, .i r8), (4, .i 0), (5, .i x4)], [], []⟩ ?_
    refine Wp.sag ⟨[(0, .t (.sl 6 (p0.map Put.enc))), (1, .i r8), (4, .i 0), (5, .i x4), (25, .b (decide (r8 < 0)))], [], []⟩ ?_
    refine Wp.c2 h (fun h => ?_) (fun h => ?_)
    ·refine Wp.sag ⟨[(0, .t (.sl 6 (p0.map Put.enc))), (1, .i r8), (4, .i (-1)), (5, .i x4)], [], []⟩ ?_
     refine Wp.ret ?_
     refine blkR ?_
     refine thenR ?_
     refine thenR ?_
     refine blkR ?_
     refine thenR ?_
     obtain rfl := oi h
     exact RetK [.i (-1)] _ [] kr kr (.refl _) .nil
    refine Wp.skip ?_
    refine blkN ?_
    refine thenN ?_
    refine Wp.rg [] [] ?_
    refine Runs.alln ?_
    exact ⟨(p0, r8, bAdd .i64 x4 1), h, Le.of (mo := []) (mr := []) kr kr kr kr⟩
   refine Wp.exit ?_
   refine thenE ?_
   refine thenE ?_
   refine blkE ?_
   refine thenN ?_
   exact ⟨x3, h, Le.of (mo := []) (mr := []) kr kr kr kr⟩
theorem laws_szDisk_ok (u : Nat) (p0 : Disk) (p1 : Int) (r : Int) (h : laws_szDisk u p0 p1 = some r) : CallOK Tryz.prog 67 [.agg [.s p0.fA, .s p0.fB, .i p0.fR.fGen, .i p0.fR.fSlot, .i p0.fR.fLen, .t (.sl 6 (p0.fP.map Put.enc))], .one (.i p1)] (.one (.i r)) [] := by
 unfold laws_szDisk at h
 refine CallOK.of_bodyK (fn := Tryz.f67) (m := false) [.agg ((Disk.enc p0).map .t), .i p1] kr rfl kr kr kr kr kr ?_
 refine Wp.sag ⟨[(1, .i p1), (2, .obj 2 0), (4, .i 0)], [(2, ((Disk.enc p0).map .t))], []⟩ ?_
 refine Wp.sb 3 ?_
 obtain ⟨r1, e_r1, h⟩ := bind_some h
 refine Runs.ck 8 [.s p0.fA, .i p1] (laws_szByteS_ok u p0.fA p1 r1 e_r1) ?_
 refine Runs.allf ⟨[(1, .i r1), (2, .obj 2 0), (4, .i 0)], [(2, ((Disk.enc p0).map .t))], []⟩ ?_
 refine Wp.seq ?_
 refine Wp.sag ⟨[(1, .i r1), (2, .obj 2 0), (4, .i 0), (10, .b (decide (r1 < 0)))], [(2, ((Disk.enc p0).map .t))], []⟩ ?_
 refine Wp.c2 h (fun h => ?_) (fun h => ?_)
 ·refine Wp.sag ⟨[(1, .i r1), (2, .obj 2 0), (4, .i (-1))], [(2, ((Disk.enc p0).map .t))], []⟩ ?_
  refine Wp.ret ?_
  refine thenR ?_
  obtain rfl := oi h
  exact RetK [.i (-1)] _ [] kr kr (.refl _) .nil
 refine Wp.sk ?_
 refine Wp.sb 3 ?_
 obtain ⟨r2, e_r2, h⟩ := bind_some h
 refine Runs.ck 14 [.s p0.fB, .i r1] (laws_szByteS_ok u p0.fB r1 r2 e_r2) ?_
 refine Runs.allf ⟨[(1, .i r2), (2, .obj 2 0), (4, .i 0)], [(2, ((Disk.enc p0).map .t))], []⟩ ?_
 refine Wp.seq ?_
 refine Wp.sag ⟨[(1, .i r2), (2, .obj 2 0), (4, .i 0), (16, .b (decide (r2 < 0)))], [(2, ((Disk.enc p0).map .t))], []⟩ ?_
 refine Wp.c2 h (fun h => ?_) (fun h => ?_)
 ·refine Wp.sag ⟨[(1, .i r2), (2, .obj 2 0), (4, .i (-1))], [(2, ((Disk.enc p0).map .t))], []⟩ ?_
  refine Wp.ret ?_
  refine thenR ?_
  obtain rfl := oi h
  exact RetK [.i (-1)] _ [] kr kr (.refl _) .nil
 refine Wp.sk ?_
 refine Wp.sb 3 ?_
 obtain ⟨r3, e_r3, h⟩ := bind_some h
 refine Runs.ck 20 [.t (.sl 6 (p0.fP.map Put.enc)), .i r2] (laws_szPutS_ok u p0.fP r2 r3 e_r3) ?_
 refine Runs.allf ⟨[(1, .i r3), (4, .i 0)], [], []⟩ ?_
 refine Wp.seq ?_
 refine Wp.sag ⟨[(1, .i r3), (4, .i 0), (22, .b (decide (r3 < 0)))], [], []⟩ ?_
 refine Wp.c2 h (fun h => ?_) (fun h => ?_)
 ·refine Wp.sag ⟨[(1, .i r3), (4, .i (-1))], [], []⟩ ?_
  refine Wp.ret ?_
  refine thenR ?_
  obtain rfl := oi h
  exact RetK [.i (-1)] _ [] kr kr (.refl _) .nil
 refine Wp.sk ?_
 refine Wp.sag ⟨[(4, .i r3)], [], []⟩ ?_
 refine Wp.ret ?_
 obtain rfl := oi h
 exact RetK [.i r3] _ [] kr kr (.refl _) .nil
theorem laws_szDiskS_ok (u : Nat) (p0 : List Disk) (p1 : Int) (r : Int) (h : laws_szDiskS u p0 p1 = some r) : CallOK Tryz.prog 33 [.one (.t (.sl 6 (p0.map Disk.enc))), .one (.i p1)] (.one (.i r)) [] := by
 unfold laws_szDiskS at h
 refine CallOK.of_bodyK (fn := Tryz.f33) (m := false) [.t (.sl 6 (p0.map Disk.enc)), .i p1] kr rfl kr kr kr kr kr ?_
 refine Wp.sag ⟨[(0, .t (.sl 6 (p0.map Disk.enc))), (1, .i p1), (4, .i 0)], [], []⟩ ?_
 refine Wp.sb 2 ?_
 refine Runs.lenT (y := .t (.sl 6 (p0.map Disk.enc))) (e := 116) Disk.enc p0 6 rfl rfl rfl kr kr kr kr kr ?_
 refine Runs.allf ⟨[(0, .t (.sl 6 (p0.map Disk.enc))), (1, .i (bSub .i64 p1 ((p0.length : Int)))), (4, .i 0)], [], []⟩ ?_
 refine Wp.seq ?_
 refine Wp.sag ⟨[(0, .t (.sl 6 (p0.map Disk.enc))), (1, .i (bSub .i64 p1 ((p0.length : Int)))), (4, .i 0), (11, .b (decide ((bSub .i64 p1 ((p0.length : Int))) < 0)))], [], []⟩ ?_
 refine Wp.c2 h (fun h => ?_) (fun h => ?_)
 ·refine Wp.sag ⟨[(0, .t (.sl 6 (p0.map Disk.enc))), (1, .i (bSub .i64 p1 ((p0.length : Int)))), (4, .i (-1))], [], []⟩ ?_
  refine Wp.ret ?_
  refine thenR ?_
  obtain rfl := oi h
  exact RetK [.i (-1)] _ [] kr kr (.refl _) .nil
 refine Wp.sk ?_
 refine Wp.seqJ (α := Int) (fun a => ⟨[(1, .i a), (4, .i 0)], [], []⟩) (fun a => laws_szDiskS_j1 u a = some r) ?_ ?_
 ·rintro x9 h
  change laws_szDiskS_j1 u x9 = some r at h
  unfold laws_szDiskS_j1 at h
  refine Wp.sag ⟨[(4, .i x9)], [], []⟩ ?_
  refine Wp.ret ?_
  obtain rfl := oi h
  exact RetK [.i x9] _ [] kr kr (.refl _) .nil
 ·refine Wp.sag ⟨[(0, .t (.sl 6 (p0.map Disk.enc))), (1, .i (bSub .i64 p1 ((p0.length : Int)))), (4, .i 0), (5, .i 0)], [], []⟩ ?_
  refine Wp.block ?_
  refine Wp.loopF (α := (List Disk) × Int × Int) (fun a => ⟨[(0, .t (.sl 6 (a.1.map Disk.enc))), (1, .i a.2.1), (4, .i 0), (5, .i a.2.2)], [], []⟩) (fun k_laws_szDiskS_l2 a => laws_szDiskS_l2 u k_laws_szDiskS_l2 a.1 a.2.1 a.2.2 = some r) ?_ ?_ u (p0, bSub .i64 p1 ((p0.length : Int)), 0) h (Le.of (mo := []) (mr := []) kr kr kr kr)
  ·intro a h; unfold laws_szDiskS_l2 at h; cases h
  ·rintro k_laws_szDiskS_l2 ⟨p0, x3, x4⟩ h
   change laws_szDiskS_l2 u (k_laws_szDiskS_l2 + 1) p0 x3 x4 = some r at h
   rw [laws_szDiskS_l2] at h
   refine Wp.seq ?_
   refine Wp.sb 2 ?_
   refine Runs.lenT (y := .t (.sl 6 (p0.map Disk.enc))) (e := 116) Disk.enc p0 6 rfl rfl rfl kr kr kr kr kr ?_
   refine Runs.allf ⟨[(0, .t (.sl 6 (p0.map Disk.enc))), (1, .i x3), (4, .i 0), (5, .i x4), (15, .b (decide (x4 < ((p0.length : Int)))))], [], []⟩ ?_
   refine Wp.c2 h (fun h => ?_) (fun h => ?_)
   ·refine Wp.sk ?_
    refine Wp.seq ?_
    refine Wp.block ?_
    refine Wp.sb 2 ?_
    obtain ⟨y7, e_y7, h⟩ := bind_some h
    refine Runs.idxT (e := 116) (kk := .i64) (sz := 6) Disk.enc p0 x4 rfl kr kr kr kr kr kr e_y7 ?_
    refine Runs.batch 2 kr ?_
    obtain ⟨r8, e_r8, h⟩ := bind_some h
    refine Runs.ck 23 [.agg ((Disk.enc y7).map .t), .i x3] (laws_szDisk_ok u y7 x3 r8 e_r8) ?_
    refine Runs.allf ⟨[(0, .t (.sl 6 (p0.map Disk.enc))), (1, .i r8), (4, .i 0), (5, .i x4)], [], []⟩ ?_
    refine Wp.sag ⟨[(0, .t (.sl 6 (p0.map Disk.enc))), (1, .i r8), (4, .i 0), (5, .i x4), (25, .b (decide (r8 < 0)))], [], []⟩ ?_
    refine Wp.c2 h (fun h => ?_) (fun h => ?_)
    ·refine Wp.sag ⟨[(0, .t (.sl 6 (p0.map Disk.enc))), (1, .i r8), (4, .i (-1)), (5, .i x4)], [], []⟩ ?_
     refine Wp.ret ?_
     refine blkR ?_
     refine thenR ?_
     refine thenR ?_
     refine blkR ?_
     refine thenR ?_
     obtain rfl := oi h
     exact RetK [.i (-1)] _ [] kr kr (.refl _) .nil
    refine Wp.skip ?_
    refine blkN ?_
    refine thenN ?_
    refine Wp.rg [] [] ?_
    refine Runs.alln ?_
    exact ⟨(p0, r8, bAdd .i64 x4 1), h, Le.of (mo := []) (mr := []) kr kr kr kr⟩
   refine Wp.exit ?_
   refine thenE ?_
   refine thenE ?_
   refine blkE ?_
   refine thenN ?_
   exact ⟨x3, h, Le.of (mo := []) (mr := []) kr kr kr kr⟩
theorem laws_szPacket_ok (u : Nat) (p0 : Packet) (p1 : Int) (r : Int) (h : laws_szPacket u p0 p1 = some r) : CallOK Tryz.prog 68 [.agg [.i p0.fFrom, .i p0.fTo, .s p0.fB], .one (.i p1)] (.one (.i r)) [] := by
 unfold laws_szPacket at h
 refine CallOK.of_bodyK (fn := Tryz.f68) (m := false) [.agg ((Packet.enc p0).map .t), .i p1] kr rfl kr kr kr kr kr ?_
 refine Wp.sag ⟨[(1, .i p1), (2, .obj 2 0), (4, .i 0)], [(2, ((Packet.enc p0).map .t))], []⟩ ?_
 refine Wp.sb 3 ?_
 obtain ⟨r1, e_r1, h⟩ := bind_some h
 refine Runs.ck 8 [.s p0.fB, .i p1] (laws_szByteS_ok u p0.fB p1 r1 e_r1) ?_
 refine Runs.allf ⟨[(1, .i r1), (4, .i 0)], [], []⟩ ?_
 refine Wp.seq ?_
 refine Wp.sag ⟨[(1, .i r1), (4, .i 0), (10, .b (decide (r1 < 0)))], [], []⟩ ?_
 refine Wp.c2 h (fun h => ?_) (fun h => ?_)
 ·refine Wp.sag ⟨[(1, .i r1), (4, .i (-1))], [], []⟩ ?_
  refine Wp.ret ?_
  refine thenR ?_
  obtain rfl := oi h
  exact RetK [.i (-1)] _ [] kr kr (.refl _) .nil
 refine Wp.sk ?_
 refine Wp.sag ⟨[(4, .i r1)], [], []⟩ ?_
 refine Wp.ret ?_
 obtain rfl := oi h
 exact RetK [.i r1] _ [] kr kr (.refl _) .nil
theorem laws_szPacketS_ok (u : Nat) (p0 : List Packet) (p1 : Int) (r : Int) (h : laws_szPacketS u p0 p1 = some r) : CallOK Tryz.prog 34 [.one (.t (.sl 3 (p0.map Packet.enc))), .one (.i p1)] (.one (.i r)) [] := by
 unfold laws_szPacketS at h
 refine CallOK.of_bodyK (fn := Tryz.f34) (m := false) [.t (.sl 3 (p0.map Packet.enc)), .i p1] kr rfl kr kr kr kr kr ?_
 refine Wp.sag ⟨[(0, .t (.sl 3 (p0.map Packet.enc))), (1, .i p1), (4, .i 0)], [], []⟩ ?_
 refine Wp.sb 2 ?_
 refine Runs.lenT (y := .t (.sl 3 (p0.map Packet.enc))) (e := 118) Packet.enc p0 3 rfl rfl rfl kr kr kr kr kr ?_
 refine Runs.allf ⟨[(0, .t (.sl 3 (p0.map Packet.enc))), (1, .i (bSub .i64 p1 ((p0.length : Int)))), (4, .i 0)], [], []⟩ ?_
 refine Wp.seq ?_
 refine Wp.sag ⟨[(0, .t (.sl 3 (p0.map Packet.enc))), (1, .i (bSub .i64 p1 ((p0.length : Int)))), (4, .i 0), (11, .b (decide ((bSub .i64 p1 ((p0.length : Int))) < 0)))], [], []⟩ ?_
 refine Wp.c2 h (fun h => ?_) (fun h => ?_)
 ·refine Wp.sag ⟨[(0, .t (.sl 3 (p0.map Packet.enc))), (1, .i (bSub .i64 p1 ((p0.length : Int)))), (4, .i (-1))], [], []⟩ ?_
  refine Wp.ret ?_
  refine thenR ?_
  obtain rfl := oi h
  exact RetK [.i (-1)] _ [] kr kr (.refl _) .nil
 refine Wp.sk ?_
 refine Wp.seqJ (α := Int) (fun a => ⟨[(1, .i a), (4, .i 0)], [], []⟩) (fun a => laws_szPacketS_j1 u a = some r) ?_ ?_
 ·rintro x9 h
  change laws_szPacketS_j1 u x9 = some r at h
  unfold laws_szPacketS_j1 at h
  refine Wp.sag ⟨[(4, .i x9)], [], []⟩ ?_
  refine Wp.ret ?_
  obtain rfl := oi h
  exact RetK [.i x9] _ [] kr kr (.refl _) .nil
 ·refine Wp.sag ⟨[(0, .t (.sl 3 (p0.map Packet.enc))), (1, .i (bSub .i64 p1 ((p0.length : Int)))), (4, .i 0), (5, .i 0)], [], []⟩ ?_
  refine Wp.block ?_
  refine Wp.loopF (α := (List Packet) × Int × Int) (fun a => ⟨[(0, .t (.sl 3 (a.1.map Packet.enc))), (1, .i a.2.1), (4, .i 0), (5, .i a.2.2)], [], []⟩) (fun k_laws_szPacketS_l2 a => laws_szPacketS_l2 u k_laws_szPacketS_l2 a.1 a.2.1 a.2.2 = some r) ?_ ?_ u (p0, bSub .i64 p1 ((p0.length : Int)), 0) h (Le.of (mo := []) (mr := []) kr kr kr kr)
  ·intro a h; unfold laws_szPacketS_l2 at h; cases h
  ·rintro k_laws_szPacketS_l2 ⟨p0, x3, x4⟩ h
   change laws_szPacketS_l2 u (k_laws_szPacketS_l2 + 1) p0 x3 x4 = some r at h
   rw [laws_szPacketS_l2] at h
   refine Wp.seq ?_
   refine Wp.sb 2 ?_
   refine Runs.lenT (y := .t (.sl 3 (p0.map Packet.enc))) (e := 118) Packet.enc p0 3 rfl rfl rfl kr kr kr kr kr ?_
   refine Runs.allf ⟨[(0, .t (.sl 3 (p0.map Packet.enc))), (1, .i x3), (4, .i 0), (5, .i x4), (15, .b (decide (x4 < ((p0.length : Int)))))], [], []⟩ ?_
   refine Wp.c2 h (fun h => ?_) (fun h => ?_)
   ·refine Wp.sk ?_
    refine Wp.seq ?_
    refine Wp.block ?_
    refine Wp.sb 2 ?_
    obtain ⟨y7, e_y7, h⟩ := bind_some h
    refine Runs.idxT (e := 118) (kk := .i64) (sz := 3) Packet.enc p0 x4 rfl kr kr kr kr kr kr e_y7 ?_
    refine Runs.batch 2 kr ?_
    obtain ⟨r8, e_r8, h⟩ := bind_some h
    refine Runs.ck 23 [.agg ((Packet.enc y7).map .t), .i x3] (laws_szPacket_ok u y7 x3 r8 e_r8) ?_
    refine Runs.allf ⟨[(0, .t (.sl 3 (p0.map Packet.enc))), (1, .i r8), (4, .i 0), (5, .i x4)], [], []⟩ ?_
    refine Wp.sag ⟨[(0, .t (.sl 3 (p0.map Packet.enc))), (1, .i r8), (4, .i 0), (5, .i x4), (25, .b (decide (r8 < 0)))], [], []⟩ ?_
    refine Wp.c2 h (fun h => ?_) (fun h => ?_)
    ·refine Wp.sag ⟨[(0, .t (.sl 3 (p0.map Packet.enc))), (1, .i r8), (4, .i (-1)), (5, .i x4)], [], []⟩ ?_
     refine Wp.ret ?_
     refine blkR ?_
     refine thenR ?_
     refine thenR ?_
     refine blkR ?_
     refine thenR ?_
     obtain rfl := oi h
     exact RetK [.i (-1)] _ [] kr kr (.refl _) .nil
    refine Wp.skip ?_
    refine blkN ?_
    refine thenN ?_
    refine Wp.rg [] [] ?_
    refine Runs.alln ?_
    exact ⟨(p0, r8, bAdd .i64 x4 1), h, Le.of (mo := []) (mr := []) kr kr kr kr⟩
   refine Wp.exit ?_
   refine thenE ?_
   refine thenE ?_
   refine blkE ?_
   refine thenN ?_
   exact ⟨x3, h, Le.of (mo := []) (mr := []) kr kr kr kr⟩
theorem laws_szSentS_ok (u : Nat) (p0 : List Sent) (p1 : Int) (r : Int) (h : laws_szSentS u p0 p1 = some r) : CallOK Tryz.prog 35 [.one (.t (.sl 3 (p0.map Sent.enc))), .one (.i p1)] (.one (.i r)) [] := by
 unfold laws_szSentS at h
 refine CallOK.of_bodyK (fn := Tryz.f35) (m := false) [.t (.sl 3 (p0.map Sent.enc)), .i p1] kr rfl kr kr kr kr kr ?_
 refine Wp.sag ⟨[(0, .t (.sl 3 (p0.map Sent.enc))), (1, .i p1), (4, .i 0)], [], []⟩ ?_
 refine Wp.sb 2 ?_
 refine Runs.lenT (y := .t (.sl 3 (p0.map Sent.enc))) (e := 130) Sent.enc p0 3 rfl rfl rfl kr kr kr kr kr ?_
 refine Runs.allf ⟨[(1, .i (bSub .i64 p1 ((p0.length : Int)))), (4, .i 0)], [], []⟩ ?_
 refine Wp.seq ?_
 refine Wp.sag ⟨[(1, .i (bSub .i64 p1 ((p0.length : Int)))), (4, .i 0), (10, .b (decide ((bSub .i64 p1 ((p0.length : Int))) < 0)))], [], []⟩ ?_
 refine Wp.c2 h (fun h => ?_) (fun h => ?_)
 ·refine Wp.sag ⟨[(1, .i (bSub .i64 p1 ((p0.length : Int)))), (4, .i (-1))], [], []⟩ ?_
  refine Wp.ret ?_
  refine thenR ?_
  obtain rfl := oi h
  exact RetK [.i (-1)] _ [] kr kr (.refl _) .nil
 refine Wp.sk ?_
 refine Wp.sag ⟨[(4, .i (bSub .i64 p1 ((p0.length : Int))))], [], []⟩ ?_
 refine Wp.ret ?_
 obtain rfl := oi h
 exact RetK [.i (bSub .i64 p1 ((p0.length : Int)))] _ [] kr kr (.refl _) .nil
theorem laws_szWorld_ok (u : Nat) (p0 : World) (p1 : Int) (r : Int) (h : laws_szWorld u p0 p1 = some r) : CallOK Tryz.prog 14 [.agg [.i p0.fC.fSize, .i p0.fC.fWindow, .i p0.fC.fSuspect, .i p0.fC.fForget, .t (.sl 1 (p0.fT.fUp.map (eInt .i64))), .s p0.fNew, .t (.sl 1 (p0.fOld.map Image.enc)), .t (.sl 12 (p0.fN.map Node.enc)), .t (.sl 6 (p0.fD.map Disk.enc)), .t (.sl 3 (p0.fNet.map Packet.enc)), .t (.sl 3 (p0.fLog.map Sent.enc)), .i p0.fLost], .one (.i p1)] (.one (.i r)) [] := by
 unfold laws_szWorld at h
 refine CallOK.of_bodyK (fn := Tryz.f14) (m := false) [.agg ((World.enc p0).map .t), .i p1] kr rfl kr kr kr kr kr ?_
 refine Wp.sag ⟨[(1, .i p1), (2, .obj 2 0), (4, .i 0)], [(2, ((World.enc p0).map .t))], []⟩ ?_
 refine Wp.sb 3 ?_
 obtain ⟨r1, e_r1, h⟩ := bind_some h
 refine Runs.ck 8 [.agg [.t (.sl 1 (p0.fT.fUp.map (eInt .i64)))], .i p1] (laws_szTree_ok u p0.fT p1 r1 e_r1) ?_
 refine Runs.allf ⟨[(1, .i r1), (2, .obj 2 0), (4, .i 0)], [(2, ((World.enc p0).map .t))], []⟩ ?_
 refine Wp.seq ?_
 refine Wp.sag ⟨[(1, .i r1), (2, .obj 2 0), (4, .i 0), (10, .b (decide (r1 < 0)))], [(2, ((World.enc p0).map .t))], []⟩ ?_
 refine Wp.c2 h (fun h => ?_) (fun h => ?_)
 ·refine Wp.sag ⟨[(1, .i r1), (2, .obj 2 0), (4, .i (-1))], [(2, ((World.enc p0).map .t))], []⟩ ?_
  refine Wp.ret ?_
  refine thenR ?_
  obtain rfl := oi h
  exact RetK [.i (-1)] _ [] kr kr (.refl _) .nil
 refine Wp.sk ?_
 refine Wp.sb 3 ?_
 obtain ⟨r2, e_r2, h⟩ := bind_some h
 refine Runs.ck 14 [.s p0.fNew, .i r1] (laws_szByteS_ok u p0.fNew r1 r2 e_r2) ?_
 refine Runs.allf ⟨[(1, .i r2), (2, .obj 2 0), (4, .i 0)], [(2, ((World.enc p0).map .t))], []⟩ ?_
 refine Wp.seq ?_
 refine Wp.sag ⟨[(1, .i r2), (2, .obj 2 0), (4, .i 0), (16, .b (decide (r2 < 0)))], [(2, ((World.enc p0).map .t))], []⟩ ?_
 refine Wp.c2 h (fun h => ?_) (fun h => ?_)
 ·refine Wp.sag ⟨[(1, .i r2), (2, .obj 2 0), (4, .i (-1))], [(2, ((World.enc p0).map .t))], []⟩ ?_
  refine Wp.ret ?_
  refine thenR ?_
  obtain rfl := oi h
  exact RetK [.i (-1)] _ [] kr kr (.refl _) .nil
 refine Wp.sk ?_
 refine Wp.sb 3 ?_
 obtain ⟨r3, e_r3, h⟩ := bind_some h
 refine Runs.ck 20 [.t (.sl 1 (p0.fOld.map Image.enc)), .i r2] (laws_szImageS_ok u p0.fOld r2 r3 e_r3) ?_
 refine Runs.allf ⟨[(1, .i r3), (2, .obj 2 0), (4, .i 0)], [(2, ((World.enc p0).map .t))], []⟩ ?_
 refine Wp.seq ?_
 refine Wp.sag ⟨[(1, .i r3), (2, .obj 2 0), (4, .i 0), (22, .b (decide (r3 < 0)))], [(2, ((World.enc p0).map .t))], []⟩ ?_
 refine Wp.c2 h (fun h => ?_) (fun h => ?_)
 ·refine Wp.sag ⟨[(1, .i r3), (2, .obj 2 0), (4, .i (-1))], [(2, ((World.enc p0).map .t))], []⟩ ?_
  refine Wp.ret ?_
  refine thenR ?_
  obtain rfl := oi h
  exact RetK [.i (-1)] _ [] kr kr (.refl _) .nil
 refine Wp.sk ?_
 refine Wp.sb 3 ?_
 obtain ⟨r4, e_r4, h⟩ := bind_some h
 refine Runs.ck 26 [.t (.sl 12 (p0.fN.map Node.enc)), .i r3] (laws_szNodeS_ok u p0.fN r3 r4 e_r4) ?_
 refine Runs.allf ⟨[(1, .i r4), (2, .obj 2 0), (4, .i 0)], [(2, ((World.enc p0).map .t))], []⟩ ?_
 refine Wp.seq ?_
 refine Wp.sag ⟨[(1, .i r4), (2, .obj 2 0), (4, .i 0), (28, .b (decide (r4 < 0)))], [(2, ((World.enc p0).map .t))], []⟩ ?_
 refine Wp.c2 h (fun h => ?_) (fun h => ?_)
 ·refine Wp.sag ⟨[(1, .i r4), (2, .obj 2 0), (4, .i (-1))], [(2, ((World.enc p0).map .t))], []⟩ ?_
  refine Wp.ret ?_
  refine thenR ?_
  obtain rfl := oi h
  exact RetK [.i (-1)] _ [] kr kr (.refl _) .nil
 refine Wp.sk ?_
 refine Wp.sb 3 ?_
 obtain ⟨r5, e_r5, h⟩ := bind_some h
 refine Runs.ck 32 [.t (.sl 6 (p0.fD.map Disk.enc)), .i r4] (laws_szDiskS_ok u p0.fD r4 r5 e_r5) ?_
 refine Runs.allf ⟨[(1, .i r5), (2, .obj 2 0), (4, .i 0)], [(2, ((World.enc p0).map .t))], []⟩ ?_
 refine Wp.seq ?_
 refine Wp.sag ⟨[(1, .i r5), (2, .obj 2 0), (4, .i 0), (34, .b (decide (r5 < 0)))], [(2, ((World.enc p0).map .t))], []⟩ ?_
 refine Wp.c2 h (fun h => ?_) (fun h => ?_)
 ·refine Wp.sag ⟨[(1, .i r5), (2, .obj 2 0), (4, .i (-1))], [(2, ((World.enc p0).map .t))], []⟩ ?_
  refine Wp.ret ?_
  refine thenR ?_
  obtain rfl := oi h
  exact RetK [.i (-1)] _ [] kr kr (.refl _) .nil
 refine Wp.sk ?_
 refine Wp.sb 3 ?_
 obtain ⟨r6, e_r6, h⟩ := bind_some h
 refine Runs.ck 38 [.t (.sl 3 (p0.fNet.map Packet.enc)), .i r5] (laws_szPacketS_ok u p0.fNet r5 r6 e_r6) ?_
 refine Runs.allf ⟨[(1, .i r6), (2, .obj 2 0), (4, .i 0)], [(2, ((World.enc p0).map .t))], []⟩ ?_
 refine Wp.seq ?_
 refine Wp.sag ⟨[(1, .i r6), (2, .obj 2 0), (4, .i 0), (40, .b (decide (r6 < 0)))], [(2, ((World.enc p0).map .t))], []⟩ ?_
 refine Wp.c2 h (fun h => ?_) (fun h => ?_)
 ·refine Wp.sag ⟨[(1, .i r6), (2, .obj 2 0), (4, .i (-1))], [(2, ((World.enc p0).map .t))], []⟩ ?_
  refine Wp.ret ?_
  refine thenR ?_
  obtain rfl := oi h
  exact RetK [.i (-1)] _ [] kr kr (.refl _) .nil
 refine Wp.sk ?_
 refine Wp.sb 3 ?_
 obtain ⟨r7, e_r7, h⟩ := bind_some h
 refine Runs.ck 44 [.t (.sl 3 (p0.fLog.map Sent.enc)), .i r6] (laws_szSentS_ok u p0.fLog r6 r7 e_r7) ?_
 refine Runs.allf ⟨[(1, .i r7), (4, .i 0)], [], []⟩ ?_
 refine Wp.seq ?_
 refine Wp.sag ⟨[(1, .i r7), (4, .i 0), (46, .b (decide (r7 < 0)))], [], []⟩ ?_
 refine Wp.c2 h (fun h => ?_) (fun h => ?_)
 ·refine Wp.sag ⟨[(1, .i r7), (4, .i (-1))], [], []⟩ ?_
  refine Wp.ret ?_
  refine thenR ?_
  obtain rfl := oi h
  exact RetK [.i (-1)] _ [] kr kr (.refl _) .nil
 refine Wp.sk ?_
 refine Wp.sag ⟨[(4, .i r7)], [], []⟩ ?_
 refine Wp.ret ?_
 obtain rfl := oi h
 exact RetK [.i r7] _ [] kr kr (.refl _) .nil
theorem laws_toConf_ok (u : Nat) (p0 : Conf) (r : Conf) (h : laws_toConf u p0 = some r) : CallOK Tryz.prog 38 [.agg [.i p0.fSize, .i p0.fWindow, .i p0.fSuspect, .i p0.fForget]] (.agg [.i r.fSize, .i r.fWindow, .i r.fSuspect, .i r.fForget]) [] := by
 unfold laws_toConf at h
 refine CallOK.of_bodyK (fn := Tryz.f38) (m := false) [.agg ((Conf.enc p0).map .t)] kr rfl kr kr kr kr kr ?_
 refine Wp.sag ⟨[(1, .obj 1 0), (2, .obj 2 0)], [(1, ((Conf.enc p0).map .t)), (2, [.i 0, .i 0, .i 0, .i 0])], []⟩ ?_
 refine Wp.sag ⟨[(1, .obj 1 0), (2, .obj 2 0), (3, .obj 3 0)], [(1, ((Conf.enc p0).map .t)), (2, [.i 0, .i 0, .i 0, .i 0]), (3, [.i 0, .i 0, .i 0, .i 0])], []⟩ ?_
 refine Wp.sag ⟨[(1, .obj 1 0), (2, .obj 2 0), (3, .obj 3 0)], [(1, ((Conf.enc p0).map .t)), (2, [.i 0, .i 0, .i 0, .i 0]), (3, [.i p0.fSize, .i 0, .i 0, .i 0])], []⟩ ?_
 refine Wp.sag ⟨[(1, .obj 1 0), (2, .obj 2 0), (3, .obj 3 0)], [(1, ((Conf.enc p0).map .t)), (2, [.i 0, .i 0, .i 0, .i 0]), (3, [.i p0.fSize, .i p0.fWindow, .i 0, .i 0])], []⟩ ?_
 refine Wp.sag ⟨[(1, .obj 1 0), (2, .obj 2 0), (3, .obj 3 0)], [(1, ((Conf.enc p0).map .t)), (2, [.i 0, .i 0, .i 0, .i 0]), (3, [.i p0.fSize, .i p0.fWindow, .i p0.fSuspect, .i 0])], []⟩ ?_
 refine Wp.sag ⟨[(2, .obj 2 0), (3, .obj 3 0)], [(2, [.i 0, .i 0, .i 0, .i 0]), (3, ((Conf.enc p0).map .t))], []⟩ ?_
 refine Wp.sag ⟨[(2, .obj 2 0)], [(2, ((Conf.enc p0).map .t))], []⟩ ?_
 refine Wp.ret ?_
 obtain rfl := oi h
 exact RetK [.agg ((Conf.enc p0).map .t)] _ [] kr kr (.refl _) .nil
theorem laws_toIntS_ok (u : Nat) (p0 : List Int) (r : (List Int)) (h : laws_toIntS u p0 = some r) : CallOK Tryz.prog 71 [.one (.t (.sl 1 (p0.map (eInt .i64))))] (.one (.ow 3 1 (r.map (eInt .i64)))) [] := by
 unfold laws_toIntS at h
 refine CallOK.of_bodyK (fn := Tryz.f71) (m := true) [.t (.sl 1 (p0.map (eInt .i64)))] kr rfl kr kr kr kr kr ?_
 refine Wp.sag ⟨[(0, .t (.sl 1 (p0.map (eInt .i64)))), (2, .nil)], [], []⟩ ?_
 refine Wp.sb 1 ?_
 refine Runs.lenT (y := .t (.sl 1 (p0.map (eInt .i64)))) (e := 3) (eInt .i64) p0 1 rfl rfl rfl kr kr kr kr kr ?_
 obtain ⟨_, e_1, h⟩ := bind_some h
 obtain ⟨_, e_2, h⟩ := bind_some h
 refine Runs.mkS (eInt .i64) (0 : Int) 7 3 1 8 ((p0.length : Int)) ((p0.length : Int)) rfl rfl kr kr kr kr kr kr (chk_some e_1) (of_decide_eq_true (chk_some e_2)) kr ?_
 refine Runs.allf ⟨[(0, .t (.sl 1 (p0.map (eInt .i64)))), (2, .nil), (3, .own 458752)], [], [(458752, .live 3 1 ((List.replicate (Int.toNat ((p0.length : Int))) (0 : Int)).map (eInt .i64)))]⟩ ?_
 refine Wp.seqJ (α := (List Int)) (fun a => ⟨[(2, .nil), (3, .own 196609)], [], [(196609, .live 3 1 (a.map (eInt .i64)))]⟩) (fun a => laws_toIntS_j1 u a = some r) ?_ ?_
 ·rintro x11 h
  change laws_toIntS_j1 u x11 = some r at h
  unfold laws_toIntS_j1 at h
  refine Wp.sag ⟨[(2, .own 196609)], [], [(196609, .live 3 1 (x11.map (eInt .i64)))]⟩ ?_
  refine Wp.ret ?_
  obtain rfl := oi h
  exact RetK [.own 196609] _ [] kr kr (.refl _) .nil
 ·refine Wp.sag ⟨[(0, .t (.sl 1 (p0.map (eInt .i64)))), (2, .nil), (3, .own 458752), (4, .i 0)], [], [(458752, .live 3 1 ((List.replicate (Int.toNat ((p0.length : Int))) (0 : Int)).map (eInt .i64)))]⟩ ?_
  refine Wp.block ?_
  refine Wp.loopF (α := (List Int) × (List Int) × Int) (fun a => ⟨[(0, .t (.sl 1 (a.1.map (eInt .i64)))), (2, .nil), (3, .own 196609), (4, .i a.2.2)], [], [(196609, .live 3 1 (a.2.1.map (eInt .i64)))]⟩) (fun k_laws_toIntS_l2 a => laws_toIntS_l2 u k_laws_toIntS_l2 a.1 a.2.1 a.2.2 = some r) ?_ ?_ u (p0, List.replicate (Int.toNat ((p0.length : Int))) (0 : Int), 0) h (Le.of (mo := []) (mr := [(196609, 458752)]) kr kr kr kr)
  ·intro a h; unfold laws_toIntS_l2 at h; cases h
  ·rintro k_laws_toIntS_l2 ⟨p0, x5, x6⟩ h
   change laws_toIntS_l2 u (k_laws_toIntS_l2 + 1) p0 x5 x6 = some r at h
   rw [laws_toIntS_l2] at h
   refine Wp.seq ?_
   refine Wp.sb 2 ?_
   refine Runs.lenT (y := .t (.sl 1 (p0.map (eInt .i64)))) (e := 3) (eInt .i64) p0 1 rfl rfl rfl kr kr kr kr kr ?_
   refine Runs.allf ⟨[(0, .t (.sl 1 (p0.map (eInt .i64)))), (2, .nil), (3, .own 196609), (4, .i x6), (11, .b (decide (x6 < ((p0.length : Int)))))], [], [(196609, .live 3 1 (x5.map (eInt .i64)))]⟩ ?_
   refine Wp.c2 h (fun h => ?_) (fun h => ?_)
   ·refine Wp.sk ?_
    refine Wp.seq ?_
    refine Wp.block ?_
    refine Wp.rg [] [] ?_
    refine Runs.batch 4 kr ?_
    obtain ⟨y9, e_y9, h⟩ := bind_some h
    refine Runs.idxT (e := 3) (kk := .i64) (sz := 1) (eInt .i64) p0 x6 rfl kr kr kr kr kr kr e_y9 ?_
    refine Runs.batch 1 kr ?_
    obtain ⟨y10, e_y10, h⟩ := bind_some h
    refine Runs.idxO (e := 3) (e' := 3) (kk := .i64) (sz := 1) (eInt .i64) x5 x6 196609 rfl kr kr kr kr kr kr kr e_y10 ?_
    refine Runs.storeT (e := 3) (sz := 1) (m := 1) (eInt .i64) x5 196609 (Int.toNat x6) 0 y9 (.i y9) [.int .i64 y9] rfl kr kr kr kr kr kr kr kr (idx_some e_y10).2 kr kr ?_
    refine Runs.done ?_
    refine blkN ?_
    refine thenN ?_
    refine Wp.rg [] [] ?_
    refine Runs.alln ?_
    exact ⟨(p0, x5.set (Int.toNat x6) y9, bAdd .i64 x6 1), h, Le.of (mo := []) (mr := []) kr kr kr kr⟩
   refine Wp.exit ?_
   refine thenE ?_
   refine thenE ?_
   refine blkE ?_
   refine thenN ?_
   exact ⟨x5, h, Le.of (mo := []) (mr := []) kr kr kr kr⟩
theorem laws_toTree_ok (u : Nat) (p0 : Tree) (r : Tree) (h : laws_toTree u p0 = some r) : CallOK Tryz.prog 39 [.agg [.t (.sl 1 (p0.fUp.map (eInt .i64)))]] (.agg [.ow 3 1 (r.fUp.map (eInt .i64))]) [] := by
 unfold laws_toTree at h
 refine CallOK.of_bodyK (fn := Tryz.f39) (m := true) [.agg [.t (.sl 1 (p0.fUp.map (eInt .i64)))]] kr rfl kr kr kr kr kr ?_
 refine Wp.sag ⟨[(1, .obj 1 0), (2, .obj 2 0)], [(1, [.t (.sl 1 (p0.fUp.map (eInt .i64)))]), (2, [.nil])], []⟩ ?_
 refine Wp.sag ⟨[(1, .obj 1 0), (2, .obj 2 0), (3, .obj 3 0)], [(1, [.t (.sl 1 (p0.fUp.map (eInt .i64)))]), (2, [.nil]), (3, [.nil])], []⟩ ?_
 refine Wp.sb 2 ?_
 obtain ⟨r1, e_r1, h⟩ := bind_some h
 refine Runs.ck 6 [.t (.sl 1 (p0.fUp.map (eInt .i64)))] (laws_toIntS_ok u p0.fUp r1 e_r1) ?_
 refine Runs.allf ⟨[(2, .obj 2 0), (3, .obj 3 0)], [(2, [.nil]), (3, [.own 393216])], [(393216, .live 3 1 (r1.map (eInt .i64)))]⟩ ?_
 refine Wp.sag ⟨[(2, .obj 2 0)], [(2, [.own 393216])], [(393216, .live 3 1 (r1.map (eInt .i64)))]⟩ ?_
 refine Wp.ret ?_
 obtain rfl := oi h
 exact RetK [.agg [.own 393216]] _ [] kr kr (.refl _) .nil
theorem laws_toByteS_ok (u : Nat) (p0 : List Int) (r : (List Int)) (h : laws_toByteS u p0 = some r) : CallOK Tryz.prog 9 [.one (.s p0)] (.one (.ow 5 1 (r.map (eInt .u8)))) [] := by
 unfold laws_toByteS at h
 refine CallOK.of_bodyK (fn := Tryz.f9) (m := true) [.s p0] kr rfl kr kr kr kr kr ?_
 refine Wp.sag ⟨[(0, .s p0), (2, .nil)], [], []⟩ ?_
 refine Wp.sb 1 ?_
 refine Runs.lenT (y := .s p0) (e := 5) (eInt .u8) p0 1 rfl rfl rfl kr kr kr kr kr ?_
 obtain ⟨_, e_1, h⟩ := bind_some h
 obtain ⟨_, e_2, h⟩ := bind_some h
 refine Runs.mkS (eInt .u8) (0 : Int) 7 5 1 1 ((p0.length : Int)) ((p0.length : Int)) rfl rfl kr kr kr kr kr kr (chk_some e_1) (of_decide_eq_true (chk_some e_2)) kr ?_
 refine Runs.allf ⟨[(0, .s p0), (2, .nil), (3, .own 458752)], [], [(458752, .live 5 1 ((List.replicate (Int.toNat ((p0.length : Int))) (0 : Int)).map (eInt .u8)))]⟩ ?_
 refine Wp.seqJ (α := (List Int)) (fun a => ⟨[(2, .nil), (3, .own 196609)], [], [(196609, .live 5 1 (a.map (eInt .u8)))]⟩) (fun a => laws_toByteS_j1 u a = some r) ?_ ?_
 ·rintro x11 h
  change laws_toByteS_j1 u x11 = some r at h
  unfold laws_toByteS_j1 at h
  refine Wp.sag ⟨[(2, .own 196609)], [], [(196609, .live 5 1 (x11.map (eInt .u8)))]⟩ ?_
  refine Wp.ret ?_
  obtain rfl := oi h
  exact RetK [.own 196609] _ [] kr kr (.refl _) .nil
 ·refine Wp.sag ⟨[(0, .s p0), (2, .nil), (3, .own 458752), (4, .i 0)], [], [(458752, .live 5 1 ((List.replicate (Int.toNat ((p0.length : Int))) (0 : Int)).map (eInt .u8)))]⟩ ?_
  refine Wp.block ?_
  refine Wp.loopF (α := (List Int) × (List Int) × Int) (fun a => ⟨[(0, .s a.1), (2, .nil), (3, .own 196609), (4, .i a.2.2)], [], [(196609, .live 5 1 (a.2.1.map (eInt .u8)))]⟩) (fun k_laws_toByteS_l2 a => laws_toByteS_l2 u k_laws_toByteS_l2 a.1 a.2.1 a.2.2 = some r) ?_ ?_ u (p0, List.replicate (Int.toNat ((p0.length : Int))) (0 : Int), 0) h (Le.of (mo := []) (mr := [(196609, 458752)]) kr kr kr kr)
  ·intro a h; unfold laws_toByteS_l2 at h; cases h
  ·rintro k_laws_toByteS_l2 ⟨p0, x5, x6⟩ h
   change laws_toByteS_l2 u (k_laws_toByteS_l2 + 1) p0 x5 x6 = some r at h
   rw [laws_toByteS_l2] at h
   refine Wp.seq ?_
   refine Wp.sb 2 ?_
   refine Runs.lenT (y := .s p0) (e := 5) (eInt .u8) p0 1 rfl rfl rfl kr kr kr kr kr ?_
   refine Runs.allf ⟨[(0, .s p0), (2, .nil), (3, .own 196609), (4, .i x6), (11, .b (decide (x6 < ((p0.length : Int)))))], [], [(196609, .live 5 1 (x5.map (eInt .u8)))]⟩ ?_
   refine Wp.c2 h (fun h => ?_) (fun h => ?_)
   ·refine Wp.sk ?_
    refine Wp.seq ?_
    refine Wp.block ?_
    refine Wp.rg [] [] ?_
    refine Runs.batch 4 kr ?_
    obtain ⟨y9, e_y9, h⟩ := bind_some h
    refine Runs.idxT (e := 5) (kk := .i64) (sz := 1) (eInt .u8) p0 x6 rfl kr kr kr kr kr kr e_y9 ?_
    refine Runs.batch 1 kr ?_
    obtain ⟨y10, e_y10, h⟩ := bind_some h
    refine Runs.idxO (e := 5) (e' := 5) (kk := .i64) (sz := 1) (eInt .u8) x5 x6 196609 rfl kr kr kr kr kr kr kr e_y10 ?_
    refine Runs.storeT (e := 5) (sz := 1) (m := 1) (eInt .u8) x5 196609 (Int.toNat x6) 0 y9 (.t (.int .u8 y9)) [.int .u8 y9] rfl kr kr kr kr kr kr kr kr (idx_some e_y10).2 kr kr ?_
    refine Runs.done ?_
    refine blkN ?_
    refine thenN ?_
    refine Wp.rg [] [] ?_
    refine Runs.alln ?_
    exact ⟨(p0, x5.set (Int.toNat x6) y9, bAdd .i64 x6 1), h, Le.of (mo := []) (mr := []) kr kr kr kr⟩
   refine Wp.exit ?_
   refine thenE ?_
   refine thenE ?_
   refine blkE ?_
   refine thenN ?_
   exact ⟨x5, h, Le.of (mo := []) (mr := []) kr kr kr kr⟩
theorem laws_toImage_ok (u : Nat) (p0 : Image) (r : Image) (h : laws_toImage u p0 = some r) : CallOK Tryz.prog 26 [.agg [.s p0.fB]] (.agg [.ow 5 1 (r.fB.map (eInt .u8))]) [] := by
 unfold laws_toImage at h
 refine CallOK.of_bodyK (fn := Tryz.f26) (m := true) [.agg [.s p0.fB]] kr rfl kr kr kr kr kr ?_
 refine Wp.sag ⟨[(1, .obj 1 0), (2, .obj 2 0)], [(1, [.s p0.fB]), (2, [.nil])], []⟩ ?_
 refine Wp.sag ⟨[(1, .obj 1 0), (2, .obj 2 0), (3, .obj 3 0)], [(1, [.s p0.fB]), (2, [.nil]), (3, [.nil])], []⟩ ?_
 refine Wp.sb 2 ?_
 obtain ⟨r1, e_r1, h⟩ := bind_some h
 refine Runs.ck 6 [.s p0.fB] (laws_toByteS_ok u p0.fB r1 e_r1) ?_
 refine Runs.allf ⟨[(2, .obj 2 0), (3, .obj 3 0)], [(2, [.nil]), (3, [.own 393216])], [(393216, .live 5 1 (r1.map (eInt .u8)))]⟩ ?_
 refine Wp.sag ⟨[(2, .obj 2 0)], [(2, [.own 393216])], [(393216, .live 5 1 (r1.map (eInt .u8)))]⟩ ?_
 refine Wp.ret ?_
 obtain rfl := oi h
 exact RetK [.agg [.own 393216]] _ [] kr kr (.refl _) .nil
theorem laws_toImageS_ok (u : Nat) (p0 : List Image) (r : (List Image)) (h : laws_toImageS u p0 = some r) : CallOK Tryz.prog 10 [.one (.t (.sl 1 (p0.map Image.enc)))] (.one (.ow 61 1 (r.map Image.enc))) [] := by
 unfold laws_toImageS at h
 refine CallOK.of_bodyK (fn := Tryz.f10) (m := true) [.t (.sl 1 (p0.map Image.enc))] kr rfl kr kr kr kr kr ?_
 refine Wp.sag ⟨[(0, .t (.sl 1 (p0.map Image.enc))), (2, .nil)], [], []⟩ ?_
 refine Wp.sb 1 ?_
 refine Runs.lenT (y := .t (.sl 1 (p0.map Image.enc))) (e := 58) Image.enc p0 1 rfl rfl rfl kr kr kr kr kr ?_
 obtain ⟨_, e_1, h⟩ := bind_some h
 obtain ⟨_, e_2, h⟩ := bind_some h
 refine Runs.mkS Image.enc ((Image.mk ([])) : Image) 7 61 1 24 ((p0.length : Int)) ((p0.length : Int)) rfl rfl kr kr kr kr kr kr (chk_some e_1) (of_decide_eq_true (chk_some e_2)) kr ?_
 refine Runs.allf ⟨[(0, .t (.sl 1 (p0.map Image.enc))), (2, .nil), (3, .own 458752)], [], [(458752, .live 61 1 ((List.replicate (Int.toNat ((p0.length : Int))) ((Image.mk ([])) : Image)).map Image.enc))]⟩ ?_
 refine Wp.seqJ (α := (List Image)) (fun a => ⟨[(2, .nil), (3, .own 196609)], [], [(196609, .live 61 1 (a.map Image.enc))]⟩) (fun a => laws_toImageS_j1 u a = some r) ?_ ?_
 ·rintro x12 h
  change laws_toImageS_j1 u x12 = some r at h
  unfold laws_toImageS_j1 at h
  refine Wp.sag ⟨[(2, .own 196609)], [], [(196609, .live 61 1 (x12.map Image.enc))]⟩ ?_
  refine Wp.ret ?_
  obtain rfl := oi h
  exact RetK [.own 196609] _ [] kr kr (.refl _) .nil
 ·refine Wp.sag ⟨[(0, .t (.sl 1 (p0.map Image.enc))), (2, .nil), (3, .own 458752), (4, .i 0)], [], [(458752, .live 61 1 ((List.replicate (Int.toNat ((p0.length : Int))) ((Image.mk ([])) : Image)).map Image.enc))]⟩ ?_
  refine Wp.block ?_
  refine Wp.loopF (α := (List Image) × (List Image) × Int) (fun a => ⟨[(0, .t (.sl 1 (a.1.map Image.enc))), (2, .nil), (3, .own 196609), (4, .i a.2.2)], [], [(196609, .live 61 1 (a.2.1.map Image.enc))]⟩) (fun k_laws_toImageS_l2 a => laws_toImageS_l2 u k_laws_toImageS_l2 a.1 a.2.1 a.2.2 = some r) ?_ ?_ u (p0, List.replicate (Int.toNat ((p0.length : Int))) ((Image.mk ([])) : Image), 0) h (Le.of (mo := []) (mr := [(196609, 458752)]) kr kr kr kr)
  ·intro a h; unfold laws_toImageS_l2 at h; cases h
  ·rintro k_laws_toImageS_l2 ⟨p0, x5, x6⟩ h
   change laws_toImageS_l2 u (k_laws_toImageS_l2 + 1) p0 x5 x6 = some r at h
   rw [laws_toImageS_l2] at h
   refine Wp.seq ?_
   refine Wp.sb 2 ?_
   refine Runs.lenT (y := .t (.sl 1 (p0.map Image.enc))) (e := 58) Image.enc p0 1 rfl rfl rfl kr kr kr kr kr ?_
   refine Runs.allf ⟨[(0, .t (.sl 1 (p0.map Image.enc))), (2, .nil), (3, .own 196609), (4, .i x6), (11, .b (decide (x6 < ((p0.length : Int)))))], [], [(196609, .live 61 1 (x5.map Image.enc))]⟩ ?_
   refine Wp.c2 h (fun h => ?_) (fun h => ?_)
   ·refine Wp.sk ?_
    refine Wp.seq ?_
    refine Wp.block ?_
    refine Wp.rg [] [] ?_
    refine Runs.batch 4 kr ?_
    obtain ⟨y9, e_y9, h⟩ := bind_some h
    refine Runs.idxT (e := 58) (kk := .i64) (sz := 1) Image.enc p0 x6 rfl kr kr kr kr kr kr e_y9 ?_
    refine Runs.batch 1 kr ?_
    obtain ⟨r10, e_r10, h⟩ := bind_some h
    refine Runs.ck 20 [.agg [.s y9.fB]] (laws_toImage_ok u y9 r10 e_r10) ?_
    obtain ⟨y11, e_y11, h⟩ := bind_some h
    refine Runs.idxO (e := 61) (e' := 61) (kk := .i64) (sz := 1) Image.enc x5 x6 196609 rfl kr kr kr kr kr kr kr e_y11 ?_
    refine Runs.storeU (e := 61) (sz := 1) (m := 1) Image.enc x5 196609 (Int.toNat x6) 0 r10 (.agg [.own 1310720]) [.sl 1 (r10.fB.map (eInt .u8))] rfl kr kr kr kr kr kr kr kr (idx_some e_y11).2 kr kr ?_
    refine Runs.done ?_
    refine blkN ?_
    refine thenN ?_
    refine Wp.rg [] [] ?_
    refine Runs.alln ?_
    exact ⟨(p0, x5.set (Int.toNat x6) r10, bAdd .i64 x6 1), h, Le.of (mo := []) (mr := []) kr kr kr kr⟩
   refine Wp.exit ?_
   refine thenE ?_
   refine thenE ?_
   refine blkE ?_
   refine thenN ?_
   exact ⟨x5, h, Le.of (mo := []) (mr := []) kr kr kr kr⟩
theorem laws_toSum_ok (u : Nat) (p0 : Sum) (r : Sum) (h : laws_toSum u p0 = some r) : CallOK Tryz.prog 193 [.agg [.i p0.fW, .i p0.fS]] (.agg [.i r.fW, .i r.fS]) [] := by
 unfold laws_toSum at h
 refine CallOK.of_bodyK (fn := Tryz.f193) (m := false) [.agg [.i p0.fW, .i p0.fS]] kr rfl kr kr kr kr kr ?_
 refine Wp.sag ⟨[(1, .obj 1 0), (2, .obj 2 0)], [(1, [.i p0.fW, .i p0.fS]), (2, [.i 0, .i 0])], []⟩ ?_
 refine Wp.sag ⟨[(1, .obj 1 0), (2, .obj 2 0), (3, .obj 3 0)], [(1, [.i p0.fW, .i p0.fS]), (2, [.i 0, .i 0]), (3, [.i 0, .i 0])], []⟩ ?_
 refine Wp.sag ⟨[(1, .obj 1 0), (2, .obj 2 0), (3, .obj 3 0)], [(1, [.i p0.fW, .i p0.fS]), (2, [.i 0, .i 0]), (3, [.i p0.fW, .i 0])], []⟩ ?_
 refine Wp.sag ⟨[(2, .obj 2 0), (3, .obj 3 0)], [(2, [.i 0, .i 0]), (3, [.i p0.fW, .i p0.fS])], []⟩ ?_
 refine Wp.sag ⟨[(2, .obj 2 0)], [(2, [.i p0.fW, .i p0.fS])], []⟩ ?_
 refine Wp.ret ?_
 obtain rfl := oi h
 exact RetK [.agg [.i p0.fW, .i p0.fS]] _ [] kr kr (.refl _) .nil
theorem laws_toSumS_ok (u : Nat) (p0 : List Sum) (r : (List Sum)) (h : laws_toSumS u p0 = some r) : CallOK Tryz.prog 160 [.one (.t (.sl 2 (p0.map Sum.enc)))] (.one (.ow 189 2 (r.map Sum.enc))) [] := by
 unfold laws_toSumS at h
 refine CallOK.of_bodyK (fn := Tryz.f160) (m := true) [.t (.sl 2 (p0.map Sum.enc))] kr rfl kr kr kr kr kr ?_
 refine Wp.sag ⟨[(0, .t (.sl 2 (p0.map Sum.enc))), (2, .nil)], [], []⟩ ?_
 refine Wp.sb 1 ?_
 refine Runs.lenT (y := .t (.sl 2 (p0.map Sum.enc))) (e := 226) Sum.enc p0 2 rfl rfl rfl kr kr kr kr kr ?_
 obtain ⟨_, e_1, h⟩ := bind_some h
 obtain ⟨_, e_2, h⟩ := bind_some h
 refine Runs.mkS Sum.enc ((Sum.mk 0 0) : Sum) 7 189 2 16 ((p0.length : Int)) ((p0.length : Int)) rfl rfl kr kr kr kr kr kr (chk_some e_1) (of_decide_eq_true (chk_some e_2)) kr ?_
 refine Runs.allf ⟨[(0, .t (.sl 2 (p0.map Sum.enc))), (2, .nil), (3, .own 458752)], [], [(458752, .live 189 2 ((List.replicate (Int.toNat ((p0.length : Int))) ((Sum.mk 0 0) : Sum)).map Sum.enc))]⟩ ?_
 refine Wp.seqJ (α := (List Sum)) (fun a => ⟨[(2, .nil), (3, .own 196609)], [], [(196609, .live 189 2 (a.map Sum.enc))]⟩) (fun a => laws_toSumS_j1 u a = some r) ?_ ?_
 ·rintro x12 h
  change laws_toSumS_j1 u x12 = some r at h
  unfold laws_toSumS_j1 at h
  refine Wp.sag ⟨[(2, .own 196609)], [], [(196609, .live 189 2 (x12.map Sum.enc))]⟩ ?_
  refine Wp.ret ?_
  obtain rfl := oi h
  exact RetK [.own 196609] _ [] kr kr (.refl _) .nil
 ·refine Wp.sag ⟨[(0, .t (.sl 2 (p0.map Sum.enc))), (2, .nil), (3, .own 458752), (4, .i 0)], [], [(458752, .live 189 2 ((List.replicate (Int.toNat ((p0.length : Int))) ((Sum.mk 0 0) : Sum)).map Sum.enc))]⟩ ?_
  refine Wp.block ?_
  refine Wp.loopF (α := (List Sum) × (List Sum) × Int) (fun a => ⟨[(0, .t (.sl 2 (a.1.map Sum.enc))), (2, .nil), (3, .own 196609), (4, .i a.2.2)], [], [(196609, .live 189 2 (a.2.1.map Sum.enc))]⟩) (fun k_laws_toSumS_l2 a => laws_toSumS_l2 u k_laws_toSumS_l2 a.1 a.2.1 a.2.2 = some r) ?_ ?_ u (p0, List.replicate (Int.toNat ((p0.length : Int))) ((Sum.mk 0 0) : Sum), 0) h (Le.of (mo := []) (mr := [(196609, 458752)]) kr kr kr kr)
  ·intro a h; unfold laws_toSumS_l2 at h; cases h
  ·rintro k_laws_toSumS_l2 ⟨p0, x5, x6⟩ h
   change laws_toSumS_l2 u (k_laws_toSumS_l2 + 1) p0 x5 x6 = some r at h
   rw [laws_toSumS_l2] at h
   refine Wp.seq ?_
   refine Wp.sb 2 ?_
   refine Runs.lenT (y := .t (.sl 2 (p0.map Sum.enc))) (e := 226) Sum.enc p0 2 rfl rfl rfl kr kr kr kr kr ?_
   refine Runs.allf ⟨[(0, .t (.sl 2 (p0.map Sum.enc))), (2, .nil), (3, .own 196609), (4, .i x6), (11, .b (decide (x6 < ((p0.length : Int)))))], [], [(196609, .live 189 2 (x5.map Sum.enc))]⟩ ?_
   refine Wp.c2 h (fun h => ?_) (fun h => ?_)
   ·refine Wp.sk ?_
    refine Wp.seq ?_
    refine Wp.block ?_
    refine Wp.rg [] [] ?_
    refine Runs.batch 4 kr ?_
    obtain ⟨y9, e_y9, h⟩ := bind_some h
    refine Runs.idxT (e := 226) (kk := .i64) (sz := 2) Sum.enc p0 x6 rfl kr kr kr kr kr kr e_y9 ?_
    refine Runs.batch 1 kr ?_
    obtain ⟨r10, e_r10, h⟩ := bind_some h
    refine Runs.ck 20 [.agg [.i y9.fW, .i y9.fS]] (laws_toSum_ok u y9 r10 e_r10) ?_
    obtain ⟨y11, e_y11, h⟩ := bind_some h
    refine Runs.idxO (e := 189) (e' := 189) (kk := .i64) (sz := 2) Sum.enc x5 x6 196609 rfl kr kr kr kr kr kr kr e_y11 ?_
    refine Runs.storeT (e := 189) (sz := 2) (m := 2) Sum.enc x5 196609 (Int.toNat x6) 0 r10 (.agg [.i r10.fW, .i r10.fS]) [.int .i64 r10.fW, .int .i64 r10.fS] rfl kr kr kr kr kr kr kr kr (idx_some e_y11).2 kr kr ?_
    refine Runs.done ?_
    refine blkN ?_
    refine thenN ?_
    refine Wp.rg [] [] ?_
    refine Runs.alln ?_
    exact ⟨(p0, x5.set (Int.toNat x6) r10, bAdd .i64 x6 1), h, Le.of (mo := []) (mr := []) kr kr kr kr⟩
   refine Wp.exit ?_
   refine thenE ?_
   refine thenE ?_
   refine blkE ?_
   refine thenN ?_
   exact ⟨x5, h, Le.of (mo := []) (mr := []) kr kr kr kr⟩
theorem laws_toManifest_ok (u : Nat) (p0 : Manifest) (r : Manifest) (h : laws_toManifest u p0 = some r) : CallOK Tryz.prog 111 [.agg [.i p0.fGen, .i p0.fSize, .i p0.fLen, .t (.sl 2 (p0.fSums.map Sum.enc))]] (.agg [.i r.fGen, .i r.fSize, .i r.fLen, .ow 189 2 (r.fSums.map Sum.enc)]) [] := by
 unfold laws_toManifest at h
 refine CallOK.of_bodyK (fn := Tryz.f111) (m := true) [.agg ((Manifest.enc p0).map .t)] kr rfl kr kr kr kr kr ?_
 refine Wp.sag ⟨[(1, .obj 1 0), (2, .obj 2 0)], [(1, ((Manifest.enc p0).map .t)), (2, [.i 0, .i 0, .i 0, .nil])], []⟩ ?_
 refine Wp.sag ⟨[(1, .obj 1 0), (2, .obj 2 0), (3, .obj 3 0)], [(1, ((Manifest.enc p0).map .t)), (2, [.i 0, .i 0, .i 0, .nil]), (3, [.i 0, .i 0, .i 0, .nil])], []⟩ ?_
 refine Wp.sag ⟨[(1, .obj 1 0), (2, .obj 2 0), (3, .obj 3 0)], [(1, ((Manifest.enc p0).map .t)), (2, [.i 0, .i 0, .i 0, .nil]), (3, [.i p0.fGen, .i 0, .i 0, .nil])], []⟩ ?_
 refine Wp.sag ⟨[(1, .obj 1 0), (2, .obj 2 0), (3, .obj 3 0)], [(1, ((Manifest.enc p0).map .t)), (2, [.i 0, .i 0, .i 0, .nil]), (3, [.i p0.fGen, .i p0.fSize, .i 0, .nil])], []⟩ ?_
 refine Wp.sag ⟨[(1, .obj 1 0), (2, .obj 2 0), (3, .obj 3 0)], [(1, ((Manifest.enc p0).map .t)), (2, [.i 0, .i 0, .i 0, .nil]), (3, [.i p0.fGen, .i p0.fSize, .i p0.fLen, .nil])], []⟩ ?_
 refine Wp.sb 2 ?_
 obtain ⟨r1, e_r1, h⟩ := bind_some h
 refine Runs.ck 15 [.t (.sl 2 (p0.fSums.map Sum.enc))] (laws_toSumS_ok u p0.fSums r1 e_r1) ?_
 refine Runs.allf ⟨[(2, .obj 2 0), (3, .obj 3 0)], [(2, [.i 0, .i 0, .i 0, .nil]), (3, [.i p0.fGen, .i p0.fSize, .i p0.fLen, .own 983040])], [(983040, .live 189 2 (r1.map Sum.enc))]⟩ ?_
 refine Wp.sag ⟨[(2, .obj 2 0)], [(2, [.i p0.fGen, .i p0.fSize, .i p0.fLen, .own 983040])], [(983040, .live 189 2 (r1.map Sum.enc))]⟩ ?_
 refine Wp.ret ?_
 obtain rfl := oi h
 exact RetK [.agg [.i p0.fGen, .i p0.fSize, .i p0.fLen, .own 983040]] _ [] kr kr (.refl _) .nil
theorem laws_toBuild_ok (u : Nat) (p0 : Build) (r : Build) (h : laws_toBuild u p0 = some r) : CallOK Tryz.prog 112 [.agg [.i p0.fHave, .s p0.fBuf]] (.agg [.i r.fHave, .ow 5 1 (r.fBuf.map (eInt .u8))]) [] := by
 unfold laws_toBuild at h
 refine CallOK.of_bodyK (fn := Tryz.f112) (m := true) [.agg [.i p0.fHave, .s p0.fBuf]] kr rfl kr kr kr kr kr ?_
 refine Wp.sag ⟨[(1, .obj 1 0), (2, .obj 2 0)], [(1, [.i p0.fHave, .s p0.fBuf]), (2, [.i 0, .nil])], []⟩ ?_
 refine Wp.sag ⟨[(1, .obj 1 0), (2, .obj 2 0), (3, .obj 3 0)], [(1, [.i p0.fHave, .s p0.fBuf]), (2, [.i 0, .nil]), (3, [.i 0, .nil])], []⟩ ?_
 refine Wp.sag ⟨[(1, .obj 1 0), (2, .obj 2 0), (3, .obj 3 0)], [(1, [.i p0.fHave, .s p0.fBuf]), (2, [.i 0, .nil]), (3, [.i p0.fHave, .nil])], []⟩ ?_
 refine Wp.sb 2 ?_
 obtain ⟨r1, e_r1, h⟩ := bind_some h
 refine Runs.ck 9 [.s p0.fBuf] (laws_toByteS_ok u p0.fBuf r1 e_r1) ?_
 refine Runs.allf ⟨[(2, .obj 2 0), (3, .obj 3 0)], [(2, [.i 0, .nil]), (3, [.i p0.fHave, .own 589824])], [(589824, .live 5 1 (r1.map (eInt .u8)))]⟩ ?_
 refine Wp.sag ⟨[(2, .obj 2 0)], [(2, [.i p0.fHave, .own 589824])], [(589824, .live 5 1 (r1.map (eInt .u8)))]⟩ ?_
 refine Wp.ret ?_
 obtain rfl := oi h
 exact RetK [.agg [.i p0.fHave, .own 589824]] _ [] kr kr (.refl _) .nil
theorem laws_toKid_ok (u : Nat) (p0 : Kid) (r : Kid) (h : laws_toKid u p0 = some r) : CallOK Tryz.prog 161 [.agg [.i p0.fId, .i p0.fWant, .i p0.fDone, .i p0.fAge, .i p0.fSent]] (.agg [.i r.fId, .i r.fWant, .i r.fDone, .i r.fAge, .i r.fSent]) [] := by
 unfold laws_toKid at h
 refine CallOK.of_bodyK (fn := Tryz.f161) (m := false) [.agg ((Kid.enc p0).map .t)] kr rfl kr kr kr kr kr ?_
 refine Wp.sag ⟨[(1, .obj 1 0), (2, .obj 2 0)], [(1, ((Kid.enc p0).map .t)), (2, [.i 0, .i 0, .i 0, .i 0, .i 0])], []⟩ ?_
 refine Wp.sag ⟨[(1, .obj 1 0), (2, .obj 2 0), (3, .obj 3 0)], [(1, ((Kid.enc p0).map .t)), (2, [.i 0, .i 0, .i 0, .i 0, .i 0]), (3, [.i 0, .i 0, .i 0, .i 0, .i 0])], []⟩ ?_
 refine Wp.sag ⟨[(1, .obj 1 0), (2, .obj 2 0), (3, .obj 3 0)], [(1, ((Kid.enc p0).map .t)), (2, [.i 0, .i 0, .i 0, .i 0, .i 0]), (3, [.i p0.fId, .i 0, .i 0, .i 0, .i 0])], []⟩ ?_
 refine Wp.sag ⟨[(1, .obj 1 0), (2, .obj 2 0), (3, .obj 3 0)], [(1, ((Kid.enc p0).map .t)), (2, [.i 0, .i 0, .i 0, .i 0, .i 0]), (3, [.i p0.fId, .i p0.fWant, .i 0, .i 0, .i 0])], []⟩ ?_
 refine Wp.sag ⟨[(1, .obj 1 0), (2, .obj 2 0), (3, .obj 3 0)], [(1, ((Kid.enc p0).map .t)), (2, [.i 0, .i 0, .i 0, .i 0, .i 0]), (3, [.i p0.fId, .i p0.fWant, .i p0.fDone, .i 0, .i 0])], []⟩ ?_
 refine Wp.sag ⟨[(1, .obj 1 0), (2, .obj 2 0), (3, .obj 3 0)], [(1, ((Kid.enc p0).map .t)), (2, [.i 0, .i 0, .i 0, .i 0, .i 0]), (3, [.i p0.fId, .i p0.fWant, .i p0.fDone, .i p0.fAge, .i 0])], []⟩ ?_
 refine Wp.sag ⟨[(2, .obj 2 0), (3, .obj 3 0)], [(2, [.i 0, .i 0, .i 0, .i 0, .i 0]), (3, ((Kid.enc p0).map .t))], []⟩ ?_
 refine Wp.sag ⟨[(2, .obj 2 0)], [(2, ((Kid.enc p0).map .t))], []⟩ ?_
 refine Wp.ret ?_
 obtain rfl := oi h
 exact RetK [.agg ((Kid.enc p0).map .t)] _ [] kr kr (.refl _) .nil
theorem laws_toKidS_ok (u : Nat) (p0 : List Kid) (r : (List Kid)) (h : laws_toKidS u p0 = some r) : CallOK Tryz.prog 113 [.one (.t (.sl 5 (p0.map Kid.enc)))] (.one (.ow 200 5 (r.map Kid.enc))) [] := by
 unfold laws_toKidS at h
 refine CallOK.of_bodyK (fn := Tryz.f113) (m := true) [.t (.sl 5 (p0.map Kid.enc))] kr rfl kr kr kr kr kr ?_
 refine Wp.sag ⟨[(0, .t (.sl 5 (p0.map Kid.enc))), (2, .nil)], [], []⟩ ?_
 refine Wp.sb 1 ?_
 refine Runs.lenT (y := .t (.sl 5 (p0.map Kid.enc))) (e := 202) Kid.enc p0 5 rfl rfl rfl kr kr kr kr kr ?_
 obtain ⟨_, e_1, h⟩ := bind_some h
 obtain ⟨_, e_2, h⟩ := bind_some h
 refine Runs.mkS Kid.enc ((Kid.mk 0 0 0 0 0) : Kid) 7 200 5 40 ((p0.length : Int)) ((p0.length : Int)) rfl rfl kr kr kr kr kr kr (chk_some e_1) (of_decide_eq_true (chk_some e_2)) kr ?_
 refine Runs.allf ⟨[(0, .t (.sl 5 (p0.map Kid.enc))), (2, .nil), (3, .own 458752)], [], [(458752, .live 200 5 ((List.replicate (Int.toNat ((p0.length : Int))) ((Kid.mk 0 0 0 0 0) : Kid)).map Kid.enc))]⟩ ?_
 refine Wp.seqJ (α := (List Kid)) (fun a => ⟨[(2, .nil), (3, .own 196609)], [], [(196609, .live 200 5 (a.map Kid.enc))]⟩) (fun a => laws_toKidS_j1 u a = some r) ?_ ?_
 ·rintro x12 h
  change laws_toKidS_j1 u x12 = some r at h
  unfold laws_toKidS_j1 at h
  refine Wp.sag ⟨[(2, .own 196609)], [], [(196609, .live 200 5 (x12.map Kid.enc))]⟩ ?_
  refine Wp.ret ?_
  obtain rfl := oi h
  exact RetK [.own 196609] _ [] kr kr (.refl _) .nil
 ·refine Wp.sag ⟨[(0, .t (.sl 5 (p0.map Kid.enc))), (2, .nil), (3, .own 458752), (4, .i 0)], [], [(458752, .live 200 5 ((List.replicate (Int.toNat ((p0.length : Int))) ((Kid.mk 0 0 0 0 0) : Kid)).map Kid.enc))]⟩ ?_
  refine Wp.block ?_
  refine Wp.loopF (α := (List Kid) × (List Kid) × Int) (fun a => ⟨[(0, .t (.sl 5 (a.1.map Kid.enc))), (2, .nil), (3, .own 196609), (4, .i a.2.2)], [], [(196609, .live 200 5 (a.2.1.map Kid.enc))]⟩) (fun k_laws_toKidS_l2 a => laws_toKidS_l2 u k_laws_toKidS_l2 a.1 a.2.1 a.2.2 = some r) ?_ ?_ u (p0, List.replicate (Int.toNat ((p0.length : Int))) ((Kid.mk 0 0 0 0 0) : Kid), 0) h (Le.of (mo := []) (mr := [(196609, 458752)]) kr kr kr kr)
  ·intro a h; unfold laws_toKidS_l2 at h; cases h
  ·rintro k_laws_toKidS_l2 ⟨p0, x5, x6⟩ h
   change laws_toKidS_l2 u (k_laws_toKidS_l2 + 1) p0 x5 x6 = some r at h
   rw [laws_toKidS_l2] at h
   refine Wp.seq ?_
   refine Wp.sb 2 ?_
   refine Runs.lenT (y := .t (.sl 5 (p0.map Kid.enc))) (e := 202) Kid.enc p0 5 rfl rfl rfl kr kr kr kr kr ?_
   refine Runs.allf ⟨[(0, .t (.sl 5 (p0.map Kid.enc))), (2, .nil), (3, .own 196609), (4, .i x6), (11, .b (decide (x6 < ((p0.length : Int)))))], [], [(196609, .live 200 5 (x5.map Kid.enc))]⟩ ?_
   refine Wp.c2 h (fun h => ?_) (fun h => ?_)
   ·refine Wp.sk ?_
    refine Wp.seq ?_
    refine Wp.block ?_
    refine Wp.rg [] [] ?_
    refine Runs.batch 4 kr ?_
    obtain ⟨y9, e_y9, h⟩ := bind_some h
    refine Runs.idxT (e := 202) (kk := .i64) (sz := 5) Kid.enc p0 x6 rfl kr kr kr kr kr kr e_y9 ?_
    refine Runs.batch 1 kr ?_
    obtain ⟨r10, e_r10, h⟩ := bind_some h
    refine Runs.ck 20 [.agg ((Kid.enc y9).map .t)] (laws_toKid_ok u y9 r10 e_r10) ?_
    obtain ⟨y11, e_y11, h⟩ := bind_some h
    refine Runs.idxO (e := 200) (e' := 200) (kk := .i64) (sz := 5) Kid.enc x5 x6 196609 rfl kr kr kr kr kr kr kr e_y11 ?_
    refine Runs.storeT (e := 200) (sz := 5) (m := 5) Kid.enc x5 196609 (Int.toNat x6) 0 r10 (.agg ((Kid.enc r10).map .t)) (Kid.enc r10) rfl kr kr kr kr kr kr kr kr (idx_some e_y11).2 kr kr ?_
    refine Runs.done ?_
    refine blkN ?_
    refine thenN ?_
    refine Wp.rg [] [] ?_
    refine Runs.alln ?_
    exact ⟨(p0, x5.set (Int.toNat x6) r10, bAdd .i64 x6 1), h, Le.of (mo := []) (mr := []) kr kr kr kr⟩
   refine Wp.exit ?_
   refine thenE ?_
   refine thenE ?_
   refine blkE ?_
   refine thenN ?_
   exact ⟨x5, h, Le.of (mo := []) (mr := []) kr kr kr kr⟩
theorem laws_toNode_ok (u : Nat) (p0 : Node) (r : Node) (h : laws_toNode u p0 = some r) : CallOK Tryz.prog 72 [.agg [.b p0.fOn, .i p0.fBoss, .i p0.fQuiet, .i p0.fMan.fGen, .i p0.fMan.fSize, .i p0.fMan.fLen, .t (.sl 2 (p0.fMan.fSums.map Sum.enc)), .i p0.fBld.fHave, .s p0.fBld.fBuf, .i p0.fPhase, .t (.sl 5 (p0.fKids.map Kid.enc)), .i p0.fDrops]] (.agg [.b r.fOn, .i r.fBoss, .i r.fQuiet, .i r.fMan.fGen, .i r.fMan.fSize, .i r.fMan.fLen, .ow 189 2 (r.fMan.fSums.map Sum.enc), .i r.fBld.fHave, .ow 5 1 (r.fBld.fBuf.map (eInt .u8)), .i r.fPhase, .ow 200 5 (r.fKids.map Kid.enc), .i r.fDrops]) [] := by
 unfold laws_toNode at h
 refine CallOK.of_bodyK (fn := Tryz.f72) (m := true) [.agg ((Node.enc p0).map .t)] kr rfl kr kr kr kr kr ?_
 refine Wp.sag ⟨[(1, .obj 1 0), (2, .obj 2 0)], [(1, ((Node.enc p0).map .t)), (2, [.b false, .i 0, .i 0, .i 0, .i 0, .i 0, .nil, .i 0, .nil, .i 0, .nil, .i 0])], []⟩ ?_
 refine Wp.sag ⟨[(1, .obj 1 0), (2, .obj 2 0), (3, .obj 3 0)], [(1, ((Node.enc p0).map .t)), (2, [.b false, .i 0, .i 0, .i 0, .i 0, .i 0, .nil, .i 0, .nil, .i 0, .nil, .i 0]), (3, [.b false, .i 0, .i 0, .i 0, .i 0, .i 0, .nil, .i 0, .nil, .i 0, .nil, .i 0])], []⟩ ?_
 refine Wp.sag ⟨[(1, .obj 1 0), (2, .obj 2 0), (3, .obj 3 0)], [(1, ((Node.enc p0).map .t)), (2, [.b false, .i 0, .i 0, .i 0, .i 0, .i 0, .nil, .i 0, .nil, .i 0, .nil, .i 0]), (3, [.b p0.fOn, .i 0, .i 0, .i 0, .i 0, .i 0, .nil, .i 0, .nil, .i 0, .nil, .i 0])], []⟩ ?_
 refine Wp.sag ⟨[(1, .obj 1 0), (2, .obj 2 0), (3, .obj 3 0)], [(1, ((Node.enc p0).map .t)), (2, [.b false, .i 0, .i 0, .i 0, .i 0, .i 0, .nil, .i 0, .nil, .i 0, .nil, .i 0]), (3, [.b p0.fOn, .i p0.fBoss, .i 0, .i 0, .i 0, .i 0, .nil, .i 0, .nil, .i 0, .nil, .i 0])], []⟩ ?_
 refine Wp.sag ⟨[(1, .obj 1 0), (2, .obj 2 0), (3, .obj 3 0)], [(1, ((Node.enc p0).map .t)), (2, [.b false, .i 0, .i 0, .i 0, .i 0, .i 0, .nil, .i 0, .nil, .i 0, .nil, .i 0]), (3, [.b p0.fOn, .i p0.fBoss, .i p0.fQuiet, .i 0, .i 0, .i 0, .nil, .i 0, .nil, .i 0, .nil, .i 0])], []⟩ ?_
 refine Wp.sb 2 ?_
 obtain ⟨r1, e_r1, h⟩ := bind_some h
 refine Runs.ck 15 [.agg ((Manifest.enc p0.fMan).map .t)] (laws_toManifest_ok u p0.fMan r1 e_r1) ?_
 refine Runs.allf ⟨[(1, .obj 1 0), (2, .obj 2 0), (3, .obj 3 0)], [(1, ((Node.enc p0).map .t)), (2, [.b false, .i 0, .i 0, .i 0, .i 0, .i 0, .nil, .i 0, .nil, .i 0, .nil, .i 0]), (3, [.b p0.fOn, .i p0.fBoss, .i p0.fQuiet, .i r1.fGen, .i r1.fSize, .i r1.fLen, .own 983043, .i 0, .nil, .i 0, .nil, .i 0])], [(983043, .live 189 2 (r1.fSums.map Sum.enc))]⟩ ?_
 refine Wp.sb 2 ?_
 obtain ⟨r2, e_r2, h⟩ := bind_some h
 refine Runs.ck 19 [.agg [.i p0.fBld.fHave, .s p0.fBld.fBuf]] (laws_toBuild_ok u p0.fBld r2 e_r2) ?_
 refine Runs.allf ⟨[(1, .obj 1 0), (2, .obj 2 0), (3, .obj 3 0)], [(1, ((Node.enc p0).map .t)), (2, [.b false, .i 0, .i 0, .i 0, .i 0, .i 0, .nil, .i 0, .nil, .i 0, .nil, .i 0]), (3, [.b p0.fOn, .i p0.fBoss, .i p0.fQuiet, .i r1.fGen, .i r1.fSize, .i r1.fLen, .own 983043, .i r2.fHave, .own 1245185, .i 0, .nil, .i 0])], [(983043, .live 189 2 (r1.fSums.map Sum.enc)), (1245185, .live 5 1 (r2.fBuf.map (eInt .u8)))]⟩ ?_
 refine Wp.sag ⟨[(1, .obj 1 0), (2, .obj 2 0), (3, .obj 3 0)], [(1, ((Node.enc p0).map .t)), (2, [.b false, .i 0, .i 0, .i 0, .i 0, .i 0, .nil, .i 0, .nil, .i 0, .nil, .i 0]), (3, [.b p0.fOn, .i p0.fBoss, .i p0.fQuiet, .i r1.fGen, .i r1.fSize, .i r1.fLen, .own 983043, .i r2.fHave, .own 1245185, .i p0.fPhase, .nil, .i 0])], [(983043, .live 189 2 (r1.fSums.map Sum.enc)), (1245185, .live 5 1 (r2.fBuf.map (eInt .u8)))]⟩ ?_
 refine Wp.sb 2 ?_
 obtain ⟨r3, e_r3, h⟩ := bind_some h
 refine Runs.ck 26 [.t (.sl 5 (p0.fKids.map Kid.enc))] (laws_toKidS_ok u p0.fKids r3 e_r3) ?_
 refine Runs.allf ⟨[(1, .obj 1 0), (2, .obj 2 0), (3, .obj 3 0)], [(1, ((Node.enc p0).map .t)), (2, [.b false, .i 0, .i 0, .i 0, .i 0, .i 0, .nil, .i 0, .nil, .i 0, .nil, .i 0]), (3, [.b p0.fOn, .i p0.fBoss, .i p0.fQuiet, .i r1.fGen, .i r1.fSize, .i r1.fLen, .own 983043, .i r2.fHave, .own 1245185, .i p0.fPhase, .own 1703936, .i 0])], [(983043, .live 189 2 (r1.fSums.map Sum.enc)), (1245185, .live 5 1 (r2.fBuf.map (eInt .u8))), (1703936, .live 200 5 (r3.map Kid.enc))]⟩ ?_
 refine Wp.sag ⟨[(2, .obj 2 0), (3, .obj 3 0)], [(2, [.b false, .i 0, .i 0, .i 0, .i 0, .i 0, .nil, .i 0, .nil, .i 0, .nil, .i 0]), (3, [.b p0.fOn, .i p0.fBoss, .i p0.fQuiet, .i r1.fGen, .i r1.fSize, .i r1.fLen, .own 983043, .i r2.fHave, .own 1245185, .i p0.fPhase, .own 1703936, .i p0.fDrops])], [(983043, .live 189 2 (r1.fSums.map Sum.enc)), (1245185, .live 5 1 (r2.fBuf.map (eInt .u8))), (1703936, .live 200 5 (r3.map Kid.enc))]⟩ ?_
 refine Wp.sag ⟨[(2, .obj 2 0)], [(2, [.b p0.fOn, .i p0.fBoss, .i p0.fQuiet, .i r1.fGen, .i r1.fSize, .i r1.fLen, .own 983043, .i r2.fHave, .own 1245185, .i p0.fPhase, .own 1703936, .i p0.fDrops])], [(983043, .live 189 2 (r1.fSums.map Sum.enc)), (1245185, .live 5 1 (r2.fBuf.map (eInt .u8))), (1703936, .live 200 5 (r3.map Kid.enc))]⟩ ?_
 refine Wp.ret ?_
 obtain rfl := oi h
 exact RetK [.agg [.b p0.fOn, .i p0.fBoss, .i p0.fQuiet, .i r1.fGen, .i r1.fSize, .i r1.fLen, .own 983043, .i r2.fHave, .own 1245185, .i p0.fPhase, .own 1703936, .i p0.fDrops]] _ [] kr kr (.refl _) .nil
theorem laws_toNodeS_ok (u : Nat) (p0 : List Node) (r : (List Node)) (h : laws_toNodeS u p0 = some r) : CallOK Tryz.prog 40 [.one (.t (.sl 12 (p0.map Node.enc)))] (.one (.ow 92 12 (r.map Node.enc))) [] := by
 unfold laws_toNodeS at h
 refine CallOK.of_bodyK (fn := Tryz.f40) (m := true) [.t (.sl 12 (p0.map Node.enc))] kr rfl kr kr kr kr kr ?_
 refine Wp.sag ⟨[(0, .t (.sl 12 (p0.map Node.enc))), (2, .nil)], [], []⟩ ?_
 refine Wp.sb 1 ?_
 refine Runs.lenT (y := .t (.sl 12 (p0.map Node.enc))) (e := 110) Node.enc p0 12 rfl rfl rfl kr kr kr kr kr ?_
 obtain ⟨_, e_1, h⟩ := bind_some h
 obtain ⟨_, e_2, h⟩ := bind_some h
 refine Runs.mkS Node.enc ((Node.mk false 0 0 ((Manifest.mk 0 0 0 ([]))) ((Build.mk 0 ([]))) 0 ([]) 0) : Node) 7 92 12 144 ((p0.length : Int)) ((p0.length : Int)) rfl rfl kr kr kr kr kr kr (chk_some e_1) (of_decide_eq_true (chk_some e_2)) kr ?_
 refine Runs.allf ⟨[(0, .t (.sl 12 (p0.map Node.enc))), (2, .nil), (3, .own 458752)], [], [(458752, .live 92 12 ((List.replicate (Int.toNat ((p0.length : Int))) ((Node.mk false 0 0 ((Manifest.mk 0 0 0 ([]))) ((Build.mk 0 ([]))) 0 ([]) 0) : Node)).map Node.enc))]⟩ ?_
 refine Wp.seqJ (α := (List Node)) (fun a => ⟨[(2, .nil), (3, .own 196609)], [], [(196609, .live 92 12 (a.map Node.enc))]⟩) (fun a => laws_toNodeS_j1 u a = some r) ?_ ?_
 ·rintro x12 h
  change laws_toNodeS_j1 u x12 = some r at h
  unfold laws_toNodeS_j1 at h
  refine Wp.sag ⟨[(2, .own 196609)], [], [(196609, .live 92 12 (x12.map Node.enc))]⟩ ?_
  refine Wp.ret ?_
  obtain rfl := oi h
  exact RetK [.own 196609] _ [] kr kr (.refl _) .nil
 ·refine Wp.sag ⟨[(0, .t (.sl 12 (p0.map Node.enc))), (2, .nil), (3, .own 458752), (4, .i 0)], [], [(458752, .live 92 12 ((List.replicate (Int.toNat ((p0.length : Int))) ((Node.mk false 0 0 ((Manifest.mk 0 0 0 ([]))) ((Build.mk 0 ([]))) 0 ([]) 0) : Node)).map Node.enc))]⟩ ?_
  refine Wp.block ?_
  refine Wp.loopF (α := (List Node) × (List Node) × Int) (fun a => ⟨[(0, .t (.sl 12 (a.1.map Node.enc))), (2, .nil), (3, .own 196609), (4, .i a.2.2)], [], [(196609, .live 92 12 (a.2.1.map Node.enc))]⟩) (fun k_laws_toNodeS_l2 a => laws_toNodeS_l2 u k_laws_toNodeS_l2 a.1 a.2.1 a.2.2 = some r) ?_ ?_ u (p0, List.replicate (Int.toNat ((p0.length : Int))) ((Node.mk false 0 0 ((Manifest.mk 0 0 0 ([]))) ((Build.mk 0 ([]))) 0 ([]) 0) : Node), 0) h (Le.of (mo := []) (mr := [(196609, 458752)]) kr kr kr kr)
  ·intro a h; unfold laws_toNodeS_l2 at h; cases h
  ·rintro k_laws_toNodeS_l2 ⟨p0, x5, x6⟩ h
   change laws_toNodeS_l2 u (k_laws_toNodeS_l2 + 1) p0 x5 x6 = some r at h
   rw [laws_toNodeS_l2] at h
   refine Wp.seq ?_
   refine Wp.sb 2 ?_
   refine Runs.lenT (y := .t (.sl 12 (p0.map Node.enc))) (e := 110) Node.enc p0 12 rfl rfl rfl kr kr kr kr kr ?_
   refine Runs.allf ⟨[(0, .t (.sl 12 (p0.map Node.enc))), (2, .nil), (3, .own 196609), (4, .i x6), (11, .b (decide (x6 < ((p0.length : Int)))))], [], [(196609, .live 92 12 (x5.map Node.enc))]⟩ ?_
   refine Wp.c2 h (fun h => ?_) (fun h => ?_)
   ·refine Wp.sk ?_
    refine Wp.seq ?_
    refine Wp.block ?_
    refine Wp.rg [] [] ?_
    refine Runs.batch 4 kr ?_
    obtain ⟨y9, e_y9, h⟩ := bind_some h
    refine Runs.idxT (e := 110) (kk := .i64) (sz := 12) Node.enc p0 x6 rfl kr kr kr kr kr kr e_y9 ?_
    refine Runs.batch 1 kr ?_
    obtain ⟨r10, e_r10, h⟩ := bind_some h
    refine Runs.ck 20 [.agg ((Node.enc y9).map .t)] (laws_toNode_ok u y9 r10 e_r10) ?_
    obtain ⟨y11, e_y11, h⟩ := bind_some h
    refine Runs.idxO (e := 92) (e' := 92) (kk := .i64) (sz := 12) Node.enc x5 x6 196609 rfl kr kr kr kr kr kr kr e_y11 ?_
    refine Runs.storeU (e := 92) (sz := 12) (m := 12) Node.enc x5 196609 (Int.toNat x6) 0 r10 (.agg [.b r10.fOn, .i r10.fBoss, .i r10.fQuiet, .i r10.fMan.fGen, .i r10.fMan.fSize, .i r10.fMan.fLen, .own 1310726, .i r10.fBld.fHave, .own 1310728, .i r10.fPhase, .own 1310730, .i r10.fDrops]) (Node.enc r10) rfl kr kr kr kr kr kr kr kr (idx_some e_y11).2 kr kr ?_
    refine Runs.done ?_
    refine blkN ?_
    refine thenN ?_
    refine Wp.rg [] [] ?_
    refine Runs.alln ?_
    exact ⟨(p0, x5.set (Int.toNat x6) r10, bAdd .i64 x6 1), h, Le.of (mo := []) (mr := []) kr kr kr kr⟩
   refine Wp.exit ?_
   refine thenE ?_
   refine thenE ?_
   refine blkE ?_
   refine thenN ?_
   exact ⟨x5, h, Le.of (mo := []) (mr := []) kr kr kr kr⟩
theorem laws_toRecord_ok (u : Nat) (p0 : Record) (r : Record) (h : laws_toRecord u p0 = some r) : CallOK Tryz.prog 114 [.agg [.i p0.fGen, .i p0.fSlot, .i p0.fLen]] (.agg [.i r.fGen, .i r.fSlot, .i r.fLen]) [] := by
 unfold laws_toRecord at h
 refine CallOK.of_bodyK (fn := Tryz.f114) (m := false) [.agg ((Record.enc p0).map .t)] kr rfl kr kr kr kr kr ?_
 refine Wp.sag ⟨[(1, .obj 1 0), (2, .obj 2 0)], [(1, ((Record.enc p0).map .t)), (2, [.i 0, .i 0, .i 0])], []⟩ ?_
 refine Wp.sag ⟨[(1, .obj 1 0), (2, .obj 2 0), (3, .obj 3 0)], [(1, ((Record.enc p0).map .t)), (2, [.i 0, .i 0, .i 0]), (3, [.i 0, .i 0, .i 0])], []⟩ ?_
 refine Wp.sag ⟨[(1, .obj 1 0), (2, .obj 2 0), (3, .obj 3 0)], [(1, ((Record.enc p0).map .t)), (2, [.i 0, .i 0, .i 0]), (3, [.i p0.fGen, .i 0, .i 0])], []⟩ ?_
 refine Wp.sag ⟨[(1, .obj 1 0), (2, .obj 2 0), (3, .obj 3 0)], [(1, ((Record.enc p0).map .t)), (2, [.i 0, .i 0, .i 0]), (3, [.i p0.fGen, .i p0.fSlot, .i 0])], []⟩ ?_
 refine Wp.sag ⟨[(2, .obj 2 0), (3, .obj 3 0)], [(2, [.i 0, .i 0, .i 0]), (3, ((Record.enc p0).map .t))], []⟩ ?_
 refine Wp.sag ⟨[(2, .obj 2 0)], [(2, ((Record.enc p0).map .t))], []⟩ ?_
 refine Wp.ret ?_
 obtain rfl := oi h
 exact RetK [.agg ((Record.enc p0).map .t)] _ [] kr kr (.refl _) .nil
theorem laws_toPut_ok (u : Nat) (p0 : Put) (r : Put) (h : laws_toPut u p0 = some r) : CallOK Tryz.prog 162 [.agg [.i p0.fWhat, .i p0.fAt, .s p0.fB, .i p0.fR.fGen, .i p0.fR.fSlot, .i p0.fR.fLen]] (.agg [.i r.fWhat, .i r.fAt, .ow 5 1 (r.fB.map (eInt .u8)), .i r.fR.fGen, .i r.fR.fSlot, .i r.fR.fLen]) [] := by
 unfold laws_toPut at h
 refine CallOK.of_bodyK (fn := Tryz.f162) (m := true) [.agg ((Put.enc p0).map .t)] kr rfl kr kr kr kr kr ?_
 refine Wp.sag ⟨[(1, .obj 1 0), (2, .obj 2 0)], [(1, ((Put.enc p0).map .t)), (2, [.i 0, .i 0, .nil, .i 0, .i 0, .i 0])], []⟩ ?_
 refine Wp.sag ⟨[(1, .obj 1 0), (2, .obj 2 0), (3, .obj 3 0)], [(1, ((Put.enc p0).map .t)), (2, [.i 0, .i 0, .nil, .i 0, .i 0, .i 0]), (3, [.i 0, .i 0, .nil, .i 0, .i 0, .i 0])], []⟩ ?_
 refine Wp.sag ⟨[(1, .obj 1 0), (2, .obj 2 0), (3, .obj 3 0)], [(1, ((Put.enc p0).map .t)), (2, [.i 0, .i 0, .nil, .i 0, .i 0, .i 0]), (3, [.i p0.fWhat, .i 0, .nil, .i 0, .i 0, .i 0])], []⟩ ?_
 refine Wp.sag ⟨[(1, .obj 1 0), (2, .obj 2 0), (3, .obj 3 0)], [(1, ((Put.enc p0).map .t)), (2, [.i 0, .i 0, .nil, .i 0, .i 0, .i 0]), (3, [.i p0.fWhat, .i p0.fAt, .nil, .i 0, .i 0, .i 0])], []⟩ ?_
 refine Wp.sb 2 ?_
 obtain ⟨r1, e_r1, h⟩ := bind_some h
 refine Runs.ck 12 [.s p0.fB] (laws_toByteS_ok u p0.fB r1 e_r1) ?_
 refine Runs.allf ⟨[(1, .obj 1 0), (2, .obj 2 0), (3, .obj 3 0)], [(1, ((Put.enc p0).map .t)), (2, [.i 0, .i 0, .nil, .i 0, .i 0, .i 0]), (3, [.i p0.fWhat, .i p0.fAt, .own 786432, .i 0, .i 0, .i 0])], [(786432, .live 5 1 (r1.map (eInt .u8)))]⟩ ?_
 refine Wp.sb 2 ?_
 obtain ⟨r2, e_r2, h⟩ := bind_some h
 refine Runs.ck 16 [.agg ((Record.enc p0.fR).map .t)] (laws_toRecord_ok u p0.fR r2 e_r2) ?_
 refine Runs.allf ⟨[(2, .obj 2 0), (3, .obj 3 0)], [(2, [.i 0, .i 0, .nil, .i 0, .i 0, .i 0]), (3, [.i p0.fWhat, .i p0.fAt, .own 786432, .i r2.fGen, .i r2.fSlot, .i r2.fLen])], [(786432, .live 5 1 (r1.map (eInt .u8)))]⟩ ?_
 refine Wp.sag ⟨[(2, .obj 2 0)], [(2, [.i p0.fWhat, .i p0.fAt, .own 786432, .i r2.fGen, .i r2.fSlot, .i r2.fLen])], [(786432, .live 5 1 (r1.map (eInt .u8)))]⟩ ?_
 refine Wp.ret ?_
 obtain rfl := oi h
 exact RetK [.agg [.i p0.fWhat, .i p0.fAt, .own 786432, .i r2.fGen, .i r2.fSlot, .i r2.fLen]] _ [] kr kr (.refl _) .nil
theorem laws_toPutS_ok (u : Nat) (p0 : List Put) (r : (List Put)) (h : laws_toPutS u p0 = some r) : CallOK Tryz.prog 115 [.one (.t (.sl 6 (p0.map Put.enc)))] (.one (.ow 204 6 (r.map Put.enc))) [] := by
 unfold laws_toPutS at h
 refine CallOK.of_bodyK (fn := Tryz.f115) (m := true) [.t (.sl 6 (p0.map Put.enc))] kr rfl kr kr kr kr kr ?_
 refine Wp.sag ⟨[(0, .t (.sl 6 (p0.map Put.enc))), (2, .nil)], [], []⟩ ?_
 refine Wp.sb 1 ?_
 refine Runs.lenT (y := .t (.sl 6 (p0.map Put.enc))) (e := 197) Put.enc p0 6 rfl rfl rfl kr kr kr kr kr ?_
 obtain ⟨_, e_1, h⟩ := bind_some h
 obtain ⟨_, e_2, h⟩ := bind_some h
 refine Runs.mkS Put.enc ((Put.mk 0 0 ([]) ((Record.mk 0 0 0))) : Put) 7 204 6 64 ((p0.length : Int)) ((p0.length : Int)) rfl rfl kr kr kr kr kr kr (chk_some e_1) (of_decide_eq_true (chk_some e_2)) kr ?_
 refine Runs.allf ⟨[(0, .t (.sl 6 (p0.map Put.enc))), (2, .nil), (3, .own 458752)], [], [(458752, .live 204 6 ((List.replicate (Int.toNat ((p0.length : Int))) ((Put.mk 0 0 ([]) ((Record.mk 0 0 0))) : Put)).map Put.enc))]⟩ ?_
 refine Wp.seqJ (α := (List Put)) (fun a => ⟨[(2, .nil), (3, .own 196609)], [], [(196609, .live 204 6 (a.map Put.enc))]⟩) (fun a => laws_toPutS_j1 u a = some r) ?_ ?_
 ·rintro x12 h
  change laws_toPutS_j1 u x12 = some r at h
  unfold laws_toPutS_j1 at h
  refine Wp.sag ⟨[(2, .own 196609)], [], [(196609, .live 204 6 (x12.map Put.enc))]⟩ ?_
  refine Wp.ret ?_
  obtain rfl := oi h
  exact RetK [.own 196609] _ [] kr kr (.refl _) .nil
 ·refine Wp.sag ⟨[(0, .t (.sl 6 (p0.map Put.enc))), (2, .nil), (3, .own 458752), (4, .i 0)], [], [(458752, .live 204 6 ((List.replicate (Int.toNat ((p0.length : Int))) ((Put.mk 0 0 ([]) ((Record.mk 0 0 0))) : Put)).map Put.enc))]⟩ ?_
  refine Wp.block ?_
  refine Wp.loopF (α := (List Put) × (List Put) × Int) (fun a => ⟨[(0, .t (.sl 6 (a.1.map Put.enc))), (2, .nil), (3, .own 196609), (4, .i a.2.2)], [], [(196609, .live 204 6 (a.2.1.map Put.enc))]⟩) (fun k_laws_toPutS_l2 a => laws_toPutS_l2 u k_laws_toPutS_l2 a.1 a.2.1 a.2.2 = some r) ?_ ?_ u (p0, List.replicate (Int.toNat ((p0.length : Int))) ((Put.mk 0 0 ([]) ((Record.mk 0 0 0))) : Put), 0) h (Le.of (mo := []) (mr := [(196609, 458752)]) kr kr kr kr)
  ·intro a h; unfold laws_toPutS_l2 at h; cases h
  ·rintro k_laws_toPutS_l2 ⟨p0, x5, x6⟩ h
   change laws_toPutS_l2 u (k_laws_toPutS_l2 + 1) p0 x5 x6 = some r at h
   rw [laws_toPutS_l2] at h
   refine Wp.seq ?_
   refine Wp.sb 2 ?_
   refine Runs.lenT (y := .t (.sl 6 (p0.map Put.enc))) (e := 197) Put.enc p0 6 rfl rfl rfl kr kr kr kr kr ?_
   refine Runs.allf ⟨[(0, .t (.sl 6 (p0.map Put.enc))), (2, .nil), (3, .own 196609), (4, .i x6), (11, .b (decide (x6 < ((p0.length : Int)))))], [], [(196609, .live 204 6 (x5.map Put.enc))]⟩ ?_
   refine Wp.c2 h (fun h => ?_) (fun h => ?_)
   ·refine Wp.sk ?_
    refine Wp.seq ?_
    refine Wp.block ?_
    refine Wp.rg [] [] ?_
    refine Runs.batch 4 kr ?_
    obtain ⟨y9, e_y9, h⟩ := bind_some h
    refine Runs.idxT (e := 197) (kk := .i64) (sz := 6) Put.enc p0 x6 rfl kr kr kr kr kr kr e_y9 ?_
    refine Runs.batch 1 kr ?_
    obtain ⟨r10, e_r10, h⟩ := bind_some h
    refine Runs.ck 20 [.agg ((Put.enc y9).map .t)] (laws_toPut_ok u y9 r10 e_r10) ?_
    obtain ⟨y11, e_y11, h⟩ := bind_some h
    refine Runs.idxO (e := 204) (e' := 204) (kk := .i64) (sz := 6) Put.enc x5 x6 196609 rfl kr kr kr kr kr kr kr e_y11 ?_
    refine Runs.storeU (e := 204) (sz := 6) (m := 6) Put.enc x5 196609 (Int.toNat x6) 0 r10 (.agg [.i r10.fWhat, .i r10.fAt, .own 1310722, .i r10.fR.fGen, .i r10.fR.fSlot, .i r10.fR.fLen]) (Put.enc r10) rfl kr kr kr kr kr kr kr kr (idx_some e_y11).2 kr kr ?_
    refine Runs.done ?_
    refine blkN ?_
    refine thenN ?_
    refine Wp.rg [] [] ?_
    refine Runs.alln ?_
    exact ⟨(p0, x5.set (Int.toNat x6) r10, bAdd .i64 x6 1), h, Le.of (mo := []) (mr := []) kr kr kr kr⟩
   refine Wp.exit ?_
   refine thenE ?_
   refine thenE ?_
   refine blkE ?_
   refine thenN ?_
   exact ⟨x5, h, Le.of (mo := []) (mr := []) kr kr kr kr⟩
theorem laws_toDisk_ok (u : Nat) (p0 : Disk) (r : Disk) (h : laws_toDisk u p0 = some r) : CallOK Tryz.prog 73 [.agg [.s p0.fA, .s p0.fB, .i p0.fR.fGen, .i p0.fR.fSlot, .i p0.fR.fLen, .t (.sl 6 (p0.fP.map Put.enc))]] (.agg [.ow 5 1 (r.fA.map (eInt .u8)), .ow 5 1 (r.fB.map (eInt .u8)), .i r.fR.fGen, .i r.fR.fSlot, .i r.fR.fLen, .ow 204 6 (r.fP.map Put.enc)]) [] := by
 unfold laws_toDisk at h
 refine CallOK.of_bodyK (fn := Tryz.f73) (m := true) [.agg ((Disk.enc p0).map .t)] kr rfl kr kr kr kr kr ?_
 refine Wp.sag ⟨[(1, .obj 1 0), (2, .obj 2 0)], [(1, ((Disk.enc p0).map .t)), (2, [.nil, .nil, .i 0, .i 0, .i 0, .nil])], []⟩ ?_
 refine Wp.sag ⟨[(1, .obj 1 0), (2, .obj 2 0), (3, .obj 3 0)], [(1, ((Disk.enc p0).map .t)), (2, [.nil, .nil, .i 0, .i 0, .i 0, .nil]), (3, [.nil, .nil, .i 0, .i 0, .i 0, .nil])], []⟩ ?_
 refine Wp.sb 2 ?_
 obtain ⟨r1, e_r1, h⟩ := bind_some h
 refine Runs.ck 6 [.s p0.fA] (laws_toByteS_ok u p0.fA r1 e_r1) ?_
 refine Runs.allf ⟨[(1, .obj 1 0), (2, .obj 2 0), (3, .obj 3 0)], [(1, ((Disk.enc p0).map .t)), (2, [.nil, .nil, .i 0, .i 0, .i 0, .nil]), (3, [.own 393216, .nil, .i 0, .i 0, .i 0, .nil])], [(393216, .live 5 1 (r1.map (eInt .u8)))]⟩ ?_
 refine Wp.sb 2 ?_
 obtain ⟨r2, e_r2, h⟩ := bind_some h
 refine Runs.ck 10 [.s p0.fB] (laws_toByteS_ok u p0.fB r2 e_r2) ?_
 refine Runs.allf ⟨[(1, .obj 1 0), (2, .obj 2 0), (3, .obj 3 0)], [(1, ((Disk.enc p0).map .t)), (2, [.nil, .nil, .i 0, .i 0, .i 0, .nil]), (3, [.own 393216, .own 655360, .i 0, .i 0, .i 0, .nil])], [(393216, .live 5 1 (r1.map (eInt .u8))), (655360, .live 5 1 (r2.map (eInt .u8)))]⟩ ?_
 refine Wp.sb 2 ?_
 obtain ⟨r3, e_r3, h⟩ := bind_some h
 refine Runs.ck 14 [.agg ((Record.enc p0.fR).map .t)] (laws_toRecord_ok u p0.fR r3 e_r3) ?_
 refine Runs.allf ⟨[(1, .obj 1 0), (2, .obj 2 0), (3, .obj 3 0)], [(1, ((Disk.enc p0).map .t)), (2, [.nil, .nil, .i 0, .i 0, .i 0, .nil]), (3, [.own 393216, .own 655360, .i r3.fGen, .i r3.fSlot, .i r3.fLen, .nil])], [(393216, .live 5 1 (r1.map (eInt .u8))), (655360, .live 5 1 (r2.map (eInt .u8)))]⟩ ?_
 refine Wp.sb 2 ?_
 obtain ⟨r4, e_r4, h⟩ := bind_some h
 refine Runs.ck 18 [.t (.sl 6 (p0.fP.map Put.enc))] (laws_toPutS_ok u p0.fP r4 e_r4) ?_
 refine Runs.allf ⟨[(2, .obj 2 0), (3, .obj 3 0)], [(2, [.nil, .nil, .i 0, .i 0, .i 0, .nil]), (3, [.own 393216, .own 655360, .i r3.fGen, .i r3.fSlot, .i r3.fLen, .own 1179648])], [(393216, .live 5 1 (r1.map (eInt .u8))), (655360, .live 5 1 (r2.map (eInt .u8))), (1179648, .live 204 6 (r4.map Put.enc))]⟩ ?_
 refine Wp.sag ⟨[(2, .obj 2 0)], [(2, [.own 393216, .own 655360, .i r3.fGen, .i r3.fSlot, .i r3.fLen, .own 1179648])], [(393216, .live 5 1 (r1.map (eInt .u8))), (655360, .live 5 1 (r2.map (eInt .u8))), (1179648, .live 204 6 (r4.map Put.enc))]⟩ ?_
 refine Wp.ret ?_
 obtain rfl := oi h
 exact RetK [.agg [.own 393216, .own 655360, .i r3.fGen, .i r3.fSlot, .i r3.fLen, .own 1179648]] _ [] kr kr (.refl _) .nil
theorem laws_toDiskS_ok (u : Nat) (p0 : List Disk) (r : (List Disk)) (h : laws_toDiskS u p0 = some r) : CallOK Tryz.prog 41 [.one (.t (.sl 6 (p0.map Disk.enc)))] (.one (.ow 124 6 (r.map Disk.enc))) [] := by
 unfold laws_toDiskS at h
 refine CallOK.of_bodyK (fn := Tryz.f41) (m := true) [.t (.sl 6 (p0.map Disk.enc))] kr rfl kr kr kr kr kr ?_
 refine Wp.sag ⟨[(0, .t (.sl 6 (p0.map Disk.enc))), (2, .nil)], [], []⟩ ?_
 refine Wp.sb 1 ?_
 refine Runs.lenT (y := .t (.sl 6 (p0.map Disk.enc))) (e := 116) Disk.enc p0 6 rfl rfl rfl kr kr kr kr kr ?_
 obtain ⟨_, e_1, h⟩ := bind_some h
 obtain ⟨_, e_2, h⟩ := bind_some h
 refine Runs.mkS Disk.enc ((Disk.mk ([]) ([]) ((Record.mk 0 0 0)) ([])) : Disk) 7 124 6 96 ((p0.length : Int)) ((p0.length : Int)) rfl rfl kr kr kr kr kr kr (chk_some e_1) (of_decide_eq_true (chk_some e_2)) kr ?_
 refine Runs.allf ⟨[(0, .t (.sl 6 (p0.map Disk.enc))), (2, .nil), (3, .own 458752)], [], [(458752, .live 124 6 ((List.replicate (Int.toNat ((p0.length : Int))) ((Disk.mk ([]) ([]) ((Record.mk 0 0 0)) ([])) : Disk)).map Disk.enc))]⟩ ?_
 refine Wp.seqJ (α := (List Disk)) (fun a => ⟨[(2, .nil), (3, .own 196609)], [], [(196609, .live 124 6 (a.map Disk.enc))]⟩) (fun a => laws_toDiskS_j1 u a = some r) ?_ ?_
 ·rintro x12 h
  change laws_toDiskS_j1 u x12 = some r at h
  unfold laws_toDiskS_j1 at h
  refine Wp.sag ⟨[(2, .own 196609)], [], [(196609, .live 124 6 (x12.map Disk.enc))]⟩ ?_
  refine Wp.ret ?_
  obtain rfl := oi h
  exact RetK [.own 196609] _ [] kr kr (.refl _) .nil
 ·refine Wp.sag ⟨[(0, .t (.sl 6 (p0.map Disk.enc))), (2, .nil), (3, .own 458752), (4, .i 0)], [], [(458752, .live 124 6 ((List.replicate (Int.toNat ((p0.length : Int))) ((Disk.mk ([]) ([]) ((Record.mk 0 0 0)) ([])) : Disk)).map Disk.enc))]⟩ ?_
  refine Wp.block ?_
  refine Wp.loopF (α := (List Disk) × (List Disk) × Int) (fun a => ⟨[(0, .t (.sl 6 (a.1.map Disk.enc))), (2, .nil), (3, .own 196609), (4, .i a.2.2)], [], [(196609, .live 124 6 (a.2.1.map Disk.enc))]⟩) (fun k_laws_toDiskS_l2 a => laws_toDiskS_l2 u k_laws_toDiskS_l2 a.1 a.2.1 a.2.2 = some r) ?_ ?_ u (p0, List.replicate (Int.toNat ((p0.length : Int))) ((Disk.mk ([]) ([]) ((Record.mk 0 0 0)) ([])) : Disk), 0) h (Le.of (mo := []) (mr := [(196609, 458752)]) kr kr kr kr)
  ·intro a h; unfold laws_toDiskS_l2 at h; cases h
  ·rintro k_laws_toDiskS_l2 ⟨p0, x5, x6⟩ h
   change laws_toDiskS_l2 u (k_laws_toDiskS_l2 + 1) p0 x5 x6 = some r at h
   rw [laws_toDiskS_l2] at h
   refine Wp.seq ?_
   refine Wp.sb 2 ?_
   refine Runs.lenT (y := .t (.sl 6 (p0.map Disk.enc))) (e := 116) Disk.enc p0 6 rfl rfl rfl kr kr kr kr kr ?_
   refine Runs.allf ⟨[(0, .t (.sl 6 (p0.map Disk.enc))), (2, .nil), (3, .own 196609), (4, .i x6), (11, .b (decide (x6 < ((p0.length : Int)))))], [], [(196609, .live 124 6 (x5.map Disk.enc))]⟩ ?_
   refine Wp.c2 h (fun h => ?_) (fun h => ?_)
   ·refine Wp.sk ?_
    refine Wp.seq ?_
    refine Wp.block ?_
    refine Wp.rg [] [] ?_
    refine Runs.batch 4 kr ?_
    obtain ⟨y9, e_y9, h⟩ := bind_some h
    refine Runs.idxT (e := 116) (kk := .i64) (sz := 6) Disk.enc p0 x6 rfl kr kr kr kr kr kr e_y9 ?_
    refine Runs.batch 1 kr ?_
    obtain ⟨r10, e_r10, h⟩ := bind_some h
    refine Runs.ck 20 [.agg ((Disk.enc y9).map .t)] (laws_toDisk_ok u y9 r10 e_r10) ?_
    obtain ⟨y11, e_y11, h⟩ := bind_some h
    refine Runs.idxO (e := 124) (e' := 124) (kk := .i64) (sz := 6) Disk.enc x5 x6 196609 rfl kr kr kr kr kr kr kr e_y11 ?_
    refine Runs.storeU (e := 124) (sz := 6) (m := 6) Disk.enc x5 196609 (Int.toNat x6) 0 r10 (.agg [.own 1310720, .own 1310721, .i r10.fR.fGen, .i r10.fR.fSlot, .i r10.fR.fLen, .own 1310725]) (Disk.enc r10) rfl kr kr kr kr kr kr kr kr (idx_some e_y11).2 kr kr ?_
    refine Runs.done ?_
    refine blkN ?_
    refine thenN ?_
    refine Wp.rg [] [] ?_
    refine Runs.alln ?_
    exact ⟨(p0, x5.set (Int.toNat x6) r10, bAdd .i64 x6 1), h, Le.of (mo := []) (mr := []) kr kr kr kr⟩
   refine Wp.exit ?_
   refine thenE ?_
   refine thenE ?_
   refine blkE ?_
   refine thenN ?_
   exact ⟨x5, h, Le.of (mo := []) (mr := []) kr kr kr kr⟩
theorem laws_toPacket_ok (u : Nat) (p0 : Packet) (r : Packet) (h : laws_toPacket u p0 = some r) : CallOK Tryz.prog 74 [.agg [.i p0.fFrom, .i p0.fTo, .s p0.fB]] (.agg [.i r.fFrom, .i r.fTo, .ow 5 1 (r.fB.map (eInt .u8))]) [] := by
 unfold laws_toPacket at h
 refine CallOK.of_bodyK (fn := Tryz.f74) (m := true) [.agg ((Packet.enc p0).map .t)] kr rfl kr kr kr kr kr ?_
 refine Wp.sag ⟨[(1, .obj 1 0), (2, .obj 2 0)], [(1, ((Packet.enc p0).map .t)), (2, [.i 0, .i 0, .nil])], []⟩ ?_
 refine Wp.sag ⟨[(1, .obj 1 0), (2, .obj 2 0), (3, .obj 3 0)], [(1, ((Packet.enc p0).map .t)), (2, [.i 0, .i 0, .nil]), (3, [.i 0, .i 0, .nil])], []⟩ ?_
 refine Wp.sag ⟨[(1, .obj 1 0), (2, .obj 2 0), (3, .obj 3 0)], [(1, ((Packet.enc p0).map .t)), (2, [.i 0, .i 0, .nil]), (3, [.i p0.fFrom, .i 0, .nil])], []⟩ ?_
 refine Wp.sag ⟨[(1, .obj 1 0), (2, .obj 2 0), (3, .obj 3 0)], [(1, ((Packet.enc p0).map .t)), (2, [.i 0, .i 0, .nil]), (3, [.i p0.fFrom, .i p0.fTo, .nil])], []⟩ ?_
 refine Wp.sb 2 ?_
 obtain ⟨r1, e_r1, h⟩ := bind_some h
 refine Runs.ck 12 [.s p0.fB] (laws_toByteS_ok u p0.fB r1 e_r1) ?_
 refine Runs.allf ⟨[(2, .obj 2 0), (3, .obj 3 0)], [(2, [.i 0, .i 0, .nil]), (3, [.i p0.fFrom, .i p0.fTo, .own 786432])], [(786432, .live 5 1 (r1.map (eInt .u8)))]⟩ ?_
 refine Wp.sag ⟨[(2, .obj 2 0)], [(2, [.i p0.fFrom, .i p0.fTo, .own 786432])], [(786432, .live 5 1 (r1.map (eInt .u8)))]⟩ ?_
 refine Wp.ret ?_
 obtain rfl := oi h
 exact RetK [.agg [.i p0.fFrom, .i p0.fTo, .own 786432]] _ [] kr kr (.refl _) .nil
theorem laws_toPacketS_ok (u : Nat) (p0 : List Packet) (r : (List Packet)) (h : laws_toPacketS u p0 = some r) : CallOK Tryz.prog 42 [.one (.t (.sl 3 (p0.map Packet.enc)))] (.one (.ow 97 3 (r.map Packet.enc))) [] := by
 unfold laws_toPacketS at h
 refine CallOK.of_bodyK (fn := Tryz.f42) (m := true) [.t (.sl 3 (p0.map Packet.enc))] kr rfl kr kr kr kr kr ?_
 refine Wp.sag ⟨[(0, .t (.sl 3 (p0.map Packet.enc))), (2, .nil)], [], []⟩ ?_
 refine Wp.sb 1 ?_
 refine Runs.lenT (y := .t (.sl 3 (p0.map Packet.enc))) (e := 118) Packet.enc p0 3 rfl rfl rfl kr kr kr kr kr ?_
 obtain ⟨_, e_1, h⟩ := bind_some h
 obtain ⟨_, e_2, h⟩ := bind_some h
 refine Runs.mkS Packet.enc ((Packet.mk 0 0 ([])) : Packet) 7 97 3 40 ((p0.length : Int)) ((p0.length : Int)) rfl rfl kr kr kr kr kr kr (chk_some e_1) (of_decide_eq_true (chk_some e_2)) kr ?_
 refine Runs.allf ⟨[(0, .t (.sl 3 (p0.map Packet.enc))), (2, .nil), (3, .own 458752)], [], [(458752, .live 97 3 ((List.replicate (Int.toNat ((p0.length : Int))) ((Packet.mk 0 0 ([])) : Packet)).map Packet.enc))]⟩ ?_
 refine Wp.seqJ (α := (List Packet)) (fun a => ⟨[(2, .nil), (3, .own 196609)], [], [(196609, .live 97 3 (a.map Packet.enc))]⟩) (fun a => laws_toPacketS_j1 u a = some r) ?_ ?_
 ·rintro x12 h
  change laws_toPacketS_j1 u x12 = some r at h
  unfold laws_toPacketS_j1 at h
  refine Wp.sag ⟨[(2, .own 196609)], [], [(196609, .live 97 3 (x12.map Packet.enc))]⟩ ?_
  refine Wp.ret ?_
  obtain rfl := oi h
  exact RetK [.own 196609] _ [] kr kr (.refl _) .nil
 ·refine Wp.sag ⟨[(0, .t (.sl 3 (p0.map Packet.enc))), (2, .nil), (3, .own 458752), (4, .i 0)], [], [(458752, .live 97 3 ((List.replicate (Int.toNat ((p0.length : Int))) ((Packet.mk 0 0 ([])) : Packet)).map Packet.enc))]⟩ ?_
  refine Wp.block ?_
  refine Wp.loopF (α := (List Packet) × (List Packet) × Int) (fun a => ⟨[(0, .t (.sl 3 (a.1.map Packet.enc))), (2, .nil), (3, .own 196609), (4, .i a.2.2)], [], [(196609, .live 97 3 (a.2.1.map Packet.enc))]⟩) (fun k_laws_toPacketS_l2 a => laws_toPacketS_l2 u k_laws_toPacketS_l2 a.1 a.2.1 a.2.2 = some r) ?_ ?_ u (p0, List.replicate (Int.toNat ((p0.length : Int))) ((Packet.mk 0 0 ([])) : Packet), 0) h (Le.of (mo := []) (mr := [(196609, 458752)]) kr kr kr kr)
  ·intro a h; unfold laws_toPacketS_l2 at h; cases h
  ·rintro k_laws_toPacketS_l2 ⟨p0, x5, x6⟩ h
   change laws_toPacketS_l2 u (k_laws_toPacketS_l2 + 1) p0 x5 x6 = some r at h
   rw [laws_toPacketS_l2] at h
   refine Wp.seq ?_
   refine Wp.sb 2 ?_
   refine Runs.lenT (y := .t (.sl 3 (p0.map Packet.enc))) (e := 118) Packet.enc p0 3 rfl rfl rfl kr kr kr kr kr ?_
   refine Runs.allf ⟨[(0, .t (.sl 3 (p0.map Packet.enc))), (2, .nil), (3, .own 196609), (4, .i x6), (11, .b (decide (x6 < ((p0.length : Int)))))], [], [(196609, .live 97 3 (x5.map Packet.enc))]⟩ ?_
   refine Wp.c2 h (fun h => ?_) (fun h => ?_)
   ·refine Wp.sk ?_
    refine Wp.seq ?_
    refine Wp.block ?_
    refine Wp.rg [] [] ?_
    refine Runs.batch 4 kr ?_
    obtain ⟨y9, e_y9, h⟩ := bind_some h
    refine Runs.idxT (e := 118) (kk := .i64) (sz := 3) Packet.enc p0 x6 rfl kr kr kr kr kr kr e_y9 ?_
    refine Runs.batch 1 kr ?_
    obtain ⟨r10, e_r10, h⟩ := bind_some h
    refine Runs.ck 20 [.agg ((Packet.enc y9).map .t)] (laws_toPacket_ok u y9 r10 e_r10) ?_
    obtain ⟨y11, e_y11, h⟩ := bind_some h
    refine Runs.idxO (e := 97) (e' := 97) (kk := .i64) (sz := 3) Packet.enc x5 x6 196609 rfl kr kr kr kr kr kr kr e_y11 ?_
    refine Runs.storeU (e := 97) (sz := 3) (m := 3) Packet.enc x5 196609 (Int.toNat x6) 0 r10 (.agg [.i r10.fFrom, .i r10.fTo, .own 1310722]) (Packet.enc r10) rfl kr kr kr kr kr kr kr kr (idx_some e_y11).2 kr kr ?_
    refine Runs.done ?_
    refine blkN ?_
    refine thenN ?_
    refine Wp.rg [] [] ?_
    refine Runs.alln ?_
    exact ⟨(p0, x5.set (Int.toNat x6) r10, bAdd .i64 x6 1), h, Le.of (mo := []) (mr := []) kr kr kr kr⟩
   refine Wp.exit ?_
   refine thenE ?_
   refine thenE ?_
   refine blkE ?_
   refine thenN ?_
   exact ⟨x5, h, Le.of (mo := []) (mr := []) kr kr kr kr⟩
theorem laws_toSent_ok (u : Nat) (p0 : Sent) (r : Sent) (h : laws_toSent u p0 = some r) : CallOK Tryz.prog 75 [.agg [.i p0.fFrom, .i p0.fTo, .i p0.fI]] (.agg [.i r.fFrom, .i r.fTo, .i r.fI]) [] := by
 unfold laws_toSent at h
 refine CallOK.of_bodyK (fn := Tryz.f75) (m := false) [.agg ((Sent.enc p0).map .t)] kr rfl kr kr kr kr kr ?_
 refine Wp.sag ⟨[(1, .obj 1 0), (2, .obj 2 0)], [(1, ((Sent.enc p0).map .t)), (2, [.i 0, .i 0, .i 0])], []⟩ ?_
 refine Wp.sag ⟨[(1, .obj 1 0), (2, .obj 2 0), (3, .obj 3 0)], [(1, ((Sent.enc p0).map .t)), (2, [.i 0, .i 0, .i 0]), (3, [.i 0, .i 0, .i 0])], []⟩ ?_
 refine Wp.sag ⟨[(1, .obj 1 0), (2, .obj 2 0), (3, .obj 3 0)], [(1, ((Sent.enc p0).map .t)), (2, [.i 0, .i 0, .i 0]), (3, [.i p0.fFrom, .i 0, .i 0])], []⟩ ?_
 refine Wp.sag ⟨[(1, .obj 1 0), (2, .obj 2 0), (3, .obj 3 0)], [(1, ((Sent.enc p0).map .t)), (2, [.i 0, .i 0, .i 0]), (3, [.i p0.fFrom, .i p0.fTo, .i 0])], []⟩ ?_
 refine Wp.sag ⟨[(2, .obj 2 0), (3, .obj 3 0)], [(2, [.i 0, .i 0, .i 0]), (3, ((Sent.enc p0).map .t))], []⟩ ?_
 refine Wp.sag ⟨[(2, .obj 2 0)], [(2, ((Sent.enc p0).map .t))], []⟩ ?_
 refine Wp.ret ?_
 obtain rfl := oi h
 exact RetK [.agg ((Sent.enc p0).map .t)] _ [] kr kr (.refl _) .nil
theorem laws_toSentS_ok (u : Nat) (p0 : List Sent) (r : (List Sent)) (h : laws_toSentS u p0 = some r) : CallOK Tryz.prog 43 [.one (.t (.sl 3 (p0.map Sent.enc)))] (.one (.ow 128 3 (r.map Sent.enc))) [] := by
 unfold laws_toSentS at h
 refine CallOK.of_bodyK (fn := Tryz.f43) (m := true) [.t (.sl 3 (p0.map Sent.enc))] kr rfl kr kr kr kr kr ?_
 refine Wp.sag ⟨[(0, .t (.sl 3 (p0.map Sent.enc))), (2, .nil)], [], []⟩ ?_
 refine Wp.sb 1 ?_
 refine Runs.lenT (y := .t (.sl 3 (p0.map Sent.enc))) (e := 130) Sent.enc p0 3 rfl rfl rfl kr kr kr kr kr ?_
 obtain ⟨_, e_1, h⟩ := bind_some h
 obtain ⟨_, e_2, h⟩ := bind_some h
 refine Runs.mkS Sent.enc ((Sent.mk 0 0 0) : Sent) 7 128 3 24 ((p0.length : Int)) ((p0.length : Int)) rfl rfl kr kr kr kr kr kr (chk_some e_1) (of_decide_eq_true (chk_some e_2)) kr ?_
 refine Runs.allf ⟨[(0, .t (.sl 3 (p0.map Sent.enc))), (2, .nil), (3, .own 458752)], [], [(458752, .live 128 3 ((List.replicate (Int.toNat ((p0.length : Int))) ((Sent.mk 0 0 0) : Sent)).map Sent.enc))]⟩ ?_
 refine Wp.seqJ (α := (List Sent)) (fun a => ⟨[(2, .nil), (3, .own 196609)], [], [(196609, .live 128 3 (a.map Sent.enc))]⟩) (fun a => laws_toSentS_j1 u a = some r) ?_ ?_
 ·rintro x12 h
  change laws_toSentS_j1 u x12 = some r at h
  unfold laws_toSentS_j1 at h
  refine Wp.sag ⟨[(2, .own 196609)], [], [(196609, .live 128 3 (x12.map Sent.enc))]⟩ ?_
  refine Wp.ret ?_
  obtain rfl := oi h
  exact RetK [.own 196609] _ [] kr kr (.refl _) .nil
 ·refine Wp.sag ⟨[(0, .t (.sl 3 (p0.map Sent.enc))), (2, .nil), (3, .own 458752), (4, .i 0)], [], [(458752, .live 128 3 ((List.replicate (Int.toNat ((p0.length : Int))) ((Sent.mk 0 0 0) : Sent)).map Sent.enc))]⟩ ?_
  refine Wp.block ?_
  refine Wp.loopF (α := (List Sent) × (List Sent) × Int) (fun a => ⟨[(0, .t (.sl 3 (a.1.map Sent.enc))), (2, .nil), (3, .own 196609), (4, .i a.2.2)], [], [(196609, .live 128 3 (a.2.1.map Sent.enc))]⟩) (fun k_laws_toSentS_l2 a => laws_toSentS_l2 u k_laws_toSentS_l2 a.1 a.2.1 a.2.2 = some r) ?_ ?_ u (p0, List.replicate (Int.toNat ((p0.length : Int))) ((Sent.mk 0 0 0) : Sent), 0) h (Le.of (mo := []) (mr := [(196609, 458752)]) kr kr kr kr)
  ·intro a h; unfold laws_toSentS_l2 at h; cases h
  ·rintro k_laws_toSentS_l2 ⟨p0, x5, x6⟩ h
   change laws_toSentS_l2 u (k_laws_toSentS_l2 + 1) p0 x5 x6 = some r at h
   rw [laws_toSentS_l2] at h
   refine Wp.seq ?_
   refine Wp.sb 2 ?_
   refine Runs.lenT (y := .t (.sl 3 (p0.map Sent.enc))) (e := 130) Sent.enc p0 3 rfl rfl rfl kr kr kr kr kr ?_
   refine Runs.allf ⟨[(0, .t (.sl 3 (p0.map Sent.enc))), (2, .nil), (3, .own 196609), (4, .i x6), (11, .b (decide (x6 < ((p0.length : Int)))))], [], [(196609, .live 128 3 (x5.map Sent.enc))]⟩ ?_
   refine Wp.c2 h (fun h => ?_) (fun h => ?_)
   ·refine Wp.sk ?_
    refine Wp.seq ?_
    refine Wp.block ?_
    refine Wp.rg [] [] ?_
    refine Runs.batch 4 kr ?_
    obtain ⟨y9, e_y9, h⟩ := bind_some h
    refine Runs.idxT (e := 130) (kk := .i64) (sz := 3) Sent.enc p0 x6 rfl kr kr kr kr kr kr e_y9 ?_
    refine Runs.batch 1 kr ?_
    obtain ⟨r10, e_r10, h⟩ := bind_some h
    refine Runs.ck 20 [.agg ((Sent.enc y9).map .t)] (laws_toSent_ok u y9 r10 e_r10) ?_
    obtain ⟨y11, e_y11, h⟩ := bind_some h
    refine Runs.idxO (e := 128) (e' := 128) (kk := .i64) (sz := 3) Sent.enc x5 x6 196609 rfl kr kr kr kr kr kr kr e_y11 ?_
    refine Runs.storeT (e := 128) (sz := 3) (m := 3) Sent.enc x5 196609 (Int.toNat x6) 0 r10 (.agg ((Sent.enc r10).map .t)) (Sent.enc r10) rfl kr kr kr kr kr kr kr kr (idx_some e_y11).2 kr kr ?_
    refine Runs.done ?_
    refine blkN ?_
    refine thenN ?_
    refine Wp.rg [] [] ?_
    refine Runs.alln ?_
    exact ⟨(p0, x5.set (Int.toNat x6) r10, bAdd .i64 x6 1), h, Le.of (mo := []) (mr := []) kr kr kr kr⟩
   refine Wp.exit ?_
   refine thenE ?_
   refine thenE ?_
   refine blkE ?_
   refine thenN ?_
   exact ⟨x5, h, Le.of (mo := []) (mr := []) kr kr kr kr⟩
theorem laws_toWorld_ok (u : Nat) (p0 : World) (r : World) (h : laws_toWorld u p0 = some r) : CallOK Tryz.prog 16 [.agg [.i p0.fC.fSize, .i p0.fC.fWindow, .i p0.fC.fSuspect, .i p0.fC.fForget, .t (.sl 1 (p0.fT.fUp.map (eInt .i64))), .s p0.fNew, .t (.sl 1 (p0.fOld.map Image.enc)), .t (.sl 12 (p0.fN.map Node.enc)), .t (.sl 6 (p0.fD.map Disk.enc)), .t (.sl 3 (p0.fNet.map Packet.enc)), .t (.sl 3 (p0.fLog.map Sent.enc)), .i p0.fLost]] (.agg [.i r.fC.fSize, .i r.fC.fWindow, .i r.fC.fSuspect, .i r.fC.fForget, .ow 3 1 (r.fT.fUp.map (eInt .i64)), .ow 5 1 (r.fNew.map (eInt .u8)), .ow 61 1 (r.fOld.map Image.enc), .ow 92 12 (r.fN.map Node.enc), .ow 124 6 (r.fD.map Disk.enc), .ow 97 3 (r.fNet.map Packet.enc), .ow 128 3 (r.fLog.map Sent.enc), .i r.fLost]) [] := by
 unfold laws_toWorld at h
 refine CallOK.of_bodyK (fn := Tryz.f16) (m := true) [.agg ((World.enc p0).map .t)] kr rfl kr kr kr kr kr ?_
 refine Wp.sag ⟨[(1, .obj 1 0), (2, .obj 2 0)], [(1, ((World.enc p0).map .t)), (2, [.i 0, .i 0, .i 0, .i 0, .nil, .nil, .nil, .nil, .nil, .nil, .nil, .i 0])], []⟩ ?_
 refine Wp.sag ⟨[(1, .obj 1 0), (2, .obj 2 0), (3, .obj 3 0)], [(1, ((World.enc p0).map .t)), (2, [.i 0, .i 0, .i 0, .i 0, .nil, .nil, .nil, .nil, .nil, .nil, .nil, .i 0]), (3, [.i 0, .i 0, .i 0, .i 0, .nil, .nil, .nil, .nil, .nil, .nil, .nil, .i 0])], []⟩ ?_
 refine Wp.sb 2 ?_
 obtain ⟨r1, e_r1, h⟩ := bind_some h
 refine Runs.ck 6 [.agg ((Conf.enc p0.fC).map .t)] (laws_toConf_ok u p0.fC r1 e_r1) ?_
 refine Runs.allf ⟨[(1, .obj 1 0), (2, .obj 2 0), (3, .obj 3 0)], [(1, ((World.enc p0).map .t)), (2, [.i 0, .i 0, .i 0, .i 0, .nil, .nil, .nil, .nil, .nil, .nil, .nil, .i 0]), (3, [.i r1.fSize, .i r1.fWindow, .i r1.fSuspect, .i r1.fForget, .nil, .nil, .nil, .nil, .nil, .nil, .nil, .i 0])], []⟩ ?_
 refine Wp.sb 2 ?_
 obtain ⟨r2, e_r2, h⟩ := bind_some h
 refine Runs.ck 10 [.agg [.t (.sl 1 (p0.fT.fUp.map (eInt .i64)))]] (laws_toTree_ok u p0.fT r2 e_r2) ?_
 refine Runs.allf ⟨[(1, .obj 1 0), (2, .obj 2 0), (3, .obj 3 0)], [(1, ((World.enc p0).map .t)), (2, [.i 0, .i 0, .i 0, .i 0, .nil, .nil, .nil, .nil, .nil, .nil, .nil, .i 0]), (3, [.i r1.fSize, .i r1.fWindow, .i r1.fSuspect, .i r1.fForget, .own 655360, .nil, .nil, .nil, .nil, .nil, .nil, .i 0])], [(655360, .live 3 1 (r2.fUp.map (eInt .i64)))]⟩ ?_
 refine Wp.sb 2 ?_
 obtain ⟨r3, e_r3, h⟩ := bind_some h
 refine Runs.ck 14 [.s p0.fNew] (laws_toByteS_ok u p0.fNew r3 e_r3) ?_
 refine Runs.allf ⟨[(1, .obj 1 0), (2, .obj 2 0), (3, .obj 3 0)], [(1, ((World.enc p0).map .t)), (2, [.i 0, .i 0, .i 0, .i 0, .nil, .nil, .nil, .nil, .nil, .nil, .nil, .i 0]), (3, [.i r1.fSize, .i r1.fWindow, .i r1.fSuspect, .i r1.fForget, .own 655360, .own 917504, .nil, .nil, .nil, .nil, .nil, .i 0])], [(655360, .live 3 1 (r2.fUp.map (eInt .i64))), (917504, .live 5 1 (r3.map (eInt .u8)))]⟩ ?_
 refine Wp.sb 2 ?_
 obtain ⟨r4, e_r4, h⟩ := bind_some h
 refine Runs.ck 18 [.t (.sl 1 (p0.fOld.map Image.enc))] (laws_toImageS_ok u p0.fOld r4 e_r4) ?_
 refine Runs.allf ⟨[(1, .obj 1 0), (2, .obj 2 0), (3, .obj 3 0)], [(1, ((World.enc p0).map .t)), (2, [.i 0, .i 0, .i 0, .i 0, .nil, .nil, .nil, .nil, .nil, .nil, .nil, .i 0]), (3, [.i r1.fSize, .i r1.fWindow, .i r1.fSuspect, .i r1.fForget, .own 655360, .own 917504, .own 1179648, .nil, .nil, .nil, .nil, .i 0])], [(655360, .live 3 1 (r2.fUp.map (eInt .i64))), (917504, .live 5 1 (r3.map (eInt .u8))), (1179648, .live 61 1 (r4.map Image.enc))]⟩ ?_
 refine Wp.sb 2 ?_
 obtain ⟨r5, e_r5, h⟩ := bind_some h
 refine Runs.ck 22 [.t (.sl 12 (p0.fN.map Node.enc))] (laws_toNodeS_ok u p0.fN r5 e_r5) ?_
 refine Runs.allf ⟨[(1, .obj 1 0), (2, .obj 2 0), (3, .obj 3 0)], [(1, ((World.enc p0).map .t)), (2, [.i 0, .i 0, .i 0, .i 0, .nil, .nil, .nil, .nil, .nil, .nil, .nil, .i 0]), (3, [.i r1.fSize, .i r1.fWindow, .i r1.fSuspect, .i r1.fForget, .own 655360, .own 917504, .own 1179648, .own 1441792, .nil, .nil, .nil, .i 0])], [(655360, .live 3 1 (r2.fUp.map (eInt .i64))), (917504, .live 5 1 (r3.map (eInt .u8))), (1179648, .live 61 1 (r4.map Image.enc)), (1441792, .live 92 12 (r5.map Node.enc))]⟩ ?_
 refine Wp.sb 2 ?_
 obtain ⟨r6, e_r6, h⟩ := bind_some h
 refine Runs.ck 26 [.t (.sl 6 (p0.fD.map Disk.enc))] (laws_toDiskS_ok u p0.fD r6 e_r6) ?_
 refine Runs.allf ⟨[(1, .obj 1 0), (2, .obj 2 0), (3, .obj 3 0)], [(1, ((World.enc p0).map .t)), (2, [.i 0, .i 0, .i 0, .i 0, .nil, .nil, .nil, .nil, .nil, .nil, .nil, .i 0]), (3, [.i r1.fSize, .i r1.fWindow, .i r1.fSuspect, .i r1.fForget, .own 655360, .own 917504, .own 1179648, .own 1441792, .own 1703936, .nil, .nil, .i 0])], [(655360, .live 3 1 (r2.fUp.map (eInt .i64))), (917504, .live 5 1 (r3.map (eInt .u8))), (1179648, .live 61 1 (r4.map Image.enc)), (1441792, .live 92 12 (r5.map Node.enc)), (1703936, .live 124 6 (r6.map Disk.enc))]⟩ ?_
 refine Wp.sb 2 ?_
 obtain ⟨r7, e_r7, h⟩ := bind_some h
 refine Runs.ck 30 [.t (.sl 3 (p0.fNet.map Packet.enc))] (laws_toPacketS_ok u p0.fNet r7 e_r7) ?_
 refine Runs.allf ⟨[(1, .obj 1 0), (2, .obj 2 0), (3, .obj 3 0)], [(1, ((World.enc p0).map .t)), (2, [.i 0, .i 0, .i 0, .i 0, .nil, .nil, .nil, .nil, .nil, .nil, .nil, .i 0]), (3, [.i r1.fSize, .i r1.fWindow, .i r1.fSuspect, .i r1.fForget, .own 655360, .own 917504, .own 1179648, .own 1441792, .own 1703936, .own 1966080, .nil, .i 0])], [(655360, .live 3 1 (r2.fUp.map (eInt .i64))), (917504, .live 5 1 (r3.map (eInt .u8))), (1179648, .live 61 1 (r4.map Image.enc)), (1441792, .live 92 12 (r5.map Node.enc)), (1703936, .live 124 6 (r6.map Disk.enc)), (1966080, .live 97 3 (r7.map Packet.enc))]⟩ ?_
 refine Wp.sb 2 ?_
 obtain ⟨r8, e_r8, h⟩ := bind_some h
 refine Runs.ck 34 [.t (.sl 3 (p0.fLog.map Sent.enc))] (laws_toSentS_ok u p0.fLog r8 e_r8) ?_
 refine Runs.allf ⟨[(1, .obj 1 0), (2, .obj 2 0), (3, .obj 3 0)], [(1, ((World.enc p0).map .t)), (2, [.i 0, .i 0, .i 0, .i 0, .nil, .nil, .nil, .nil, .nil, .nil, .nil, .i 0]), (3, [.i r1.fSize, .i r1.fWindow, .i r1.fSuspect, .i r1.fForget, .own 655360, .own 917504, .own 1179648, .own 1441792, .own 1703936, .own 1966080, .own 2228224, .i 0])], [(655360, .live 3 1 (r2.fUp.map (eInt .i64))), (917504, .live 5 1 (r3.map (eInt .u8))), (1179648, .live 61 1 (r4.map Image.enc)), (1441792, .live 92 12 (r5.map Node.enc)), (1703936, .live 124 6 (r6.map Disk.enc)), (1966080, .live 97 3 (r7.map Packet.enc)), (2228224, .live 128 3 (r8.map Sent.enc))]⟩ ?_
 refine Wp.sag ⟨[(2, .obj 2 0), (3, .obj 3 0)], [(2, [.i 0, .i 0, .i 0, .i 0, .nil, .nil, .nil, .nil, .nil, .nil, .nil, .i 0]), (3, [.i r1.fSize, .i r1.fWindow, .i r1.fSuspect, .i r1.fForget, .own 655360, .own 917504, .own 1179648, .own 1441792, .own 1703936, .own 1966080, .own 2228224, .i p0.fLost])], [(655360, .live 3 1 (r2.fUp.map (eInt .i64))), (917504, .live 5 1 (r3.map (eInt .u8))), (1179648, .live 61 1 (r4.map Image.enc)), (1441792, .live 92 12 (r5.map Node.enc)), (1703936, .live 124 6 (r6.map Disk.enc)), (1966080, .live 97 3 (r7.map Packet.enc)), (2228224, .live 128 3 (r8.map Sent.enc))]⟩ ?_
 refine Wp.sag ⟨[(2, .obj 2 0)], [(2, [.i r1.fSize, .i r1.fWindow, .i r1.fSuspect, .i r1.fForget, .own 655360, .own 917504, .own 1179648, .own 1441792, .own 1703936, .own 1966080, .own 2228224, .i p0.fLost])], [(655360, .live 3 1 (r2.fUp.map (eInt .i64))), (917504, .live 5 1 (r3.map (eInt .u8))), (1179648, .live 61 1 (r4.map Image.enc)), (1441792, .live 92 12 (r5.map Node.enc)), (1703936, .live 124 6 (r6.map Disk.enc)), (1966080, .live 97 3 (r7.map Packet.enc)), (2228224, .live 128 3 (r8.map Sent.enc))]⟩ ?_
 refine Wp.ret ?_
 obtain rfl := oi h
 exact RetK [.agg [.i r1.fSize, .i r1.fWindow, .i r1.fSuspect, .i r1.fForget, .own 655360, .own 917504, .own 1179648, .own 1441792, .own 1703936, .own 1966080, .own 2228224, .i p0.fLost]] _ [] kr kr (.refl _) .nil
theorem spec_NumText_ok (u : Nat) (p0 : Int) (r : ByteArray) (h : spec_NumText u p0 = some r) : CallOK Tryz.prog 24 [.one (.i p0)] (.one (.t (.str r))) [] := by
 unfold spec_NumText at h
 refine CallOK.of_bodyK (fn := Tryz.f24) (m := false) [.i p0] kr rfl kr kr kr kr kr ?_
 refine Wp.sag ⟨[(0, .i p0), (2, .t (.str ((ByteArray.mk #[]))))], [], []⟩ ?_
 refine Wp.seq ?_
 refine Wp.sag ⟨[(0, .i p0), (2, .t (.str ((ByteArray.mk #[])))), (7, .b (p0 == 0))], [], []⟩ ?_
 refine Wp.c2 h (fun h => ?_) (fun h => ?_)
 ·refine Wp.sag ⟨[(0, .i p0), (2, .t (.str ((ByteArray.mk #[48]))))], [], []⟩ ?_
  refine Wp.ret ?_
  refine thenR ?_
  obtain rfl := oi h
  exact RetK [.t (.str ((ByteArray.mk #[48])))] _ [] kr kr (.refl _) .nil
 refine Wp.sk ?_
 refine Wp.sag ⟨[(0, .i p0), (2, .t (.str ((ByteArray.mk #[])))), (3, .t (.str ((ByteArray.mk #[]))))], [], []⟩ ?_
 refine Wp.seqJ (α := Int × ByteArray) (fun a => ⟨[(0, .i a.1), (2, .t (.str ((ByteArray.mk #[])))), (3, .t (.str a.2))], [], []⟩) (fun a => spec_NumText_j1 u a.1 a.2 = some r) ?_ ?_
 ·rintro ⟨p0, x8⟩ h
  change spec_NumText_j1 u p0 x8 = some r at h
  unfold spec_NumText_j1 at h
  refine Wp.seq ?_
  refine Wp.sag ⟨[(2, .t (.str ((ByteArray.mk #[])))), (3, .t (.str x8)), (27, .b (decide (p0 < 0)))], [], []⟩ ?_
  refine Wp.c2 h (fun h => ?_) (fun h => ?_)
  ·refine Wp.sb 1 ?_
   obtain ⟨_, e_9, h⟩ := bind_some h
   refine Runs.cat ((ByteArray.mk #[45])) x8 rfl kr kr kr kr (of_decide_eq_true (chk_some e_9)) ?_
   refine Runs.allf ⟨[(2, .t (.str (((ByteArray.mk #[45])) ++ x8))), (3, .t (.str x8))], [], []⟩ ?_
   refine Wp.ret ?_
   refine thenR ?_
   obtain rfl := oi h
   exact RetK [.t (.str (((ByteArray.mk #[45])) ++ x8))] _ [] kr kr (.refl _) .nil
  refine Wp.sk ?_
  refine Wp.sag ⟨[(2, .t (.str x8))], [], []⟩ ?_
  refine Wp.ret ?_
  obtain rfl := oi h
  exact RetK [.t (.str x8)] _ [] kr kr (.refl _) .nil
 ·refine Wp.sag ⟨[(0, .i p0), (2, .t (.str ((ByteArray.mk #[])))), (3, .t (.str ((ByteArray.mk #[])))), (4, .i p0)], [], []⟩ ?_
  refine Wp.block ?_
  refine Wp.loopF (α := Int × ByteArray × Int) (fun a => ⟨[(0, .i a.1), (2, .t (.str ((ByteArray.mk #[])))), (3, .t (.str a.2.1)), (4, .i a.2.2)], [], []⟩) (fun k_spec_NumText_l2 a => spec_NumText_l2 u k_spec_NumText_l2 a.1 a.2.1 a.2.2 = some r) ?_ ?_ u (p0, (ByteArray.mk #[]), p0) h (Le.of (mo := []) (mr := []) kr kr kr kr)
  ·intro a h; unfold spec_NumText_l2 at h; cases h
  ·rintro k_spec_NumText_l2 ⟨p0, x3, x4⟩ h
   change spec_NumText_l2 u (k_spec_NumText_l2 + 1) p0 x3 x4 = some r at h
   rw [spec_NumText_l2] at h
   refine Wp.seq ?_
   refine Wp.sag ⟨[(0, .i p0), (2, .t (.str ((ByteArray.mk #[])))), (3, .t (.str x3)), (4, .i x4), (10, .b (x4 != 0))], [], []⟩ ?_
   refine Wp.c2 h (fun h => ?_) (fun h => ?_)
   ·refine Wp.sk ?_
    refine Wp.seq ?_
    refine Wp.block ?_
    refine Wp.sag ⟨[(0, .i p0), (2, .t (.str ((ByteArray.mk #[])))), (3, .t (.str x3)), (4, .i x4), (5, .i (bRem .i64 x4 10))], [], []⟩ ?_
    refine Wp.seqJ (α := Int × ByteArray × Int × Int) (fun a => ⟨[(0, .i a.1), (2, .t (.str ((ByteArray.mk #[])))), (3, .t (.str a.2.1)), (4, .i a.2.2.1), (5, .i a.2.2.2)], [], []⟩) (fun a => spec_NumText_j3 u (fun z0 z1 z2 => spec_NumText_l2 u k_spec_NumText_l2 z0 z1 z2) a.1 a.2.1 a.2.2.1 a.2.2.2 = some r) ?_ ?_
    ·rintro ⟨p0, x3, x4, x7⟩ h
     change spec_NumText_j3 u (fun z0 z1 z2 => spec_NumText_l2 u k_spec_NumText_l2 z0 z1 z2) p0 x3 x4 x7 = some r at h
     unfold spec_NumText_j3 at h
     refine Wp.rg [] [] ?_
     refine Runs.batch 4 kr ?_
     refine Runs.bytesStr (y := .own 1441792) (e := 5) ([IntKind.wrap .u8 (bAdd .i64 48 x7)]) 1 rfl kr kr kr kr kr kr kr ?_
     refine Runs.batch 1 kr ?_
     obtain ⟨_, e_8, h⟩ := bind_some h
     refine Runs.cat (strOfNums ([IntKind.wrap .u8 (bAdd .i64 48 x7)])) x3 rfl kr kr kr kr (of_decide_eq_true (chk_some e_8)) ?_
     refine Runs.all kr ?_
     refine blkN ?_
     refine thenN ?_
     refine Wp.rg [] [] ?_
     refine Runs.alln ?_
     exact ⟨(p0, (strOfNums ([IntKind.wrap .u8 (bAdd .i64 48 x7)])) ++ x3, bQuo .i64 x4 10), h, Le.of (mo := []) (mr := []) kr kr kr kr⟩
    ·refine Wp.sag ⟨[(0, .i p0), (2, .t (.str ((ByteArray.mk #[])))), (3, .t (.str x3)), (4, .i x4), (5, .i (bRem .i64 x4 10)), (16, .b (decide ((bRem .i64 x4 10) < 0)))], [], []⟩ ?_
     refine Wp.c2 h (fun h => ?_) (fun h => ?_)
     ·refine Wp.rg [] [] ?_
      refine Runs.alln ?_
      exact ⟨(p0, x3, x4, bSub .i64 0 (bRem .i64 x4 10)), h, Le.of (mo := []) (mr := []) kr kr kr kr⟩
     refine Wp.sk ?_
     exact ⟨(p0, x3, x4, bRem .i64 x4 10), h, Le.of (mo := []) (mr := []) kr kr kr kr⟩
   refine Wp.exit ?_
   refine thenE ?_
   refine thenE ?_
   refine blkE ?_
   refine thenN ?_
   exact ⟨(p0, x3), h, Le.of (mo := []) (mr := []) kr kr kr kr⟩
theorem spec_GetVar_ok (u : Nat) (p0 : List Int) (p1 : Int) (r : Int × Int × Bool) (h : spec_GetVar u p0 p1 = some r) : CallOK Tryz.prog 129 [.one (.s p0), .one (.i p1)] (.tup [.one (.i r.1), .one (.i r.2.1), .one (.b r.2.2)]) [] := by
 unfold spec_GetVar at h
 refine CallOK.of_bodyK (fn := Tryz.f129) (m := false) [.s p0, .i p1] kr rfl kr kr kr kr kr ?_
 refine Wp.sag ⟨[(0, .s p0), (1, .i p1), (4, .i 0), (5, .i 0), (6, .b false)], [], []⟩ ?_
 refine Wp.sag ⟨[(0, .s p0), (1, .i p1), (4, .i 0), (5, .i 0), (6, .b false), (7, .i 0)], [], []⟩ ?_
 refine Wp.seqJ (α := Unit) (fun a => ⟨[(4, .i 0), (5, .i 0), (6, .b false)], [], []⟩) (fun a => spec_GetVar_j1 u = some r) ?_ ?_
 ·rintro ⟨⟩ h
  change spec_GetVar_j1 u = some r at h
  unfold spec_GetVar_j1 at h
  refine Wp.sag ⟨[(4, .i 0), (5, .i 0), (6, .b false)], [], []⟩ ?_
  refine Wp.ret ?_
  obtain rfl := oi h
  exact RetK [.i 0, .i 0, .b false] _ [] kr kr (.refl _) .nil
 ·refine Wp.sag ⟨[(0, .s p0), (1, .i p1), (4, .i 0), (5, .i 0), (6, .b false), (7, .i 0), (8, .i 0)], [], []⟩ ?_
  refine Wp.block ?_
  refine Wp.loopF (α := (List Int) × Int × Int × Int) (fun a => ⟨[(0, .s a.1), (1, .i a.2.1), (4, .i 0), (5, .i 0), (6, .b false), (7, .i a.2.2.1), (8, .i a.2.2.2)], [], []⟩) (fun k_spec_GetVar_l2 a => spec_GetVar_l2 u k_spec_GetVar_l2 a.1 a.2.1 a.2.2.1 a.2.2.2 = some r) ?_ ?_ u (p0, p1, 0, 0) h (Le.of (mo := []) (mr := []) kr kr kr kr)
  ·intro a h; unfold spec_GetVar_l2 at h; cases h
  ·rintro k_spec_GetVar_l2 ⟨p0, p1, x3, x4⟩ h
   change spec_GetVar_l2 u (k_spec_GetVar_l2 + 1) p0 p1 x3 x4 = some r at h
   rw [spec_GetVar_l2] at h
   refine Wp.seq ?_
   refine Wp.sag ⟨[(0, .s p0), (1, .i p1), (4, .i 0), (5, .i 0), (6, .b false), (7, .i x3), (8, .i x4), (11, .b (decide (x4 < 6)))], [], []⟩ ?_
   refine Wp.c2 h (fun h => ?_) (fun h => ?_)
   ·refine Wp.sk ?_
    refine Wp.seq ?_
    refine Wp.block ?_
    refine Wp.seq ?_
    refine Wp.seqJ (α := (List Int) × Int × Int × Int × Bool) (fun a => ⟨[(0, .s a.1), (1, .i a.2.1), (4, .i 0), (5, .i 0), (6, .b false), (7, .i a.2.2.1), (8, .i a.2.2.2.1), (23, .b a.2.2.2.2)], [], []⟩) (fun a => spec_GetVar_j3 u (fun z0 z1 z2 z3 => spec_GetVar_l2 u k_spec_GetVar_l2 z0 z1 z2 z3) a.1 a.2.1 a.2.2.1 a.2.2.2.1 a.2.2.2.2 = some r) ?_ ?_
    ·rintro ⟨p0, p1, x3, x4, x7⟩ h
     change spec_GetVar_j3 u (fun z0 z1 z2 z3 => spec_GetVar_l2 u k_spec_GetVar_l2 z0 z1 z2 z3) p0 p1 x3 x4 x7 = some r at h
     unfold spec_GetVar_j3 at h
     refine Wp.c2 h (fun h => ?_) (fun h => ?_)
     ·refine Wp.sag ⟨[(0, .s p0), (1, .i p1), (4, .i 0), (5, .i 0), (6, .b false), (7, .i x3), (8, .i x4)], [], []⟩ ?_
      refine Wp.ret ?_
      refine thenR ?_
      refine blkR ?_
      refine thenR ?_
      refine thenR ?_
      refine blkR ?_
      refine thenR ?_
      obtain rfl := oi h
      exact RetK [.i 0, .i 0, .b false] _ [] kr kr (.refl _) .nil
     refine Wp.sk ?_
     refine Wp.sb 4 ?_
     obtain ⟨y8, e_y8, h⟩ := bind_some h
     refine Runs.idxT (e := 5) (kk := .i64) (sz := 1) (eInt .u8) p0 (bAdd .i64 p1 x4) rfl kr kr kr kr kr kr e_y8 ?_
     refine Runs.allf ⟨[(0, .s p0), (1, .i p1), (4, .i 0), (5, .i 0), (6, .b false), (7, .i x3), (8, .i x4), (9, .i (IntKind.wrap .i64 y8))], [], []⟩ ?_
     refine Wp.sb 5 ?_
     obtain ⟨_, e_9, h⟩ := bind_some h
     refine Runs.num .shl (.int .i64 (bAnd .i64 (IntKind.wrap .i64 y8) 127)) (.int .i64 (bMul .i64 7 x4)) (.int .i64 (bShl .i64 (bAnd .i64 (IntKind.wrap .i64 y8) 127) (bMul .i64 7 x4))) rfl kr kr kr kr (bin_shl _ _ _ _ _ (chk_some e_9)) ?_
     refine Runs.allf ⟨[(0, .s p0), (1, .i p1), (4, .i 0), (5, .i 0), (6, .b false), (7, .i (bOr .i64 x3 (bShl .i64 (bAnd .i64 (IntKind.wrap .i64 y8) 127) (bMul .i64 7 x4)))), (8, .i x4), (9, .i (IntKind.wrap .i64 y8))], [], []⟩ ?_
     refine Wp.sag ⟨[(0, .s p0), (1, .i p1), (4, .i 0), (5, .i 0), (6, .b false), (7, .i (bOr .i64 x3 (bShl .i64 (bAnd .i64 (IntKind.wrap .i64 y8) 127) (bMul .i64 7 x4)))), (8, .i x4), (9, .i (IntKind.wrap .i64 y8)), (39, .b (decide ((IntKind.wrap .i64 y8) < 128)))], [], []⟩ ?_
     refine Wp.c2 h (fun h => ?_) (fun h => ?_)
     ·refine Wp.seq ?_
      refine Wp.seqJ (α := (List Int) × Int × Int × Int × Int × Bool) (fun a => ⟨[(0, .s a.1), (1, .i a.2.1), (4, .i 0), (5, .i 0), (6, .b false), (7, .i (bOr .i64 a.2.2.1 (bShl .i64 (bAnd .i64 (IntKind.wrap .i64 a.2.2.2.1) 127) (bMul .i64 7 a.2.2.2.2.1)))), (8, .i a.2.2.2.2.1), (49, .b a.2.2.2.2.2)], [], []⟩) (fun a => spec_GetVar_j4 u (fun z0 z1 z2 z3 => spec_GetVar_l2 u k_spec_GetVar_l2 z0 z1 z2 z3) a.1 a.2.1 a.2.2.1 a.2.2.2.1 a.2.2.2.2.1 a.2.2.2.2.2 = some r) ?_ ?_
      ·rintro ⟨p0, p1, x3, y8, x4, x10⟩ h
       change spec_GetVar_j4 u (fun z0 z1 z2 z3 => spec_GetVar_l2 u k_spec_GetVar_l2 z0 z1 z2 z3) p0 p1 x3 y8 x4 x10 = some r at h
       unfold spec_GetVar_j4 at h
       refine Wp.c2 h (fun h => ?_) (fun h => ?_)
       ·refine Wp.sag ⟨[(0, .s p0), (1, .i p1), (4, .i 0), (5, .i 0), (6, .b false), (7, .i (bOr .i64 x3 (bShl .i64 (bAnd .i64 (IntKind.wrap .i64 y8) 127) (bMul .i64 7 x4)))), (8, .i x4)], [], []⟩ ?_
        refine Wp.ret ?_
        refine thenR ?_
        refine blkR ?_
        refine thenR ?_
        refine thenR ?_
        refine blkR ?_
        refine thenR ?_
        obtain rfl := oi h
        exact RetK [.i 0, .i 0, .b false] _ [] kr kr (.refl _) .nil
       refine Wp.sk ?_
       refine Wp.sag ⟨[(0, .s p0), (1, .i p1), (4, .i (bOr .i64 x3 (bShl .i64 (bAnd .i64 (IntKind.wrap .i64 y8) 127) (bMul .i64 7 x4)))), (5, .i (bAdd .i64 (bAdd .i64 p1 x4) 1)), (6, .b true), (7, .i (bOr .i64 x3 (bShl .i64 (bAnd .i64 (IntKind.wrap .i64 y8) 127) (bMul .i64 7 x4)))), (8, .i x4)], [], []⟩ ?_
       refine Wp.ret ?_
       refine blkR ?_
       refine thenR ?_
       refine thenR ?_
       refine blkR ?_
       refine thenR ?_
       obtain rfl := oi h
       exact RetK [.i (bOr .i64 x3 (bShl .i64 (bAnd .i64 (IntKind.wrap .i64 y8) 127) (bMul .i64 7 x4))), .i (bAdd .i64 (bAdd .i64 p1 x4) 1), .b true] _ [] kr kr (.refl _) .nil
      ·refine Wp.rg [] [] ?_
       refine Runs.batch 3 kr ?_
       rcases tf ((IntKind.wrap .i64 y8) == 0) with hc | hc
       ·have h := cond_t h hc
        refine Runs.known 42 (v := true) kr hc ?_
        refine Runs.batch 4 kr ?_
        rcases tf (decide (x4 > 0)) with hc | hc
        ·have h := cond_t h hc
         refine Runs.known 46 (v := true) kr hc ?_
         refine Runs.alln ?_
         exact ⟨(p0, p1, x3, y8, x4, true), h, Le.of (mo := []) (mr := []) kr kr kr kr⟩
        have h := cond_f h hc
        refine Runs.known 46 (v := false) kr hc ?_
        refine Runs.alln ?_
        exact ⟨(p0, p1, x3, y8, x4, decide ((bOr .i64 x3 (bShl .i64 (bAnd .i64 (IntKind.wrap .i64 y8) 127) (bMul .i64 7 x4))) > 1000000000000)), h, Le.of (mo := []) (mr := []) kr kr kr kr⟩
       have h := cond_f h hc
       refine Runs.known 42 (v := false) kr hc ?_
       refine Runs.alln ?_
       exact ⟨(p0, p1, x3, y8, x4, decide ((bOr .i64 x3 (bShl .i64 (bAnd .i64 (IntKind.wrap .i64 y8) 127) (bMul .i64 7 x4))) > 1000000000000)), h, Le.of (mo := []) (mr := []) kr kr kr kr⟩
     refine Wp.skip ?_
     refine blkN ?_
     refine thenN ?_
     refine Wp.rg [] [] ?_
     refine Runs.alln ?_
     exact ⟨(p0, p1, bOr .i64 x3 (bShl .i64 (bAnd .i64 (IntKind.wrap .i64 y8) 127) (bMul .i64 7 x4)), bAdd .i64 x4 1), h, Le.of (mo := []) (mr := []) kr kr kr kr⟩
    ·refine Wp.rg [] [] ?_
     refine Runs.batch 3 kr ?_
     rcases tf (decide (p1 < 0)) with hc | hc
     ·have h := cond_t h hc
      refine Runs.known 16 (v := true) kr hc ?_
      refine Runs.alln ?_
      exact ⟨(p0, p1, x3, x4, true), h, Le.of (mo := []) (mr := []) kr kr kr kr⟩
     have h := cond_f h hc
     refine Runs.known 16 (v := false) kr hc ?_
     refine Runs.batch 2 kr ?_
     refine Runs.lenT (y := .s p0) (e := 5) (eInt .u8) p0 1 rfl rfl rfl kr kr kr kr kr ?_
     refine Runs.alln ?_
     exact ⟨(p0, p1, x3, x4, decide (p1 ≥ (bSub .i64 ((p0.length : Int)) x4))), h, Le.of (mo := []) (mr := []) kr kr kr kr⟩
   refine Wp.exit ?_
   refine thenE ?_
   refine thenE ?_
   refine blkE ?_
   refine thenN ?_
   exact ⟨(), h, Le.of (mo := []) (mr := []) kr kr kr kr⟩
theorem spec_l1In_ok (u : Nat) (p0 : Int) (p1 : Int) (p2 : Int) (r : Bool) (h : spec_l1In u p0 p1 p2 = some r) : CallOK Tryz.prog 94 [.one (.i p0), .one (.i p1), .one (.i p2)] (.one (.b r)) [] := by
 unfold spec_l1In at h
 refine CallOK.of_bodyK (fn := Tryz.f94) (m := false) [.i p0, .i p1, .i p2] kr rfl kr kr kr kr kr ?_
 refine Wp.sag ⟨[(0, .i p0), (1, .i p1), (2, .i p2), (6, .b false)], [], []⟩ ?_
 refine Wp.sb 4 ?_
 rcases tf (decide (p0 ≥ p1)) with hc | hc
 ·have h := cond_t h hc
  refine Runs.known 10 (v := true) kr hc ?_
  refine Runs.allf ⟨[(6, .b (decide (p0 ≤ p2)))], [], []⟩ ?_
  refine Wp.ret ?_
  obtain rfl := oi h
  exact RetK [.b (decide (p0 ≤ p2))] _ [] kr kr (.refl _) .nil
 have h := cond_f h hc
 refine Runs.known 10 (v := false) kr hc ?_
 refine Runs.allf ⟨[(6, .b false)], [], []⟩ ?_
 refine Wp.ret ?_
 obtain rfl := oi h
 exact RetK [.b false] _ [] kr kr (.refl _) .nil
theorem spec_SizeOk_ok (u : Nat) (p0 : Int) (p1 : Int) (r : Bool) (h : spec_SizeOk u p0 p1 = some r) : CallOK Tryz.prog 56 [.one (.i p0), .one (.i p1)] (.one (.b r)) [] := by
 unfold spec_SizeOk at h
 refine CallOK.of_bodyK (fn := Tryz.f56) (m := false) [.i p0, .i p1] kr rfl kr kr kr kr kr ?_
 refine Wp.sag ⟨[(0, .i p0), (1, .i p1), (4, .b false)], [], []⟩ ?_
 refine Wp.sb 1 ?_
 obtain ⟨r1, e_r1, h⟩ := bind_some h
 refine Runs.ck 6 [.i p0, .i 2, .i 6] (spec_l1In_ok u p0 2 6 r1 e_r1) ?_
 refine Runs.batch 1 kr ?_
 rcases tf (r1) with hc | hc
 ·have h := cond_t h hc
  refine Runs.known 7 (v := true) kr hc ?_
  refine Runs.batch 3 kr ?_
  obtain ⟨r2, e_r2, h⟩ := bind_some h
  refine Runs.ck 11 [.i p1, .i 0, .i (bMul .i64 p0 40)] (spec_l1In_ok u p1 0 (bMul .i64 p0 40) r2 e_r2) ?_
  refine Runs.allf ⟨[(4, .b r2)], [], []⟩ ?_
  refine Wp.ret ?_
  obtain rfl := oi h
  exact RetK [.b r2] _ [] kr kr (.refl _) .nil
 have h := cond_f h hc
 refine Runs.known 7 (v := false) kr hc ?_
 refine Runs.allf ⟨[(4, .b false)], [], []⟩ ?_
 refine Wp.ret ?_
 obtain rfl := oi h
 exact RetK [.b false] _ [] kr kr (.refl _) .nil
theorem spec_CeilDiv_ok (u : Nat) (p0 : Int) (p1 : Int) (r : Int) (h : spec_CeilDiv u p0 p1 = some r) : CallOK Tryz.prog 183 [.one (.i p0), .one (.i p1)] (.one (.i r)) [] := by
 unfold spec_CeilDiv at h
 refine CallOK.of_bodyK (fn := Tryz.f183) (m := false) [.i p0, .i p1] kr rfl kr kr kr kr kr ?_
 refine Wp.sag ⟨[(0, .i p0), (1, .i p1), (4, .i 0)], [], []⟩ ?_
 refine Wp.seq ?_
 refine Wp.seqJ (α := Int × Int × Bool) (fun a => ⟨[(0, .i a.1), (1, .i a.2.1), (4, .i 0), (12, .b a.2.2)], [], []⟩) (fun a => spec_CeilDiv_j1 u a.1 a.2.1 a.2.2 = some r) ?_ ?_
 ·rintro ⟨p0, p1, x3⟩ h
  change spec_CeilDiv_j1 u p0 p1 x3 = some r at h
  unfold spec_CeilDiv_j1 at h
  refine Wp.c2 h (fun h => ?_) (fun h => ?_)
  ·refine Wp.sag ⟨[(0, .i p0), (1, .i p1), (4, .i 0)], [], []⟩ ?_
   refine Wp.ret ?_
   refine thenR ?_
   obtain rfl := oi h
   exact RetK [.i 0] _ [] kr kr (.refl _) .nil
  refine Wp.sk ?_
  refine Wp.sb 5 ?_
  obtain ⟨_, e_4, h⟩ := bind_some h
  refine Runs.num .quo (.int .i64 (bSub .i64 (bAdd .i64 p0 p1) 1)) (.int .i64 p1) (.int .i64 (bQuo .i64 (bSub .i64 (bAdd .i64 p0 p1) 1) p1)) rfl kr kr kr kr (bin_quo _ _ _ _ (by simpa using chk_some e_4)) ?_
  refine Runs.allf ⟨[(4, .i (bQuo .i64 (bSub .i64 (bAdd .i64 p0 p1) 1) p1))], [], []⟩ ?_
  refine Wp.ret ?_
  obtain rfl := oi h
  exact RetK [.i (bQuo .i64 (bSub .i64 (bAdd .i64 p0 p1) 1) p1)] _ [] kr kr (.refl _) .nil
 ·refine Wp.rg [] [] ?_
  refine Runs.batch 1 kr ?_
  obtain ⟨r1, e_r1, h⟩ := bind_some h
  refine Runs.ck 6 [.i p0, .i 0, .i 1000000000000] (spec_l1In_ok u p0 0 1000000000000 r1 e_r1) ?_
  refine Runs.batch 2 kr ?_
  rcases tf (!r1) with hc | hc
  ·have h := cond_t h hc
   refine Runs.known 8 (v := true) kr hc ?_
   refine Runs.alln ?_
   exact ⟨(p0, p1, true), h, Le.of (mo := []) (mr := []) kr kr kr kr⟩
  have h := cond_f h hc
  refine Runs.known 8 (v := false) kr hc ?_
  refine Runs.batch 1 kr ?_
  obtain ⟨r2, e_r2, h⟩ := bind_some h
  refine Runs.ck 10 [.i p1, .i 1, .i 1000000000000] (spec_l1In_ok u p1 1 1000000000000 r2 e_r2) ?_
  refine Runs.alln ?_
  exact ⟨(p0, p1, !r2), h, Le.of (mo := []) (mr := []) kr kr kr kr⟩
theorem spec_Blocks_ok (u : Nat) (p0 : Int) (p1 : Int) (r : Int) (h : spec_Blocks u p0 p1 = some r) : CallOK Tryz.prog 138 [.one (.i p0), .one (.i p1)] (.one (.i r)) [] := by
 unfold spec_Blocks at h
 refine CallOK.of_bodyK (fn := Tryz.f138) (m := false) [.i p0, .i p1] kr rfl kr kr kr kr kr ?_
 refine Wp.sag ⟨[(0, .i p0), (1, .i p1), (4, .i 0)], [], []⟩ ?_
 refine Wp.seq ?_
 refine Wp.sb 2 ?_
 obtain ⟨r1, e_r1, h⟩ := bind_some h
 refine Runs.ck 7 [.i p0, .i p1] (spec_SizeOk_ok u p0 p1 r1 e_r1) ?_
 refine Runs.allf ⟨[(0, .i p0), (1, .i p1), (4, .i 0), (8, .b (!r1))], [], []⟩ ?_
 refine Wp.c2 h (fun h => ?_) (fun h => ?_)
 ·refine Wp.sag ⟨[(0, .i p0), (1, .i p1), (4, .i 0)], [], []⟩ ?_
  refine Wp.ret ?_
  refine thenR ?_
  obtain rfl := oi h
  exact RetK [.i 0] _ [] kr kr (.refl _) .nil
 refine Wp.sk ?_
 refine Wp.sb 2 ?_
 obtain ⟨r2, e_r2, h⟩ := bind_some h
 refine Runs.ck 11 [.i p1, .i p0] (spec_CeilDiv_ok u p1 p0 r2 e_r2) ?_
 refine Runs.allf ⟨[(4, .i r2)], [], []⟩ ?_
 refine Wp.ret ?_
 obtain rfl := oi h
 exact RetK [.i r2] _ [] kr kr (.refl _) .nil
theorem spec_l6GetSum_ok (u : Nat) (p0 : List Int) (p1 : Int) (r : Int × Int × Bool) (h : spec_l6GetSum u p0 p1 = some r) : CallOK Tryz.prog 195 [.one (.s p0), .one (.i p1)] (.tup [.one (.i r.1), .one (.i r.2.1), .one (.b r.2.2)]) [] := by
 unfold spec_l6GetSum at h
 refine CallOK.of_bodyK (fn := Tryz.f195) (m := false) [.s p0, .i p1] kr rfl kr kr kr kr kr ?_
 refine Wp.sag ⟨[(0, .s p0), (1, .i p1), (4, .i 0), (5, .i 0), (6, .b false)], [], []⟩ ?_
 refine Wp.sag ⟨[(0, .s p0), (1, .i p1), (4, .i 0), (5, .i 0), (6, .b false), (7, .i 0)], [], []⟩ ?_
 refine Wp.seqJ (α := Unit) (fun a => ⟨[(4, .i 0), (5, .i 0), (6, .b false)], [], []⟩) (fun a => spec_l6GetSum_j1 u = some r) ?_ ?_
 ·rintro ⟨⟩ h
  change spec_l6GetSum_j1 u = some r at h
  unfold spec_l6GetSum_j1 at h
  refine Wp.sag ⟨[(4, .i 0), (5, .i 0), (6, .b false)], [], []⟩ ?_
  refine Wp.ret ?_
  obtain rfl := oi h
  exact RetK [.i 0, .i 0, .b false] _ [] kr kr (.refl _) .nil
 ·refine Wp.sag ⟨[(0, .s p0), (1, .i p1), (4, .i 0), (5, .i 0), (6, .b false), (7, .i 0), (8, .i 0)], [], []⟩ ?_
  refine Wp.block ?_
  refine Wp.loopF (α := (List Int) × Int × Int × Int) (fun a => ⟨[(0, .s a.1), (1, .i a.2.1), (4, .i 0), (5, .i 0), (6, .b false), (7, .i a.2.2.1), (8, .i a.2.2.2)], [], []⟩) (fun k_spec_l6GetSum_l2 a => spec_l6GetSum_l2 u k_spec_l6GetSum_l2 a.1 a.2.1 a.2.2.1 a.2.2.2 = some r) ?_ ?_ u (p0, p1, 0, 0) h (Le.of (mo := []) (mr := []) kr kr kr kr)
  ·intro a h; unfold spec_l6GetSum_l2 at h; cases h
  ·rintro k_spec_l6GetSum_l2 ⟨p0, p1, x3, x4⟩ h
   change spec_l6GetSum_l2 u (k_spec_l6GetSum_l2 + 1) p0 p1 x3 x4 = some r at h
   rw [spec_l6GetSum_l2] at h
   refine Wp.seq ?_
   refine Wp.sag ⟨[(0, .s p0), (1, .i p1), (4, .i 0), (5, .i 0), (6, .b false), (7, .i x3), (8, .i x4), (11, .b (decide (x4 < 8)))], [], []⟩ ?_
   refine Wp.c2 h (fun h => ?_) (fun h => ?_)
   ·refine Wp.sk ?_
    refine Wp.seq ?_
    refine Wp.block ?_
    refine Wp.seq ?_
    refine Wp.sb 2 ?_
    refine Runs.lenT (y := .s p0) (e := 5) (eInt .u8) p0 1 rfl rfl rfl kr kr kr kr kr ?_
    refine Runs.allf ⟨[(0, .s p0), (1, .i p1), (4, .i 0), (5, .i 0), (6, .b false), (7, .i x3), (8, .i x4), (19, .b (decide (p1 ≥ (bSub .i64 ((p0.length : Int)) x4))))], [], []⟩ ?_
    refine Wp.c2 h (fun h => ?_) (fun h => ?_)
    ·refine Wp.sag ⟨[(0, .s p0), (1, .i p1), (4, .i 0), (5, .i 0), (6, .b false), (7, .i x3), (8, .i x4)], [], []⟩ ?_
     refine Wp.ret ?_
     refine thenR ?_
     refine blkR ?_
     refine thenR ?_
     refine thenR ?_
     refine blkR ?_
     refine thenR ?_
     obtain rfl := oi h
     exact RetK [.i 0, .i 0, .b false] _ [] kr kr (.refl _) .nil
    refine Wp.sk ?_
    refine Wp.sb 4 ?_
    obtain ⟨y7, e_y7, h⟩ := bind_some h
    refine Runs.idxT (e := 5) (kk := .i64) (sz := 1) (eInt .u8) p0 (bAdd .i64 p1 x4) rfl kr kr kr kr kr kr e_y7 ?_
    refine Runs.allf ⟨[(0, .s p0), (1, .i p1), (4, .i 0), (5, .i 0), (6, .b false), (7, .i x3), (8, .i x4), (9, .i (IntKind.wrap .i64 y7))], [], []⟩ ?_
    refine Wp.sb 5 ?_
    obtain ⟨_, e_8, h⟩ := bind_some h
    refine Runs.num .shl (.int .i64 (bAnd .i64 (IntKind.wrap .i64 y7) 127)) (.int .i64 (bMul .i64 7 x4)) (.int .i64 (bShl .i64 (bAnd .i64 (IntKind.wrap .i64 y7) 127) (bMul .i64 7 x4))) rfl kr kr kr kr (bin_shl _ _ _ _ _ (chk_some e_8)) ?_
    refine Runs.allf ⟨[(0, .s p0), (1, .i p1), (4, .i 0), (5, .i 0), (6, .b false), (7, .i (bOr .i64 x3 (bShl .i64 (bAnd .i64 (IntKind.wrap .i64 y7) 127) (bMul .i64 7 x4)))), (8, .i x4), (9, .i (IntKind.wrap .i64 y7))], [], []⟩ ?_
    refine Wp.sag ⟨[(0, .s p0), (1, .i p1), (4, .i 0), (5, .i 0), (6, .b false), (7, .i (bOr .i64 x3 (bShl .i64 (bAnd .i64 (IntKind.wrap .i64 y7) 127) (bMul .i64 7 x4)))), (8, .i x4), (9, .i (IntKind.wrap .i64 y7)), (35, .b (decide ((IntKind.wrap .i64 y7) < 128)))], [], []⟩ ?_
    refine Wp.c2 h (fun h => ?_) (fun h => ?_)
    ·refine Wp.sb 8 ?_
     rcases tf (decide ((IntKind.wrap .i64 y7) > 0)) with hc | hc
     ·have h := cond_t h hc
      refine Runs.known 43 (v := true) kr hc ?_
      refine Runs.allf ⟨[(0, .s p0), (1, .i p1), (4, .i (bOr .i64 x3 (bShl .i64 (bAnd .i64 (IntKind.wrap .i64 y7) 127) (bMul .i64 7 x4)))), (5, .i (bAdd .i64 (bAdd .i64 p1 x4) 1)), (6, .b true), (7, .i (bOr .i64 x3 (bShl .i64 (bAnd .i64 (IntKind.wrap .i64 y7) 127) (bMul .i64 7 x4)))), (8, .i x4)], [], []⟩ ?_
      refine Wp.ret ?_
      refine blkR ?_
      refine thenR ?_
      refine thenR ?_
      refine blkR ?_
      refine thenR ?_
      obtain rfl := oi h
      exact RetK [.i (bOr .i64 x3 (bShl .i64 (bAnd .i64 (IntKind.wrap .i64 y7) 127) (bMul .i64 7 x4))), .i (bAdd .i64 (bAdd .i64 p1 x4) 1), .b true] _ [] kr kr (.refl _) .nil
     have h := cond_f h hc
     refine Runs.known 43 (v := false) kr hc ?_
     refine Runs.allf ⟨[(0, .s p0), (1, .i p1), (4, .i (bOr .i64 x3 (bShl .i64 (bAnd .i64 (IntKind.wrap .i64 y7) 127) (bMul .i64 7 x4)))), (5, .i (bAdd .i64 (bAdd .i64 p1 x4) 1)), (6, .b (x4 == 0)), (7, .i (bOr .i64 x3 (bShl .i64 (bAnd .i64 (IntKind.wrap .i64 y7) 127) (bMul .i64 7 x4)))), (8, .i x4), (44, .i x4), (45, .b (x4 == 0))], [], []⟩ ?_
     refine Wp.ret ?_
     refine blkR ?_
     refine thenR ?_
     refine thenR ?_
     refine blkR ?_
     refine thenR ?_
     obtain rfl := oi h
     exact RetK [.i (bOr .i64 x3 (bShl .i64 (bAnd .i64 (IntKind.wrap .i64 y7) 127) (bMul .i64 7 x4))), .i (bAdd .i64 (bAdd .i64 p1 x4) 1), .b (x4 == 0)] _ [] kr kr (.refl _) .nil
    refine Wp.skip ?_
    refine blkN ?_
    refine thenN ?_
    refine Wp.rg [] [] ?_
    refine Runs.alln ?_
    exact ⟨(p0, p1, bOr .i64 x3 (bShl .i64 (bAnd .i64 (IntKind.wrap .i64 y7) 127) (bMul .i64 7 x4)), bAdd .i64 x4 1), h, Le.of (mo := []) (mr := []) kr kr kr kr⟩
   refine Wp.exit ?_
   refine thenE ?_
   refine thenE ?_
   refine blkE ?_
   refine thenN ?_
   exact ⟨(), h, Le.of (mo := []) (mr := []) kr kr kr kr⟩
theorem spec_BytesOf_ok (u : Nat) (p0 : Int) (r : (List Int) × Bool) (h : spec_BytesOf u p0 = some r) : CallOK Tryz.prog 184 [.one (.i p0)] (.tup [.one (.ow 5 1 (r.1.map (eInt .u8))), .one (.b r.2)]) [] := by
 unfold spec_BytesOf at h
 refine CallOK.of_bodyK (fn := Tryz.f184) (m := true) [.i p0] kr rfl kr kr kr kr kr ?_
 refine Wp.sag ⟨[(0, .i p0), (2, .nil), (3, .b false)], [], []⟩ ?_
 refine Wp.seq ?_
 refine Wp.sb 1 ?_
 obtain ⟨r1, e_r1, h⟩ := bind_some h
 refine Runs.ck 6 [.i p0, .i 1, .i 562949953421311] (spec_l1In_ok u p0 1 562949953421311 r1 e_r1) ?_
 refine Runs.allf ⟨[(0, .i p0), (2, .nil), (3, .b false), (7, .b (!r1))], [], []⟩ ?_
 refine Wp.c2 h (fun h => ?_) (fun h => ?_)
 ·refine Wp.sag ⟨[(0, .i p0), (2, .own 524288), (3, .b false)], [], [(524288, .live 5 1 ((([] : List Int)).map (eInt .u8)))]⟩ ?_
  refine Wp.ret ?_
  refine thenR ?_
  obtain rfl := oi h
  exact RetK [.own 524288, .b false] _ [] kr kr (.refl _) .nil
 refine Wp.sk ?_
 refine Wp.sag ⟨[(0, .i p0), (2, .nil), (3, .b false), (4, .own 589824)], [], [(589824, .live 5 1 ((([] : List Int)).map (eInt .u8)))]⟩ ?_
 refine Wp.seqJ (α := (List Int)) (fun a => ⟨[(2, .nil), (3, .b false), (4, .own 262145)], [], [(262145, .live 5 1 (a.map (eInt .u8)))]⟩) (fun a => spec_BytesOf_j1 u a = some r) ?_ ?_
 ·rintro x8 h
  change spec_BytesOf_j1 u x8 = some r at h
  unfold spec_BytesOf_j1 at h
  refine Wp.sag ⟨[(2, .own 262145), (3, .b true)], [], [(262145, .live 5 1 (x8.map (eInt .u8)))]⟩ ?_
  refine Wp.ret ?_
  obtain rfl := oi h
  exact RetK [.own 262145, .b true] _ [] kr kr (.refl _) .nil
 ·refine Wp.block ?_
  refine Wp.loopF (α := Int × (List Int)) (fun a => ⟨[(0, .i a.1), (2, .nil), (3, .b false), (4, .own 262145)], [], [(262145, .live 5 1 (a.2.map (eInt .u8)))]⟩) (fun k_spec_BytesOf_l2 a => spec_BytesOf_l2 u k_spec_BytesOf_l2 a.1 a.2 = some r) ?_ ?_ u (p0, ([] : List Int)) h (Le.of (mo := []) (mr := [(262145, 589824)]) kr kr kr kr)
  ·intro a h; unfold spec_BytesOf_l2 at h; cases h
  ·rintro k_spec_BytesOf_l2 ⟨x4, x5⟩ h
   change spec_BytesOf_l2 u (k_spec_BytesOf_l2 + 1) x4 x5 = some r at h
   rw [spec_BytesOf_l2] at h
   refine Wp.seq ?_
   refine Wp.sag ⟨[(0, .i x4), (2, .nil), (3, .b false), (4, .own 262145), (11, .b (decide (x4 > 1)))], [], [(262145, .live 5 1 (x5.map (eInt .u8)))]⟩ ?_
   refine Wp.c2 h (fun h => ?_) (fun h => ?_)
   ·refine Wp.sk ?_
    refine Wp.block ?_
    refine Wp.seq ?_
    refine Wp.sag ⟨[(0, .i x4), (2, .nil), (3, .b false), (4, .own 262145), (13, .b (decide (x4 < 256)))], [], [(262145, .live 5 1 (x5.map (eInt .u8)))]⟩ ?_
    refine Wp.c2 h (fun h => ?_) (fun h => ?_)
    ·refine Wp.sag ⟨[(0, .i x4), (2, .own 917504), (3, .b false), (4, .own 262145)], [], [(262145, .live 5 1 (x5.map (eInt .u8))), (917504, .live 5 1 ((([] : List Int)).map (eInt .u8)))]⟩ ?_
     refine Wp.ret ?_
     refine thenR ?_
     refine blkR ?_
     refine thenR ?_
     refine blkR ?_
     refine thenR ?_
     obtain rfl := oi h
     exact RetK [.own 917504, .b false] _ [] kr kr (.refl _) .nil
    refine Wp.sk ?_
    refine Wp.sb 5 ?_
    obtain ⟨_, e_8, h⟩ := bind_some h
    refine Runs.appT (y := .own 262145) (eInt .u8) 20 1 5 1 1 1179648 ([IntKind.wrap .u8 (bAnd .i64 x4 255)]) x5 rfl rfl rfl rfl kr kr kr kr kr kr (.inl rfl) kr (of_decide_eq_true (chk_some e_8)) kr kr ?_
    refine Runs.allf ⟨[(0, .i x4), (2, .nil), (3, .b false), (4, .own 1310720)], [], [(1310720, .live 5 1 ((([IntKind.wrap .u8 (bAnd .i64 x4 255)]) ++ x5).map (eInt .u8)))]⟩ ?_
    refine Wp.rg [] [] ?_
    refine Runs.all kr ?_
    refine blkN ?_
    refine thenN ?_
    exact ⟨(bShr .i64 x4 8, ([IntKind.wrap .u8 (bAnd .i64 x4 255)]) ++ x5), h, Le.of (mo := []) (mr := [(262145, 1310720)]) kr kr kr kr⟩
   refine Wp.exit ?_
   refine thenE ?_
   refine thenE ?_
   refine blkE ?_
   refine thenN ?_
   exact ⟨x5, h, Le.of (mo := []) (mr := []) kr kr kr kr⟩
theorem spec_WeakOf_ok (u : Nat) (p0 : List Int) (r : Int) (h : spec_WeakOf u p0 = some r) : CallOK Tryz.prog 132 [.one (.s p0)] (.one (.i r)) [] := by
 unfold spec_WeakOf at h
 refine CallOK.of_bodyK (fn := Tryz.f132) (m := false) [.s p0] kr rfl kr kr kr kr kr ?_
 refine Wp.sag ⟨[(0, .s p0), (2, .i 0)], [], []⟩ ?_
 refine Wp.sag ⟨[(0, .s p0), (2, .i 0), (3, .i 0)], [], []⟩ ?_
 refine Wp.sag ⟨[(0, .s p0), (2, .i 0), (3, .i 0), (4, .i 0)], [], []⟩ ?_
 refine Wp.seqJ (α := Int × Int) (fun a => ⟨[(2, .i 0), (3, .i a.1), (4, .i a.2)], [], []⟩) (fun a => spec_WeakOf_j1 u a.1 a.2 = some r) ?_ ?_
 ·rintro ⟨x11, x12⟩ h
  change spec_WeakOf_j1 u x11 x12 = some r at h
  unfold spec_WeakOf_j1 at h
  refine Wp.sag ⟨[(2, .i (bAdd .i64 x11 (bMul .i64 251 x12)))], [], []⟩ ?_
  refine Wp.ret ?_
  obtain rfl := oi h
  exact RetK [.i (bAdd .i64 x11 (bMul .i64 251 x12))] _ [] kr kr (.refl _) .nil
 ·refine Wp.sag ⟨[(0, .s p0), (2, .i 0), (3, .i 0), (4, .i 0), (5, .i 0)], [], []⟩ ?_
  refine Wp.block ?_
  refine Wp.loopF (α := (List Int) × Int × Int × Int) (fun a => ⟨[(0, .s a.1), (2, .i 0), (3, .i a.2.1), (4, .i a.2.2.1), (5, .i a.2.2.2)], [], []⟩) (fun k_spec_WeakOf_l2 a => spec_WeakOf_l2 u k_spec_WeakOf_l2 a.1 a.2.1 a.2.2.1 a.2.2.2 = some r) ?_ ?_ u (p0, 0, 0, 0) h (Le.of (mo := []) (mr := []) kr kr kr kr)
  ·intro a h; unfold spec_WeakOf_l2 at h; cases h
  ·rintro k_spec_WeakOf_l2 ⟨p0, x4, x5, x6⟩ h
   change spec_WeakOf_l2 u (k_spec_WeakOf_l2 + 1) p0 x4 x5 x6 = some r at h
   rw [spec_WeakOf_l2] at h
   refine Wp.seq ?_
   refine Wp.sb 2 ?_
   refine Runs.lenT (y := .s p0) (e := 5) (eInt .u8) p0 1 rfl rfl rfl kr kr kr kr kr ?_
   refine Runs.allf ⟨[(0, .s p0), (2, .i 0), (3, .i x4), (4, .i x5), (5, .i x6), (9, .b (decide (x6 < ((p0.length : Int)))))], [], []⟩ ?_
   refine Wp.c2 h (fun h => ?_) (fun h => ?_)
   ·refine Wp.sk ?_
    refine Wp.seq ?_
    refine Wp.block ?_
    refine Wp.sb 3 ?_
    obtain ⟨y10, e_y10, h⟩ := bind_some h
    refine Runs.idxT (e := 5) (kk := .i64) (sz := 1) (eInt .u8) p0 x6 rfl kr kr kr kr kr kr e_y10 ?_
    refine Runs.allf ⟨[(0, .s p0), (2, .i 0), (3, .i (bRem .i64 (bAdd .i64 x4 (IntKind.wrap .i64 y10)) 251)), (4, .i x5), (5, .i x6)], [], []⟩ ?_
    refine Wp.rg [] [] ?_
    refine Runs.all kr ?_
    refine blkN ?_
    refine thenN ?_
    refine Wp.rg [] [] ?_
    refine Runs.alln ?_
    exact ⟨(p0, bRem .i64 (bAdd .i64 x4 (IntKind.wrap .i64 y10)) 251, bRem .i64 (bAdd .i64 x5 (bRem .i64 (bAdd .i64 x4 (IntKind.wrap .i64 y10)) 251)) 251, bAdd .i64 x6 1), h, Le.of (mo := []) (mr := []) kr kr kr kr⟩
   refine Wp.exit ?_
   refine thenE ?_
   refine thenE ?_
   refine blkE ?_
   refine thenN ?_
   exact ⟨(x4, x5), h, Le.of (mo := []) (mr := []) kr kr kr kr⟩
theorem spec_SumOf_ok (u : Nat) (p0 : List Int) (r : Sum) (h : spec_SumOf u p0 = some r) : CallOK Tryz.prog 140 [.one (.s p0)] (.agg [.i r.fW, .i r.fS]) [] := by
 unfold spec_SumOf at h
 refine CallOK.of_bodyK (fn := Tryz.f140) (m := false) [.s p0] kr rfl kr kr kr kr kr ?_
 refine Wp.sag ⟨[(0, .s p0), (2, .obj 2 0)], [(2, [.i 0, .i 0])], []⟩ ?_
 refine Wp.seq ?_
 refine Wp.sb 1 ?_
 refine Runs.lenT (y := .s p0) (e := 5) (eInt .u8) p0 1 rfl rfl rfl kr kr kr kr kr ?_
 refine Runs.allf ⟨[(0, .s p0), (2, .obj 2 0), (7, .b (decide (((p0.length : Int)) > 6)))], [(2, [.i 0, .i 0])], []⟩ ?_
 refine Wp.c2 h (fun h => ?_) (fun h => ?_)
 ·refine Wp.sag ⟨[(0, .s p0), (2, .obj 2 0)], [(2, [.i 0, .i 0])], []⟩ ?_
  refine Wp.ret ?_
  refine thenR ?_
  obtain rfl := oi h
  exact RetK [.agg [.i 0, .i 0]] _ [] kr kr (.refl _) .nil
 refine Wp.sk ?_
 refine Wp.sag ⟨[(0, .s p0), (2, .obj 2 0), (3, .i 1)], [(2, [.i 0, .i 0])], []⟩ ?_
 refine Wp.seqJ (α := (List Int) × Int) (fun a => ⟨[(0, .s a.1), (2, .obj 2 0), (3, .i a.2)], [(2, [.i 0, .i 0])], []⟩) (fun a => spec_SumOf_j1 u a.1 a.2 = some r) ?_ ?_
 ·rintro ⟨p0, x8⟩ h
  change spec_SumOf_j1 u p0 x8 = some r at h
  unfold spec_SumOf_j1 at h
  refine Wp.sb 1 ?_
  obtain ⟨r9, e_r9, h⟩ := bind_some h
  refine Runs.ck 24 [.s p0] (spec_WeakOf_ok u p0 r9 e_r9) ?_
  refine Runs.allf ⟨[(2, .obj 2 0)], [(2, [.i r9, .i x8])], []⟩ ?_
  refine Wp.ret ?_
  obtain rfl := oi h
  exact RetK [.agg [.i r9, .i x8]] _ [] kr kr (.refl _) .nil
 ·refine Wp.sag ⟨[(0, .s p0), (2, .obj 2 0), (3, .i 1), (4, .i 0)], [(2, [.i 0, .i 0])], []⟩ ?_
  refine Wp.block ?_
  refine Wp.loopF (α := (List Int) × Int × Int) (fun a => ⟨[(0, .s a.1), (2, .obj 2 0), (3, .i a.2.1), (4, .i a.2.2)], [(2, [.i 0, .i 0])], []⟩) (fun k_spec_SumOf_l2 a => spec_SumOf_l2 u k_spec_SumOf_l2 a.1 a.2.1 a.2.2 = some r) ?_ ?_ u (p0, 1, 0) h (Le.of (mo := []) (mr := []) kr kr kr kr)
  ·intro a h; unfold spec_SumOf_l2 at h; cases h
  ·rintro k_spec_SumOf_l2 ⟨p0, x3, x4⟩ h
   change spec_SumOf_l2 u (k_spec_SumOf_l2 + 1) p0 x3 x4 = some r at h
   rw [spec_SumOf_l2] at h
   refine Wp.seq ?_
   refine Wp.sb 2 ?_
   refine Runs.lenT (y := .s p0) (e := 5) (eInt .u8) p0 1 rfl rfl rfl kr kr kr kr kr ?_
   refine Runs.allf ⟨[(0, .s p0), (2, .obj 2 0), (3, .i x3), (4, .i x4), (12, .b (decide (x4 < ((p0.length : Int)))))], [(2, [.i 0, .i 0])], []⟩ ?_
   refine Wp.c2 h (fun h => ?_) (fun h => ?_)
   ·refine Wp.sk ?_
    refine Wp.seq ?_
    refine Wp.block ?_
    refine Wp.rg [] [] ?_
    refine Runs.batch 4 kr ?_
    obtain ⟨y7, e_y7, h⟩ := bind_some h
    refine Runs.idxT (e := 5) (kk := .i64) (sz := 1) (eInt .u8) p0 x4 rfl kr kr kr kr kr kr e_y7 ?_
    refine Runs.all kr ?_
    refine blkN ?_
    refine thenN ?_
    refine Wp.rg [] [] ?_
    refine Runs.alln ?_
    exact ⟨(p0, bAdd .i64 (bMul .i64 256 x3) (IntKind.wrap .i64 y7), bAdd .i64 x4 1), h, Le.of (mo := []) (mr := []) kr kr kr kr⟩
   refine Wp.exit ?_
   refine thenE ?_
   refine thenE ?_
   refine blkE ?_
   refine thenN ?_
   exact ⟨(p0, x3), h, Le.of (mo := []) (mr := []) kr kr kr kr⟩
theorem spec_Least_ok (u : Nat) (p0 : Int) (p1 : Int) (r : Int) (h : spec_Least u p0 p1 = some r) : CallOK Tryz.prog 146 [.one (.i p0), .one (.i p1)] (.one (.i r)) [] := by
 unfold spec_Least at h
 refine CallOK.of_bodyK (fn := Tryz.f146) (m := false) [.i p0, .i p1] kr rfl kr kr kr kr kr ?_
 refine Wp.sag ⟨[(0, .i p0), (1, .i p1), (4, .i 0)], [], []⟩ ?_
 refine Wp.seq ?_
 refine Wp.sag ⟨[(0, .i p0), (1, .i p1), (4, .i 0), (7, .b (decide (p1 < p0)))], [], []⟩ ?_
 refine Wp.c2 h (fun h => ?_) (fun h => ?_)
 ·refine Wp.sag ⟨[(0, .i p0), (4, .i p1)], [], []⟩ ?_
  refine Wp.ret ?_
  refine thenR ?_
  obtain rfl := oi h
  exact RetK [.i p1] _ [] kr kr (.refl _) .nil
 refine Wp.sk ?_
 refine Wp.sag ⟨[(4, .i p0)], [], []⟩ ?_
 refine Wp.ret ?_
 obtain rfl := oi h
 exact RetK [.i p0] _ [] kr kr (.refl _) .nil
theorem spec_SpanOf_ok (u : Nat) (p0 : Int) (p1 : Int) (p2 : Int) (r : Int × Int) (h : spec_SpanOf u p0 p1 p2 = some r) : CallOK Tryz.prog 99 [.one (.i p0), .one (.i p1), .one (.i p2)] (.tup [.one (.i r.1), .one (.i r.2)]) [] := by
 unfold spec_SpanOf at h
 refine CallOK.of_bodyK (fn := Tryz.f99) (m := false) [.i p0, .i p1, .i p2] kr rfl kr kr kr kr kr ?_
 refine Wp.sag ⟨[(0, .i p0), (1, .i p1), (2, .i p2), (6, .i 0), (7, .i 0)], [], []⟩ ?_
 refine Wp.seq ?_
 refine Wp.sb 3 ?_
 obtain ⟨r1, e_r1, h⟩ := bind_some h
 refine Runs.ck 11 [.i p0, .i p1] (spec_Blocks_ok u p0 p1 r1 e_r1) ?_
 refine Runs.batch 1 kr ?_
 obtain ⟨r2, e_r2, h⟩ := bind_some h
 refine Runs.ck 13 [.i p2, .i 0, .i (bSub .i64 r1 1)] (spec_l1In_ok u p2 0 (bSub .i64 r1 1) r2 e_r2) ?_
 refine Runs.allf ⟨[(0, .i p0), (1, .i p1), (2, .i p2), (6, .i 0), (7, .i 0), (14, .b (!r2))], [], []⟩ ?_
 refine Wp.c2 h (fun h => ?_) (fun h => ?_)
 ·refine Wp.sag ⟨[(0, .i p0), (1, .i p1), (2, .i p2), (6, .i 0), (7, .i 0)], [], []⟩ ?_
  refine Wp.ret ?_
  refine thenR ?_
  obtain rfl := oi h
  exact RetK [.i 0, .i 0] _ [] kr kr (.refl _) .nil
 refine Wp.sk ?_
 refine Wp.sb 9 ?_
 obtain ⟨r3, e_r3, h⟩ := bind_some h
 refine Runs.ck 24 [.i p0, .i (bSub .i64 p1 (bMul .i64 p2 p0))] (spec_Least_ok u p0 (bSub .i64 p1 (bMul .i64 p2 p0)) r3 e_r3) ?_
 refine Runs.allf ⟨[(6, .i (bMul .i64 p2 p0)), (7, .i r3)], [], []⟩ ?_
 refine Wp.ret ?_
 obtain rfl := oi h
 exact RetK [.i (bMul .i64 p2 p0), .i r3] _ [] kr kr (.refl _) .nil
theorem spec_ManOk_ok (u : Nat) (p0 : Manifest) (r : Bool) (h : spec_ManOk u p0 = some r) : CallOK Tryz.prog 141 [.agg [.i p0.fGen, .i p0.fSize, .i p0.fLen, .t (.sl 2 (p0.fSums.map Sum.enc))]] (.one (.b r)) [] := by
 unfold spec_ManOk at h
 refine CallOK.of_bodyK (fn := Tryz.f141) (m := false) [.agg ((Manifest.enc p0).map .t)] kr rfl kr kr kr kr kr ?_
 refine Wp.sag ⟨[(1, .obj 1 0), (2, .b false)], [(1, ((Manifest.enc p0).map .t))], []⟩ ?_
 refine Wp.seq ?_
 refine Wp.sag ⟨[(1, .obj 1 0), (2, .b false), (10, .b (p0.fGen == 0))], [(1, ((Manifest.enc p0).map .t))], []⟩ ?_
 refine Wp.c2 h (fun h => ?_) (fun h => ?_)
 ·refine Wp.sb 4 ?_
  rcases tf (p0.fSize == 0) with hc | hc
  ·have h := cond_t h hc
   refine Runs.known 14 (v := true) kr hc ?_
   refine Runs.batch 5 kr ?_
   rcases tf (p0.fLen == 0) with hc | hc
   ·have h := cond_t h hc
    refine Runs.known 19 (v := true) kr hc ?_
    refine Runs.batch 2 kr ?_
    refine Runs.lenT (y := .t (.sl 2 (p0.fSums.map Sum.enc))) (e := 189) Sum.enc p0.fSums 2 rfl rfl rfl kr kr kr kr kr ?_
    refine Runs.allf ⟨[(1, .obj 1 0), (2, .b (((p0.fSums.length : Int)) == 0))], [(1, ((Manifest.enc p0).map .t))], []⟩ ?_
    refine Wp.ret ?_
    refine thenR ?_
    obtain rfl := oi h
    exact RetK [.b (((p0.fSums.length : Int)) == 0)] _ [] kr kr (.refl _) .nil
   have h := cond_f h hc
   refine Runs.known 19 (v := false) kr hc ?_
   refine Runs.allf ⟨[(1, .obj 1 0), (2, .b false)], [(1, ((Manifest.enc p0).map .t))], []⟩ ?_
   refine Wp.ret ?_
   refine thenR ?_
   obtain rfl := oi h
   exact RetK [.b false] _ [] kr kr (.refl _) .nil
  have h := cond_f h hc
  refine Runs.known 14 (v := false) kr hc ?_
  refine Runs.allf ⟨[(1, .obj 1 0), (2, .b false)], [(1, ((Manifest.enc p0).map .t))], []⟩ ?_
  refine Wp.ret ?_
  refine thenR ?_
  obtain rfl := oi h
  exact RetK [.b false] _ [] kr kr (.refl _) .nil
 refine Wp.sk ?_
 refine Wp.seq ?_
 refine Wp.seqJ (α := Bool × Manifest) (fun a => ⟨[(1, .obj 1 0), (2, .b false), (47, .b a.1)], [(1, ((Manifest.enc a.2).map .t))], []⟩) (fun a => spec_ManOk_j1 u a.1 a.2 = some r) ?_ ?_
 ·rintro ⟨x4, p0⟩ h
  change spec_ManOk_j1 u x4 p0 = some r at h
  unfold spec_ManOk_j1 at h
  refine Wp.c2 h (fun h => ?_) (fun h => ?_)
  ·refine Wp.sag ⟨[(1, .obj 1 0), (2, .b false)], [(1, ((Manifest.enc p0).map .t))], []⟩ ?_
   refine Wp.ret ?_
   refine thenR ?_
   obtain rfl := oi h
   exact RetK [.b false] _ [] kr kr (.refl _) .nil
  refine Wp.sk ?_
  refine Wp.seqJ (α := Unit) (fun a => ⟨[(2, .b false)], [], []⟩) (fun a => spec_ManOk_j2 u = some r) ?_ ?_
  ·rintro ⟨⟩ h
   change spec_ManOk_j2 u = some r at h
   unfold spec_ManOk_j2 at h
   refine Wp.sag ⟨[(2, .b true)], [], []⟩ ?_
   refine Wp.ret ?_
   obtain rfl := oi h
   exact RetK [.b true] _ [] kr kr (.refl _) .nil
  ·refine Wp.sag ⟨[(1, .obj 1 0), (2, .b false), (3, .i 0)], [(1, ((Manifest.enc p0).map .t))], []⟩ ?_
   refine Wp.block ?_
   refine Wp.loopF (α := Int × Manifest) (fun a => ⟨[(1, .obj 1 0), (2, .b false), (3, .i a.1)], [(1, ((Manifest.enc a.2).map .t))], []⟩) (fun k_spec_ManOk_l3 a => spec_ManOk_l3 u k_spec_ManOk_l3 a.1 a.2 = some r) ?_ ?_ u (0, p0) h (Le.of (mo := []) (mr := []) kr kr kr kr)
   ·intro a h; unfold spec_ManOk_l3 at h; cases h
   ·rintro k_spec_ManOk_l3 ⟨x6, p0⟩ h
    change spec_ManOk_l3 u (k_spec_ManOk_l3 + 1) x6 p0 = some r at h
    rw [spec_ManOk_l3] at h
    refine Wp.seq ?_
    refine Wp.sb 3 ?_
    refine Runs.lenT (y := .t (.sl 2 (p0.fSums.map Sum.enc))) (e := 189) Sum.enc p0.fSums 2 rfl rfl rfl kr kr kr kr kr ?_
    refine Runs.allf ⟨[(1, .obj 1 0), (2, .b false), (3, .i x6), (52, .b (decide (x6 < ((p0.fSums.length : Int)))))], [(1, ((Manifest.enc p0).map .t))], []⟩ ?_
    refine Wp.c2 h (fun h => ?_) (fun h => ?_)
    ·refine Wp.sk ?_
     refine Wp.seq ?_
     refine Wp.block ?_
     refine Wp.sb 3 ?_
     obtain ⟨y8, e_y8, h⟩ := bind_some h
     refine Runs.idxT (e := 189) (kk := .i64) (sz := 2) Sum.enc p0.fSums x6 rfl kr kr kr kr kr kr e_y8 ?_
     refine Runs.batch 2 kr ?_
     obtain ⟨r9, e_r9, h⟩ := bind_some h
     refine Runs.ck 62 [.i y8.fS] (spec_BytesOf_ok u y8.fS r9 e_r9) ?_
     refine Runs.allf ⟨[(1, .obj 1 0), (2, .b false), (3, .i x6), (4, .own 4063232), (5, .b r9.2)], [(1, ((Manifest.enc p0).map .t))], [(4063232, .live 5 1 (r9.1.map (eInt .u8)))]⟩ ?_
     refine Wp.sb 5 ?_
     obtain ⟨r10, e_r10, h⟩ := bind_some h
     refine Runs.ck 71 [.i p0.fSize, .i p0.fLen, .i x6] (spec_SpanOf_ok u p0.fSize p0.fLen x6 r10 e_r10) ?_
     refine Runs.allf ⟨[(1, .obj 1 0), (2, .b false), (3, .i x6), (4, .own 4063232), (5, .b r9.2), (7, .i r10.2)], [(1, ((Manifest.enc p0).map .t))], [(4063232, .live 5 1 (r9.1.map (eInt .u8)))]⟩ ?_
     refine Wp.seqJ (α := Int × Bool × Manifest) (fun a => ⟨[(1, .obj 1 0), (2, .b false), (3, .i a.1), (91, .b a.2.1)], [(1, ((Manifest.enc a.2.2).map .t))], []⟩) (fun a => spec_ManOk_j4 u (fun z0 z1 => spec_ManOk_l3 u k_spec_ManOk_l3 z0 z1) a.1 a.2.1 a.2.2 = some r) ?_ ?_
     ·rintro ⟨x6, x13, p0⟩ h
      change spec_ManOk_j4 u (fun z0 z1 => spec_ManOk_l3 u k_spec_ManOk_l3 z0 z1) x6 x13 p0 = some r at h
      unfold spec_ManOk_j4 at h
      refine Wp.c2 h (fun h => ?_) (fun h => ?_)
      ·refine Wp.sag ⟨[(1, .obj 1 0), (2, .b false), (3, .i x6)], [(1, ((Manifest.enc p0).map .t))], []⟩ ?_
       refine Wp.ret ?_
       refine blkR ?_
       refine thenR ?_
       refine thenR ?_
       refine blkR ?_
       refine thenR ?_
       obtain rfl := oi h
       exact RetK [.b false] _ [] kr kr (.refl _) .nil
      refine Wp.skip ?_
      refine blkN ?_
      refine thenN ?_
      refine Wp.rg [] [] ?_
      refine Runs.alln ?_
      exact ⟨(bAdd .i64 x6 1, p0), h, Le.of (mo := []) (mr := []) kr kr kr kr⟩
     ·refine Wp.regionA (pOf []) (rhoOf [(1, .obj 1), (3, .frz), (4, .own 62), (5, .frz), (7, .frz), (74, .frz), (75, .frz), (76, .frz), (77, .own 62), (78, .frz), (79, .frz), (81, .frz), (82, .frz), (83, .own 62), (84, .frz), (85, .obj 1), (86, .frz), (87, .frz), (88, .frz), (89, .frz)]) kr kr ?_
      refine Runs.batch 3 kr ?_
      rcases tf (!r9.2) with hc | hc
      ·have h := cond_t h hc
       refine Runs.known 76 (v := true) kr hc ?_
       refine Runs.alln ?_
       exact ⟨(x6, true, p0), h, Le.of (mo := []) (mr := []) kr kr kr kr⟩
      have h := cond_f h hc
      refine Runs.known 76 (v := false) kr hc ?_
      refine Runs.batch 1 kr ?_
      refine Runs.lenT (y := .own 4063232) (e := 5) (eInt .u8) r9.1 1 rfl rfl rfl kr kr kr kr kr ?_
      refine Runs.batch 4 kr ?_
      rcases tf (((r9.1.length : Int)) != r10.2) with hc | hc
      ·have h := cond_t h hc
       refine Runs.known 82 (v := true) kr hc ?_
       refine Runs.alln ?_
       exact ⟨(x6, true, p0), h, Le.of (mo := []) (mr := []) kr kr kr kr⟩
      have h := cond_f h hc
      refine Runs.known 82 (v := false) kr hc ?_
      refine Runs.batch 1 kr ?_
      obtain ⟨r11, e_r11, h⟩ := bind_some h
      refine Runs.callBK 84 140 [] [.own 4063232] [.one (.s r9.1)] (.agg [.i r11.fW, .i r11.fS]) rfl rfl kr kr kr kr kr (spec_SumOf_ok u r9.1 r11 e_r11) (by simp [V.plain, V.plains, C.plain, T.sc]) kr ?_
      refine Runs.batch 3 kr ?_
      obtain ⟨y12, e_y12, h⟩ := bind_some h
      refine Runs.idxT (e := 189) (kk := .i64) (sz := 2) Sum.enc p0.fSums x6 rfl kr kr kr kr kr kr e_y12 ?_
      refine Runs.alln ?_
      exact ⟨(x6, !([r11.fW, r11.fS] == [y12.fW, y12.fS]), p0), h, Le.of (mo := []) (mr := []) kr kr kr kr⟩
    refine Wp.exit ?_
    refine thenE ?_
    refine thenE ?_
    refine blkE ?_
    refine thenN ?_
    exact ⟨(), h, Le.of (mo := []) (mr := []) kr kr kr kr⟩
 ·refine Wp.regionA (pOf []) (rhoOf [(1, .obj 1), (25, .obj 1), (26, .frz), (27, .frz), (28, .frz), (29, .frz), (30, .obj 1), (31, .frz), (32, .obj 1), (33, .frz), (34, .frz), (36, .frz), (37, .frz), (38, .obj 1), (39, .frz), (40, .frz), (41, .obj 1), (42, .frz), (43, .obj 1), (44, .frz), (45, .frz)]) kr kr ?_
  refine Runs.batch 2 kr ?_
  obtain ⟨r1, e_r1, h⟩ := bind_some h
  refine Runs.ck 27 [.i p0.fGen, .i 1, .i 1000000] (spec_l1In_ok u p0.fGen 1 1000000 r1 e_r1) ?_
  refine Runs.batch 2 kr ?_
  rcases tf (!r1) with hc | hc
  ·have h := cond_t h hc
   refine Runs.known 29 (v := true) kr hc ?_
   refine Runs.alln ?_
   exact ⟨(true, p0), h, Le.of (mo := []) (mr := []) kr kr kr kr⟩
  have h := cond_f h hc
  refine Runs.known 29 (v := false) kr hc ?_
  refine Runs.batch 4 kr ?_
  obtain ⟨r2, e_r2, h⟩ := bind_some h
  refine Runs.ck 34 [.i p0.fSize, .i p0.fLen] (spec_SizeOk_ok u p0.fSize p0.fLen r2 e_r2) ?_
  refine Runs.batch 3 kr ?_
  rcases tf (!r2) with hc | hc
  ·have h := cond_t h hc
   refine Runs.known 37 (v := true) kr hc ?_
   refine Runs.alln ?_
   exact ⟨(true, p0), h, Le.of (mo := []) (mr := []) kr kr kr kr⟩
  have h := cond_f h hc
  refine Runs.known 37 (v := false) kr hc ?_
  refine Runs.batch 2 kr ?_
  refine Runs.lenT (y := .t (.sl 2 (p0.fSums.map Sum.enc))) (e := 189) Sum.enc p0.fSums 2 rfl rfl rfl kr kr kr kr kr ?_
  refine Runs.batch 4 kr ?_
  obtain ⟨r3, e_r3, h⟩ := bind_some h
  refine Runs.ck 45 [.i p0.fSize, .i p0.fLen] (spec_Blocks_ok u p0.fSize p0.fLen r3 e_r3) ?_
  refine Runs.alln ?_
  exact ⟨(((p0.fSums.length : Int)) != r3, p0), h, Le.of (mo := []) (mr := []) kr kr kr kr⟩
theorem spec_GetMan_ok (u : Nat) (p0 : List Int) (p1 : Int) (r : Manifest × Int × Bool) (h : spec_GetMan u p0 p1 = some r) : CallOK Tryz.prog 169 [.one (.s p0), .one (.i p1)] (.tup [.agg [.i r.1.fGen, .i r.1.fSize, .i r.1.fLen, .ow 189 2 (r.1.fSums.map Sum.enc)], .one (.i r.2.1), .one (.b r.2.2)]) [] := by
 unfold spec_GetMan at h
 refine CallOK.of_bodyK (fn := Tryz.f169) (m := true) [.s p0, .i p1] kr rfl kr kr kr kr kr ?_
 refine Wp.sag ⟨[(0, .s p0), (1, .i p1), (4, .obj 4 0), (5, .i 0), (6, .b false)], [(4, [.i 0, .i 0, .i 0, .nil])], []⟩ ?_
 refine Wp.sag ⟨[(0, .s p0), (1, .i p1), (4, .obj 4 0), (5, .i 0), (6, .b false), (7, .obj 7 0)], [(4, [.i 0, .i 0, .i 0, .nil]), (7, [.i 0, .i 0, .i 0, .nil])], []⟩ ?_
 refine Wp.sb 2 ?_
 obtain ⟨r1, e_r1, h⟩ := bind_some h
 refine Runs.ck 29 [.s p0, .i p1] (spec_GetVar_ok u p0 p1 r1 e_r1) ?_
 refine Runs.allf ⟨[(0, .s p0), (4, .obj 4 0), (5, .i 0), (6, .b false), (7, .obj 7 0), (8, .i r1.1), (9, .i r1.2.1), (10, .b r1.2.2)], [(4, [.i 0, .i 0, .i 0, .nil]), (7, [.i 0, .i 0, .i 0, .nil])], []⟩ ?_
 refine Wp.sb 2 ?_
 obtain ⟨r2, e_r2, h⟩ := bind_some h
 refine Runs.ck 36 [.s p0, .i r1.2.1] (spec_GetVar_ok u p0 r1.2.1 r2 e_r2) ?_
 refine Runs.allf ⟨[(0, .s p0), (4, .obj 4 0), (5, .i 0), (6, .b false), (7, .obj 7 0), (8, .i r1.1), (10, .b r1.2.2), (11, .i r2.1), (12, .i r2.2.1), (13, .b r2.2.2)], [(4, [.i 0, .i 0, .i 0, .nil]), (7, [.i 0, .i 0, .i 0, .nil])], []⟩ ?_
 refine Wp.sb 2 ?_
 obtain ⟨r3, e_r3, h⟩ := bind_some h
 refine Runs.ck 43 [.s p0, .i r2.2.1] (spec_GetVar_ok u p0 r2.2.1 r3 e_r3) ?_
 refine Runs.allf ⟨[(0, .s p0), (4, .obj 4 0), (5, .i 0), (6, .b false), (7, .obj 7 0), (8, .i r1.1), (10, .b r1.2.2), (11, .i r2.1), (13, .b r2.2.2), (14, .i r3.1), (15, .i r3.2.1), (16, .b r3.2.2)], [(4, [.i 0, .i 0, .i 0, .nil]), (7, [.i 0, .i 0, .i 0, .nil])], []⟩ ?_
 refine Wp.seq ?_
 refine Wp.seqJ (α := (List Int) × (Int × Int × Bool) × (Int × Int × Bool) × (Int × Int × Bool) × Bool) (fun a => ⟨[(0, .s a.1), (4, .obj 4 0), (5, .i 0), (6, .b false), (7, .obj 7 0), (8, .i a.2.1.1), (11, .i a.2.2.1.1), (14, .i a.2.2.2.1.1), (15, .i a.2.2.2.1.2.1), (56, .b a.2.2.2.2)], [(4, [.i 0, .i 0, .i 0, .nil]), (7, [.i 0, .i 0, .i 0, .nil])], []⟩) (fun a => spec_GetMan_j1 u a.1 a.2.1 a.2.2.1 a.2.2.2.1 a.2.2.2.2 = some r) ?_ ?_
 ·rintro ⟨p0, r1, r2, r3, x4⟩ h
  change spec_GetMan_j1 u p0 r1 r2 r3 x4 = some r at h
  unfold spec_GetMan_j1 at h
  refine Wp.c2 h (fun h => ?_) (fun h => ?_)
  ·refine Wp.sag ⟨[(0, .s p0), (4, .obj 4 0), (5, .i 0), (6, .b false), (7, .obj 7 0), (8, .i r1.1), (11, .i r2.1), (14, .i r3.1), (15, .i r3.2.1)], [(4, [.i 0, .i 0, .i 0, .nil]), (7, [.i 0, .i 0, .i 0, .nil])], []⟩ ?_
   refine Wp.ret ?_
   refine thenR ?_
   obtain rfl := oi h
   exact RetK [.agg [.i 0, .i 0, .i 0, .nil], .i 0, .b false] (.tup [.agg [.i 0, .i 0, .i 0, .nil], .one (.i 0), .one (.b false)]) [] kr kr (.tup (.cons (.agg (.cons (.refl _) (.cons (.refl _) (.cons (.refl _) (.cons (.nilO _ _) .nil))))) (.cons (.refl _) (.cons (.refl _) .nil)))) .nil
  refine Wp.sk ?_
  refine Wp.sag ⟨[(0, .s p0), (4, .obj 4 0), (5, .i 0), (6, .b false), (7, .obj 7 0), (8, .i r1.1), (11, .i r2.1), (14, .i r3.1), (15, .i r3.2.1), (17, .obj 17 0)], [(4, [.i 0, .i 0, .i 0, .nil]), (7, [.i 0, .i 0, .i 0, .nil]), (17, [.i r1.1, .i r2.1, .i r3.1, .nil])], []⟩ ?_
  refine Wp.seqJ (α := Int × (Int × Int × Bool) × (Int × Int × Bool) × (Int × Int × Bool) × (List Sum)) (fun a => ⟨[(4, .obj 4 0), (5, .i 0), (6, .b false), (7, .obj 7 0), (15, .i a.1), (17, .obj 17 0)], [(4, [.i 0, .i 0, .i 0, .nil]), (7, [.i 0, .i 0, .i 0, .nil]), (17, [.i a.2.1.1, .i a.2.2.1.1, .i a.2.2.2.1.1, .own 1114627])], [(1114627, .live 189 2 (a.2.2.2.2.map Sum.enc))]⟩) (fun a => spec_GetMan_j2 u a.1 a.2.1 a.2.2.1 a.2.2.2.1 a.2.2.2.2 = some r) ?_ ?_
  ·rintro ⟨x19, r1, r2, r3, x20⟩ h
   change spec_GetMan_j2 u x19 r1 r2 r3 x20 = some r at h
   unfold spec_GetMan_j2 at h
   refine Wp.seq ?_
   refine Wp.sb 1 ?_
   obtain ⟨r21, e_r21, h⟩ := bind_some h
   refine Runs.callBK 100 141 [] [.agg [.i r1.1, .i r2.1, .i r3.1, .own 1114627]] [.agg [.i r1.1, .i r2.1, .i r3.1, .t (.sl 2 (x20.map Sum.enc))]] (.one (.b r21)) rfl rfl kr kr kr kr kr (spec_ManOk_ok u ((Manifest.mk r1.1 r2.1 r3.1 x20)) r21 e_r21) (by simp [V.plain, V.plains, C.plain, T.sc]) kr ?_
   refine Runs.allf ⟨[(4, .obj 4 0), (5, .i 0), (6, .b false), (7, .obj 7 0), (15, .i x19), (17, .obj 17 0), (101, .b (!r21))], [(4, [.i 0, .i 0, .i 0, .nil]), (7, [.i 0, .i 0, .i 0, .nil]), (17, [.i r1.1, .i r2.1, .i r3.1, .own 1114627])], [(1114627, .live 189 2 (x20.map Sum.enc))]⟩ ?_
   refine Wp.c2 h (fun h => ?_) (fun h => ?_)
   ·refine Wp.sag ⟨[(4, .obj 4 0), (5, .i 0), (6, .b false), (15, .i x19), (17, .obj 17 0)], [(4, [.i 0, .i 0, .i 0, .nil]), (17, [.i r1.1, .i r2.1, .i r3.1, .own 1114627])], [(1114627, .live 189 2 (x20.map Sum.enc))]⟩ ?_
    refine Wp.ret ?_
    refine thenR ?_
    obtain rfl := oi h
    exact RetK [.agg [.i 0, .i 0, .i 0, .nil], .i 0, .b false] (.tup [.agg [.i 0, .i 0, .i 0, .nil], .one (.i 0), .one (.b false)]) [] kr kr (.tup (.cons (.agg (.cons (.refl _) (.cons (.refl _) (.cons (.refl _) (.cons (.nilO _ _) .nil))))) (.cons (.refl _) (.cons (.refl _) .nil)))) .nil
   refine Wp.sk ?_
   refine Wp.sag ⟨[(4, .obj 4 0), (5, .i x19), (6, .b true)], [(4, [.i r1.1, .i r2.1, .i r3.1, .own 1114627])], [(1114627, .live 189 2 (x20.map Sum.enc))]⟩ ?_
   refine Wp.ret ?_
   obtain rfl := oi h
   exact RetK [.agg [.i r1.1, .i r2.1, .i r3.1, .own 1114627], .i x19, .b true] _ [] kr kr (.refl _) .nil
  ·refine Wp.sag ⟨[(0, .s p0), (4, .obj 4 0), (5, .i 0), (6, .b false), (7, .obj 7 0), (8, .i r1.1), (11, .i r2.1), (14, .i r3.1), (15, .i r3.2.1), (17, .obj 17 0), (18, .i 0)], [(4, [.i 0, .i 0, .i 0, .nil]), (7, [.i 0, .i 0, .i 0, .nil]), (17, [.i r1.1, .i r2.1, .i r3.1, .nil])], []⟩ ?_
   refine Wp.block ?_
   refine Wp.loopF (α := (List Int) × (Int × Int × Bool) × (Int × Int × Bool) × (Int × Int × Bool) × Int × Int × (List Sum)) (fun a => ⟨[(0, .s a.1), (4, .obj 4 0), (5, .i 0), (6, .b false), (7, .obj 7 0), (8, .i a.2.1.1), (11, .i a.2.2.1.1), (14, .i a.2.2.2.1.1), (15, .i a.2.2.2.2.1), (17, .obj 17 0), (18, .i a.2.2.2.2.2.1)], [(4, [.i 0, .i 0, .i 0, .nil]), (7, [.i 0, .i 0, .i 0, .nil]), (17, [.i a.2.1.1, .i a.2.2.1.1, .i a.2.2.2.1.1, .own 1114627])], [(1114627, .live 189 2 (a.2.2.2.2.2.2.map Sum.enc))]⟩) (fun k_spec_GetMan_l3 a => spec_GetMan_l3 u k_spec_GetMan_l3 a.1 a.2.1 a.2.2.1 a.2.2.2.1 a.2.2.2.2.1 a.2.2.2.2.2.1 a.2.2.2.2.2.2 = some r) ?_ ?_ u (p0, r1, r2, r3, r3.2.1, 0, []) h (Le.trans (Le.emptyO 17 3 1114627 189 2 [.i r1.1, .i r2.1, .i r3.1, .nil] kr kr kr) (Le.of (mo := []) (mr := []) kr kr kr kr))
   ·intro a h; unfold spec_GetMan_l3 at h; cases h
   ·rintro k_spec_GetMan_l3 ⟨p0, r1, r2, r3, x8, x9, x10⟩ h
    change spec_GetMan_l3 u (k_spec_GetMan_l3 + 1) p0 r1 r2 r3 x8 x9 x10 = some r at h
    rw [spec_GetMan_l3] at h
    refine Wp.seq ?_
    refine Wp.seqJ (α := (List Int) × (Int × Int × Bool) × (Int × Int × Bool) × (Int × Int × Bool) × Int × Int × Bool × (List Sum)) (fun a => ⟨[(0, .s a.1), (4, .obj 4 0), (5, .i 0), (6, .b false), (7, .obj 7 0), (8, .i a.2.1.1), (11, .i a.2.2.1.1), (14, .i a.2.2.2.1.1), (15, .i a.2.2.2.2.1), (17, .obj 17 0), (18, .i a.2.2.2.2.2.1), (70, .b a.2.2.2.2.2.2.1)], [(4, [.i 0, .i 0, .i 0, .nil]), (7, [.i 0, .i 0, .i 0, .nil]), (17, [.i a.2.1.1, .i a.2.2.1.1, .i a.2.2.2.1.1, .own 1114627])], [(1114627, .live 189 2 (a.2.2.2.2.2.2.2.map Sum.enc))]⟩) (fun a => spec_GetMan_j4 u (fun z0 z1 z2 z3 z4 z5 z6 => spec_GetMan_l3 u k_spec_GetMan_l3 z0 z1 z2 z3 z4 z5 z6) a.1 a.2.1 a.2.2.1 a.2.2.2.1 a.2.2.2.2.1 a.2.2.2.2.2.1 a.2.2.2.2.2.2.1 a.2.2.2.2.2.2.2 = some r) ?_ ?_
    ·rintro ⟨p0, r1, r2, r3, x8, x9, x15, x10⟩ h
     change spec_GetMan_j4 u (fun z0 z1 z2 z3 z4 z5 z6 => spec_GetMan_l3 u k_spec_GetMan_l3 z0 z1 z2 z3 z4 z5 z6) p0 r1 r2 r3 x8 x9 x15 x10 = some r at h
     unfold spec_GetMan_j4 at h
     refine Wp.c2 h (fun h => ?_) (fun h => ?_)
     ·refine Wp.sk ?_
      refine Wp.seq ?_
      refine Wp.block ?_
      refine Wp.sb 2 ?_
      obtain ⟨r16, e_r16, h⟩ := bind_some h
      refine Runs.ck 76 [.s p0, .i x8] (spec_l6GetSum_ok u p0 x8 r16 e_r16) ?_
      refine Runs.allf ⟨[(0, .s p0), (4, .obj 4 0), (5, .i 0), (6, .b false), (7, .obj 7 0), (8, .i r1.1), (11, .i r2.1), (14, .i r3.1), (15, .i x8), (17, .obj 17 0), (18, .i x9), (19, .i r16.1), (20, .i r16.2.1), (21, .b r16.2.2)], [(4, [.i 0, .i 0, .i 0, .nil]), (7, [.i 0, .i 0, .i 0, .nil]), (17, [.i r1.1, .i r2.1, .i r3.1, .own 1114627])], [(1114627, .live 189 2 (x10.map Sum.enc))]⟩ ?_
      refine Wp.seq ?_
      refine Wp.sag ⟨[(0, .s p0), (4, .obj 4 0), (5, .i 0), (6, .b false), (7, .obj 7 0), (8, .i r1.1), (11, .i r2.1), (14, .i r3.1), (15, .i x8), (17, .obj 17 0), (18, .i x9), (19, .i r16.1), (20, .i r16.2.1), (81, .b (!r16.2.2))], [(4, [.i 0, .i 0, .i 0, .nil]), (7, [.i 0, .i 0, .i 0, .nil]), (17, [.i r1.1, .i r2.1, .i r3.1, .own 1114627])], [(1114627, .live 189 2 (x10.map Sum.enc))]⟩ ?_
      refine Wp.c2 h (fun h => ?_) (fun h => ?_)
      ·refine Wp.sag ⟨[(0, .s p0), (4, .obj 4 0), (5, .i 0), (6, .b false), (7, .obj 7 0), (8, .i r1.1), (11, .i r2.1), (14, .i r3.1), (15, .i x8), (17, .obj 17 0), (18, .i x9), (19, .i r16.1), (20, .i r16.2.1)], [(4, [.i 0, .i 0, .i 0, .nil]), (7, [.i 0, .i 0, .i 0, .nil]), (17, [.i r1.1, .i r2.1, .i r3.1, .own 1114627])], [(1114627, .live 189 2 (x10.map Sum.enc))]⟩ ?_
       refine Wp.ret ?_
       refine thenR ?_
       refine blkR ?_
       refine thenR ?_
       refine thenR ?_
       refine blkR ?_
       refine thenR ?_
       obtain rfl := oi h
       exact RetK [.agg [.i 0, .i 0, .i 0, .nil], .i 0, .b false] (.tup [.agg [.i 0, .i 0, .i 0, .nil], .one (.i 0), .one (.b false)]) [] kr kr (.tup (.cons (.agg (.cons (.refl _) (.cons (.refl _) (.cons (.refl _) (.cons (.nilO _ _) .nil))))) (.cons (.refl _) (.cons (.refl _) .nil)))) .nil
      refine Wp.sk ?_
      refine Wp.sb 1 ?_
      obtain ⟨r17, e_r17, h⟩ := bind_some h
      refine Runs.ck 85 [.i r16.1] (spec_BytesOf_ok u r16.1 r17 e_r17) ?_
      refine Runs.allf ⟨[(0, .s p0), (4, .obj 4 0), (5, .i 0), (6, .b false), (7, .obj 7 0), (8, .i r1.1), (11, .i r2.1), (14, .i r3.1), (15, .i x8), (17, .obj 17 0), (18, .i x9), (19, .i r16.1), (20, .i r16.2.1), (22, .own 5570560)], [(4, [.i 0, .i 0, .i 0, .nil]), (7, [.i 0, .i 0, .i 0, .nil]), (17, [.i r1.1, .i r2.1, .i r3.1, .own 1114627])], [(1114627, .live 189 2 (x10.map Sum.enc)), (5570560, .live 5 1 (r17.1.map (eInt .u8)))]⟩ ?_
      refine Wp.sb 1 ?_
      obtain ⟨r18, e_r18, h⟩ := bind_some h
      refine Runs.callBK 89 140 [] [.own 5570560] [.one (.s r17.1)] (.agg [.i r18.fW, .i r18.fS]) rfl rfl kr kr kr kr kr (spec_SumOf_ok u r17.1 r18 e_r18) (by simp [V.plain, V.plains, C.plain, T.sc]) kr ?_
      refine Runs.allf ⟨[(0, .s p0), (4, .obj 4 0), (5, .i 0), (6, .b false), (7, .obj 7 0), (8, .i r1.1), (11, .i r2.1), (14, .i r3.1), (15, .i x8), (17, .obj 17 0), (18, .i x9), (19, .i r16.1), (20, .i r16.2.1), (24, .obj 24 0)], [(4, [.i 0, .i 0, .i 0, .nil]), (7, [.i 0, .i 0, .i 0, .nil]), (17, [.i r1.1, .i r2.1, .i r3.1, .own 1114627]), (24, [.i r18.fW, .i r18.fS])], [(1114627, .live 189 2 (x10.map Sum.enc))]⟩ ?_
      refine Wp.sag ⟨[(0, .s p0), (4, .obj 4 0), (5, .i 0), (6, .b false), (7, .obj 7 0), (8, .i r1.1), (11, .i r2.1), (14, .i r3.1), (15, .i x8), (17, .obj 17 0), (18, .i x9), (20, .i r16.2.1), (24, .obj 24 0)], [(4, [.i 0, .i 0, .i 0, .nil]), (7, [.i 0, .i 0, .i 0, .nil]), (17, [.i r1.1, .i r2.1, .i r3.1, .own 1114627]), (24, [.i r18.fW, .i r16.1])], [(1114627, .live 189 2 (x10.map Sum.enc))]⟩ ?_
      refine Wp.sb 4 ?_
      obtain ⟨_, e_19, h⟩ := bind_some h
      refine Runs.appT (y := .own 6225920) Sum.enc 96 2 189 2 16 1114627 x10 ([(Sum.mk r18.fW r16.1)]) rfl rfl rfl rfl kr kr kr kr kr kr (.inl rfl) kr (of_decide_eq_true (chk_some e_19)) kr kr ?_
      refine Runs.allf ⟨[(0, .s p0), (4, .obj 4 0), (5, .i 0), (6, .b false), (7, .obj 7 0), (8, .i r1.1), (11, .i r2.1), (14, .i r3.1), (15, .i x8), (17, .obj 17 0), (18, .i x9), (20, .i r16.2.1)], [(4, [.i 0, .i 0, .i 0, .nil]), (7, [.i 0, .i 0, .i 0, .nil]), (17, [.i r1.1, .i r2.1, .i r3.1, .own 6291456])], [(6291456, .live 189 2 ((x10 ++ ([(Sum.mk r18.fW r16.1)])).map Sum.enc))]⟩ ?_
      refine Wp.rg [] [] ?_
      refine Runs.all kr ?_
      refine blkN ?_
      refine thenN ?_
      refine Wp.rg [] [] ?_
      refine Runs.alln ?_
      exact ⟨(p0, r1, r2, r3, r16.2.1, bAdd .i64 x9 1, x10 ++ ([(Sum.mk r18.fW r16.1)])), h, Le.of (mo := []) (mr := [(1114627, 6291456)]) kr kr kr kr⟩
     refine Wp.exit ?_
     refine thenE ?_
     refine thenE ?_
     refine blkE ?_
     refine thenN ?_
     exact ⟨(x8, r1, r2, r3, x10), h, Le.of (mo := []) (mr := []) kr kr kr kr⟩
    ·refine Wp.rg [] [] ?_
     refine Runs.batch 3 kr ?_
     obtain ⟨r14, e_r14, h⟩ := bind_some h
     refine Runs.ck 65 [.i r2.1, .i r3.1] (spec_Blocks_ok u r2.1 r3.1 r14 e_r14) ?_
     refine Runs.batch 2 kr ?_
     rcases tf (decide (x9 < r14)) with hc | hc
     ·have h := cond_t h hc
      refine Runs.known 67 (v := true) kr hc ?_
      refine Runs.alln ?_
      exact ⟨(p0, r1, r2, r3, x8, x9, decide (r1.1 > 0), x10), h, Le.of (mo := []) (mr := []) kr kr kr kr⟩
     have h := cond_f h hc
     refine Runs.known 67 (v := false) kr hc ?_
     refine Runs.alln ?_
     exact ⟨(p0, r1, r2, r3, x8, x9, false, x10), h, Le.of (mo := []) (mr := []) kr kr kr kr⟩
 ·refine Wp.rg [] [] ?_
  refine Runs.batch 3 kr ?_
  rcases tf (!r1.2.2) with hc | hc
  ·have h := cond_t h hc
   refine Runs.known 49 (v := true) kr hc ?_
   refine Runs.alln ?_
   exact ⟨(p0, r1, r2, r3, true), h, Le.of (mo := []) (mr := []) kr kr kr kr⟩
  have h := cond_f h hc
  refine Runs.known 49 (v := false) kr hc ?_
  refine Runs.batch 4 kr ?_
  rcases tf (!r2.2.2) with hc | hc
  ·have h := cond_t h hc
   refine Runs.known 53 (v := true) kr hc ?_
   refine Runs.alln ?_
   exact ⟨(p0, r1, r2, r3, true), h, Le.of (mo := []) (mr := []) kr kr kr kr⟩
  have h := cond_f h hc
  refine Runs.known 53 (v := false) kr hc ?_
  refine Runs.alln ?_
  exact ⟨(p0, r1, r2, r3, !r3.2.2), h, Le.of (mo := []) (mr := []) kr kr kr kr⟩
theorem spec_GetPart_ok (u : Nat) (p0 : List Int) (p1 : Int) (p2 : Int) (r : (List Int) × Int × Bool) (h : spec_GetPart u p0 p1 p2 = some r) : CallOK Tryz.prog 170 [.one (.s p0), .one (.i p1), .one (.i p2)] (.tup [.one (.ow 5 1 (r.1.map (eInt .u8))), .one (.i r.2.1), .one (.b r.2.2)]) [] := by
 unfold spec_GetPart at h
 refine CallOK.of_bodyK (fn := Tryz.f170) (m := true) [.s p0, .i p1, .i p2] kr rfl kr kr kr kr kr ?_
 refine Wp.sag ⟨[(0, .s p0), (1, .i p1), (2, .i p2), (6, .nil), (7, .i 0), (8, .b false)], [], []⟩ ?_
 refine Wp.sb 2 ?_
 obtain ⟨r1, e_r1, h⟩ := bind_some h
 refine Runs.ck 15 [.s p0, .i p1] (spec_GetVar_ok u p0 p1 r1 e_r1) ?_
 refine Runs.allf ⟨[(0, .s p0), (2, .i p2), (6, .nil), (7, .i 0), (8, .b false), (9, .i r1.1), (10, .i r1.2.1), (11, .b r1.2.2)], [], []⟩ ?_
 refine Wp.seq ?_
 refine Wp.seqJ (α := (List Int) × (Int × Int × Bool) × Bool) (fun a => ⟨[(0, .s a.1), (6, .nil), (7, .i 0), (8, .b false), (9, .i a.2.1.1), (10, .i a.2.1.2.1), (33, .b a.2.2)], [], []⟩) (fun a => spec_GetPart_j1 u a.1 a.2.1 a.2.2 = some r) ?_ ?_
 ·rintro ⟨p0, r1, x2⟩ h
  change spec_GetPart_j1 u p0 r1 x2 = some r at h
  unfold spec_GetPart_j1 at h
  refine Wp.c2 h (fun h => ?_) (fun h => ?_)
  ·refine Wp.sag ⟨[(0, .s p0), (6, .own 2228224), (7, .i 0), (8, .b false), (9, .i r1.1), (10, .i r1.2.1)], [], [(2228224, .live 5 1 ((([] : List Int)).map (eInt .u8)))]⟩ ?_
   refine Wp.ret ?_
   refine thenR ?_
   obtain rfl := oi h
   exact RetK [.own 2228224, .i 0, .b false] _ [] kr kr (.refl _) .nil
  refine Wp.sk ?_
  refine Wp.sb 6 ?_
  obtain ⟨_, e_3, h⟩ := bind_some h
  refine Runs.subsl (e := 5) (ax := .s p0) (alo := (some (.i r1.2.1))) (ahi := (some (.i (bAdd .i64 r1.2.1 r1.1)))) (eInt .u8) p0 1 r1.2.1 (bAdd .i64 r1.2.1 r1.1) rfl kr kr kr kr kr kr kr kr kr kr kr (chk_some e_3) ?_
  obtain ⟨_, e_4, h⟩ := bind_some h
  refine Runs.appT (y := .t (.sl 1 (((p0.take (Int.toNat (bAdd .i64 r1.2.1 r1.1))).drop (Int.toNat r1.2.1)).map (eInt .u8)))) (eInt .u8) 42 1 5 1 1 2293760 (([] : List Int)) ((p0.take (Int.toNat (bAdd .i64 r1.2.1 r1.1))).drop (Int.toNat r1.2.1)) rfl rfl rfl rfl kr kr kr kr kr kr (.inl rfl) kr (of_decide_eq_true (chk_some e_4)) kr kr ?_
  refine Runs.allf ⟨[(6, .own 2752512), (7, .i (bAdd .i64 r1.2.1 r1.1)), (8, .b true)], [], [(2752512, .live 5 1 (((([] : List Int)) ++ ((p0.take (Int.toNat (bAdd .i64 r1.2.1 r1.1))).drop (Int.toNat r1.2.1))).map (eInt .u8)))]⟩ ?_
  refine Wp.ret ?_
  obtain rfl := oi h
  exact RetK [.own 2752512, .i (bAdd .i64 r1.2.1 r1.1), .b true] _ [] kr kr (.refl _) .nil
 ·refine Wp.rg [] [] ?_
  refine Runs.batch 3 kr ?_
  rcases tf (!r1.2.2) with hc | hc
  ·have h := cond_t h hc
   refine Runs.known 21 (v := true) kr hc ?_
   refine Runs.alln ?_
   exact ⟨(p0, r1, true), h, Le.of (mo := []) (mr := []) kr kr kr kr⟩
  have h := cond_f h hc
  refine Runs.known 21 (v := false) kr hc ?_
  refine Runs.batch 5 kr ?_
  rcases tf (decide (r1.1 > p2)) with hc | hc
  ·have h := cond_t h hc
   refine Runs.known 26 (v := true) kr hc ?_
   refine Runs.alln ?_
   exact ⟨(p0, r1, true), h, Le.of (mo := []) (mr := []) kr kr kr kr⟩
  have h := cond_f h hc
  refine Runs.known 26 (v := false) kr hc ?_
  refine Runs.batch 2 kr ?_
  refine Runs.lenT (y := .s p0) (e := 5) (eInt .u8) p0 1 rfl rfl rfl kr kr kr kr kr ?_
  refine Runs.alln ?_
  exact ⟨(p0, r1, decide (r1.1 > (bSub .i64 ((p0.length : Int)) r1.2.1))), h, Le.of (mo := []) (mr := []) kr kr kr kr⟩
end Go.Tm
