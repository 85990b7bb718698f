/- The functions as they are translated do what the pure functions say (printed). -/
import Derived.Test.YtpjnojikkfoekaaCStateOfK2
import Derived.Test.YtpjnojikkfoekaaTm38
import Derived.Test.YtpjnojikkfoekaaProg
set_option maxRecDepth 100000
set_option linter.unusedVariables false
set_option linter.unusedSimpArgs false
namespace Go.Tm
open Go.Proofs
theorem laws_eqNodeS_ok (u : Nat) (p0 : List Node) (p1 : List Node) (r : Bool) (h : laws_eqNodeS u p0 p1 = some r) : CallOK Try.prog 67 [.one (.t (.sl 12 (p0.map Node.enc))), .one (.t (.sl 12 (p1.map Node.enc)))] (.one (.t (.bool r))) [] := by
  unfold laws_eqNodeS at h
  refine CallOK.of_bodyK (fn := Try.f67) (m := false) [.t (.sl 12 (p0.map Node.enc)), .t (.sl 12 (p1.map Node.enc))] (by kernel_rfl) rfl (by kernel_rfl) (by kernel_rfl) (by kernel_rfl) (by kernel_rfl) (by kernel_rfl) ?_
  refine Wp.seq ?_
  refine Wp.regionS (pOf []) (rhoOf []) (by kernel_rfl) ?_
  refine Runs.all (by kernel_rfl) ?_
  refine thenN ?_
  refine Wp.le (Le.of (s := ⟨[(0, .t (.sl 12 (p0.map Node.enc))), (1, .t (.sl 12 (p1.map Node.enc))), (4, .t (.bool false))], [], []⟩) (mo := []) (mr := []) (by kernel_rfl) (by kernel_rfl) (by kernel_rfl) (by kernel_rfl)) ?_
  refine Wp.seq ?_
  refine Wp.seq ?_
  refine Wp.regionS (pOf []) (rhoOf []) (by kernel_rfl) ?_
  refine Runs.batch 1 (by kernel_rfl) ?_
  refine Runs.lenT (y := .t (.sl 12 (p0.map Node.enc))) (e := 114) Node.enc p0 12 rfl rfl rfl (by kernel_rfl) (by kernel_rfl) (by kernel_rfl) (by kernel_rfl) (by kernel_rfl) ?_
  refine Runs.batch 1 (by kernel_rfl) ?_
  refine Runs.lenT (y := .t (.sl 12 (p1.map Node.enc))) (e := 114) Node.enc p1 12 rfl rfl rfl (by kernel_rfl) (by kernel_rfl) (by kernel_rfl) (by kernel_rfl) (by kernel_rfl) ?_
  refine Runs.all (by kernel_rfl) ?_
  refine thenN ?_
  refine Wp.le (Le.of (s := ⟨[(0, .t (.sl 12 (p0.map Node.enc))), (1, .t (.sl 12 (p1.map Node.enc))), (4, .t (.bool false)), (10, .t (.bool (((p0.length : Int)) != ((p1.length : Int)))))], [], []⟩) (mo := []) (mr := []) (by kernel_rfl) (by kernel_rfl) (by kernel_rfl) (by kernel_rfl)) ?_
  refine Wp.cond2 (b := ((p0.length : Int)) != ((p1.length : Int))) (by kernel_rfl) (fun hc => ?_) (fun hc => ?_)
  · have h := cond_t h hc
    refine Wp.seq ?_
    refine Wp.regionS (pOf []) (rhoOf []) (by kernel_rfl) ?_
    refine Runs.all (by kernel_rfl) ?_
    refine thenN ?_
    refine Wp.le (Le.of (s := ⟨[(0, .t (.sl 12 (p0.map Node.enc))), (1, .t (.sl 12 (p1.map Node.enc))), (4, .t (.bool false))], [], []⟩) (mo := []) (mr := []) (by kernel_rfl) (by kernel_rfl) (by kernel_rfl) (by kernel_rfl)) ?_
    refine Wp.ret ?_
    refine thenR ?_
    have hr := Option.some.inj h
    subst hr
    exact RetK [.t (.bool false)] (.one (.t (.bool false))) [] (by kernel_rfl) (by kernel_rfl) (.refl _) .nil
  · have h := cond_f h hc
    refine Wp.skip ?_
    refine thenN ?_
    refine Wp.seqJ (α := Unit) (fun a => ⟨[(4, .t (.bool false))], [], []⟩) (fun a => laws_eqNodeS_j1 u = some r) ?_ ?_
    · rintro ⟨⟩ h
      change laws_eqNodeS_j1 u = some r at h
      unfold laws_eqNodeS_j1 at h
      refine Wp.seq ?_
      refine Wp.regionS (pOf []) (rhoOf []) (by kernel_rfl) ?_
      refine Runs.all (by kernel_rfl) ?_
      refine thenN ?_
      refine Wp.le (Le.of (s := ⟨[(4, .t (.bool true))], [], []⟩) (mo := []) (mr := []) (by kernel_rfl) (by kernel_rfl) (by kernel_rfl) (by kernel_rfl)) ?_
      refine Wp.ret ?_
      have hr := Option.some.inj h
      subst hr
      exact RetK [.t (.bool true)] (.one (.t (.bool true))) [] (by kernel_rfl) (by kernel_rfl) (.refl _) .nil
    · refine Wp.seq ?_
      refine Wp.regionS (pOf []) (rhoOf []) (by kernel_rfl) ?_
      refine Runs.all (by kernel_rfl) ?_
      refine thenN ?_
      refine Wp.le (Le.of (s := ⟨[(0, .t (.sl 12 (p0.map Node.enc))), (1, .t (.sl 12 (p1.map Node.enc))), (4, .t (.bool false)), (5, .t (.int .i64 0))], [], []⟩) (mo := []) (mr := []) (by kernel_rfl) (by kernel_rfl) (by kernel_rfl) (by kernel_rfl)) ?_
      refine Wp.block ?_
      refine Wp.loopF (α := (List Node) × (List Node) × Int) (fun a => ⟨[(0, .t (.sl 12 (a.1.map Node.enc))), (1, .t (.sl 12 (a.2.1.map Node.enc))), (4, .t (.bool false)), (5, .t (.int .i64 a.2.2))], [], []⟩) (fun k_laws_eqNodeS_l2 a => laws_eqNodeS_l2 u k_laws_eqNodeS_l2 a.1 a.2.1 a.2.2 = some r) ?_ ?_ u (p0, p1, 0) h (Le.of (mo := []) (mr := []) (by kernel_rfl) (by kernel_rfl) (by kernel_rfl) (by kernel_rfl))
      · intro a h; unfold laws_eqNodeS_l2 at h; cases h
      · rintro k_laws_eqNodeS_l2 ⟨p0, p1, x2⟩ h
        change laws_eqNodeS_l2 u (k_laws_eqNodeS_l2 + 1) p0 p1 x2 = some r at h
        rw [laws_eqNodeS_l2] at h
        refine Wp.seq ?_
        refine Wp.seq ?_
        refine Wp.regionS (pOf []) (rhoOf []) (by kernel_rfl) ?_
        refine Runs.batch 2 (by kernel_rfl) ?_
        refine Runs.lenT (y := .t (.sl 12 (p0.map Node.enc))) (e := 114) Node.enc p0 12 rfl rfl rfl (by kernel_rfl) (by kernel_rfl) (by kernel_rfl) (by kernel_rfl) (by kernel_rfl) ?_
        refine Runs.all (by kernel_rfl) ?_
        refine thenN ?_
        refine Wp.le (Le.of (s := ⟨[(0, .t (.sl 12 (p0.map Node.enc))), (1, .t (.sl 12 (p1.map Node.enc))), (4, .t (.bool false)), (5, .t (.int .i64 x2)), (11, .t (.int .i64 x2)), (12, .t (.sl 12 (p0.map Node.enc))), (13, .t (.int .i64 ((p0.length : Int)))), (14, .t (.bool (decide (x2 < ((p0.length : Int))))))], [], []⟩) (mo := []) (mr := []) (by kernel_rfl) (by kernel_rfl) (by kernel_rfl) (by kernel_rfl)) ?_
        refine Wp.cond2 (b := decide (x2 < ((p0.length : Int)))) (by kernel_rfl) (fun hc => ?_) (fun hc => ?_)
        · have h := cond_t h hc
          refine Wp.skip ?_
          refine thenN ?_
          refine Wp.seq ?_
          refine Wp.block ?_
          refine Wp.seq ?_
          refine Wp.regionA (pOf []) (rhoOf [(0, .frz), (1, .frz), (5, .frz), (17, .frz), (18, .frz), (19, .frz), (20, .frz), (21, .frz), (22, .frz), (23, .frz), (24, .frz), (25, .frz)]) (by kernel_rfl) (by kernel_rfl) ?_
          refine Runs.batch 2 (by kernel_rfl) ?_
          obtain ⟨y4, e_y4, h⟩ := bind_some h
          refine Runs.idxT (e := 114) (kk := .i64) (sz := 12) Node.enc p0 x2 rfl (by kernel_rfl) (by kernel_rfl) (by kernel_rfl) (by kernel_rfl) (by kernel_rfl) (by kernel_rfl) e_y4 ?_
          refine Runs.batch 3 (by kernel_rfl) ?_
          obtain ⟨y5, e_y5, h⟩ := bind_some h
          refine Runs.idxT (e := 114) (kk := .i64) (sz := 12) Node.enc p1 x2 rfl (by kernel_rfl) (by kernel_rfl) (by kernel_rfl) (by kernel_rfl) (by kernel_rfl) (by kernel_rfl) e_y5 ?_
          refine Runs.batch 1 (by kernel_rfl) ?_
          obtain ⟨r6, e_r6, h⟩ := bind_some h
          refine Runs.callK false 25 117 [] [.agg [.t (.bool y4.fOn), .t (.int .i64 y4.fBoss), .t (.int .i64 y4.fQuiet), .t (.int .i64 y4.fMan.fGen), .t (.int .i64 y4.fMan.fSize), .t (.int .i64 y4.fMan.fLen), .t (.sl 2 (y4.fMan.fSums.map Sum.enc)), .t (.int .i64 y4.fBld.fHave), .t (.sl 1 (y4.fBld.fBuf.map (eInt .u8))), .t (.int .i64 y4.fPhase), .t (.sl 5 (y4.fKids.map Kid.enc)), .t (.int .i64 y4.fDrops)], .agg [.t (.bool y5.fOn), .t (.int .i64 y5.fBoss), .t (.int .i64 y5.fQuiet), .t (.int .i64 y5.fMan.fGen), .t (.int .i64 y5.fMan.fSize), .t (.int .i64 y5.fMan.fLen), .t (.sl 2 (y5.fMan.fSums.map Sum.enc)), .t (.int .i64 y5.fBld.fHave), .t (.sl 1 (y5.fBld.fBuf.map (eInt .u8))), .t (.int .i64 y5.fPhase), .t (.sl 5 (y5.fKids.map Kid.enc)), .t (.int .i64 y5.fDrops)]] [.agg [.t (.bool y4.fOn), .t (.int .i64 y4.fBoss), .t (.int .i64 y4.fQuiet), .t (.int .i64 y4.fMan.fGen), .t (.int .i64 y4.fMan.fSize), .t (.int .i64 y4.fMan.fLen), .t (.sl 2 (y4.fMan.fSums.map Sum.enc)), .t (.int .i64 y4.fBld.fHave), .t (.sl 1 (y4.fBld.fBuf.map (eInt .u8))), .t (.int .i64 y4.fPhase), .t (.sl 5 (y4.fKids.map Kid.enc)), .t (.int .i64 y4.fDrops)], .agg [.t (.bool y5.fOn), .t (.int .i64 y5.fBoss), .t (.int .i64 y5.fQuiet), .t (.int .i64 y5.fMan.fGen), .t (.int .i64 y5.fMan.fSize), .t (.int .i64 y5.fMan.fLen), .t (.sl 2 (y5.fMan.fSums.map Sum.enc)), .t (.int .i64 y5.fBld.fHave), .t (.sl 1 (y5.fBld.fBuf.map (eInt .u8))), .t (.int .i64 y5.fPhase), .t (.sl 5 (y5.fKids.map Kid.enc)), .t (.int .i64 y5.fDrops)]] (.one (.t (.bool r6))) [] rfl rfl (by kernel_rfl) (by kernel_rfl) (by kernel_rfl) (by kernel_rfl) (by kernel_rfl) (laws_eqNode_ok u y4 y5 r6 e_r6) (by kernel_rfl) ?_
          refine Runs.all (by kernel_rfl) ?_
          refine thenN ?_
          refine Wp.le (Le.of (s := ⟨[(0, .t (.sl 12 (p0.map Node.enc))), (1, .t (.sl 12 (p1.map Node.enc))), (4, .t (.bool false)), (5, .t (.int .i64 x2)), (11, .t (.int .i64 x2)), (12, .t (.sl 12 (p0.map Node.enc))), (13, .t (.int .i64 ((p0.length : Int)))), (14, .t (.bool (decide (x2 < ((p0.length : Int)))))), (17, .t (.sl 12 (p0.map Node.enc))), (18, .t (.int .i64 x2)), (19, .fadr [.bool y4.fOn, .int .i64 y4.fBoss, .int .i64 y4.fQuiet, .int .i64 y4.fMan.fGen, .int .i64 y4.fMan.fSize, .int .i64 y4.fMan.fLen, .sl 2 (y4.fMan.fSums.map Sum.enc), .int .i64 y4.fBld.fHave, .sl 1 (y4.fBld.fBuf.map (eInt .u8)), .int .i64 y4.fPhase, .sl 5 (y4.fKids.map Kid.enc), .int .i64 y4.fDrops]), (20, .agg [.t (.bool y4.fOn), .t (.int .i64 y4.fBoss), .t (.int .i64 y4.fQuiet), .t (.int .i64 y4.fMan.fGen), .t (.int .i64 y4.fMan.fSize), .t (.int .i64 y4.fMan.fLen), .t (.sl 2 (y4.fMan.fSums.map Sum.enc)), .t (.int .i64 y4.fBld.fHave), .t (.sl 1 (y4.fBld.fBuf.map (eInt .u8))), .t (.int .i64 y4.fPhase), .t (.sl 5 (y4.fKids.map Kid.enc)), .t (.int .i64 y4.fDrops)]), (21, .t (.sl 12 (p1.map Node.enc))), (22, .t (.int .i64 x2)), (23, .fadr [.bool y5.fOn, .int .i64 y5.fBoss, .int .i64 y5.fQuiet, .int .i64 y5.fMan.fGen, .int .i64 y5.fMan.fSize, .int .i64 y5.fMan.fLen, .sl 2 (y5.fMan.fSums.map Sum.enc), .int .i64 y5.fBld.fHave, .sl 1 (y5.fBld.fBuf.map (eInt .u8)), .int .i64 y5.fPhase, .sl 5 (y5.fKids.map Kid.enc), .int .i64 y5.fDrops]), (24, .agg [.t (.bool y5.fOn), .t (.int .i64 y5.fBoss), .t (.int .i64 y5.fQuiet), .t (.int .i64 y5.fMan.fGen), .t (.int .i64 y5.fMan.fSize), .t (.int .i64 y5.fMan.fLen), .t (.sl 2 (y5.fMan.fSums.map Sum.enc)), .t (.int .i64 y5.fBld.fHave), .t (.sl 1 (y5.fBld.fBuf.map (eInt .u8))), .t (.int .i64 y5.fPhase), .t (.sl 5 (y5.fKids.map Kid.enc)), .t (.int .i64 y5.fDrops)]), (25, .t (.bool r6)), (26, .t (.bool (!r6)))], [], []⟩) (mo := []) (mr := []) (by kernel_rfl) (by kernel_rfl) (by kernel_rfl) (by kernel_rfl)) ?_
          refine Wp.cond2 (b := !r6) (by kernel_rfl) (fun hc => ?_) (fun hc => ?_)
          · have h := cond_t h hc
            refine Wp.seq ?_
            refine Wp.regionS (pOf []) (rhoOf []) (by kernel_rfl) ?_
            refine Runs.all (by kernel_rfl) ?_
            refine thenN ?_
            refine Wp.le (Le.of (s := ⟨[(0, .t (.sl 12 (p0.map Node.enc))), (1, .t (.sl 12 (p1.map Node.enc))), (4, .t (.bool false)), (5, .t (.int .i64 x2)), (11, .t (.int .i64 x2)), (12, .t (.sl 12 (p0.map Node.enc))), (13, .t (.int .i64 ((p0.length : Int)))), (14, .t (.bool (decide (x2 < ((p0.length : Int)))))), (17, .t (.sl 12 (p0.map Node.enc))), (18, .t (.int .i64 x2)), (19, .fadr [.bool y4.fOn, .int .i64 y4.fBoss, .int .i64 y4.fQuiet, .int .i64 y4.fMan.fGen, .int .i64 y4.fMan.fSize, .int .i64 y4.fMan.fLen, .sl 2 (y4.fMan.fSums.map Sum.enc), .int .i64 y4.fBld.fHave, .sl 1 (y4.fBld.fBuf.map (eInt .u8)), .int .i64 y4.fPhase, .sl 5 (y4.fKids.map Kid.enc), .int .i64 y4.fDrops]), (20, .agg [.t (.bool y4.fOn), .t (.int .i64 y4.fBoss), .t (.int .i64 y4.fQuiet), .t (.int .i64 y4.fMan.fGen), .t (.int .i64 y4.fMan.fSize), .t (.int .i64 y4.fMan.fLen), .t (.sl 2 (y4.fMan.fSums.map Sum.enc)), .t (.int .i64 y4.fBld.fHave), .t (.sl 1 (y4.fBld.fBuf.map (eInt .u8))), .t (.int .i64 y4.fPhase), .t (.sl 5 (y4.fKids.map Kid.enc)), .t (.int .i64 y4.fDrops)]), (21, .t (.sl 12 (p1.map Node.enc))), (22, .t (.int .i64 x2)), (23, .fadr [.bool y5.fOn, .int .i64 y5.fBoss, .int .i64 y5.fQuiet, .int .i64 y5.fMan.fGen, .int .i64 y5.fMan.fSize, .int .i64 y5.fMan.fLen, .sl 2 (y5.fMan.fSums.map Sum.enc), .int .i64 y5.fBld.fHave, .sl 1 (y5.fBld.fBuf.map (eInt .u8)), .int .i64 y5.fPhase, .sl 5 (y5.fKids.map Kid.enc), .int .i64 y5.fDrops]), (24, .agg [.t (.bool y5.fOn), .t (.int .i64 y5.fBoss), .t (.int .i64 y5.fQuiet), .t (.int .i64 y5.fMan.fGen), .t (.int .i64 y5.fMan.fSize), .t (.int .i64 y5.fMan.fLen), .t (.sl 2 (y5.fMan.fSums.map Sum.enc)), .t (.int .i64 y5.fBld.fHave), .t (.sl 1 (y5.fBld.fBuf.map (eInt .u8))), .t (.int .i64 y5.fPhase), .t (.sl 5 (y5.fKids.map Kid.enc)), .t (.int .i64 y5.fDrops)]), (25, .t (.bool r6)), (26, .t (.bool (!r6)))], [], []⟩) (mo := []) (mr := []) (by kernel_rfl) (by kernel_rfl) (by kernel_rfl) (by kernel_rfl)) ?_
            refine Wp.ret ?_
            refine blkR ?_
            refine thenR ?_
            refine thenR ?_
            refine blkR ?_
            refine thenR ?_
            have hr := Option.some.inj h
            subst hr
            exact RetK [.t (.bool false)] (.one (.t (.bool false))) [] (by kernel_rfl) (by kernel_rfl) (.refl _) .nil
          · have h := cond_f h hc
            refine Wp.skip ?_
            refine blkN ?_
            refine thenN ?_
            refine Wp.regionS (pOf []) (rhoOf []) (by kernel_rfl) ?_
            refine Runs.all (by kernel_rfl) ?_
            refine thenN ?_
            exact ⟨(p0, p1, bAdd .i64 x2 1), h, Le.of (mo := []) (mr := []) (by kernel_rfl) (by kernel_rfl) (by kernel_rfl) (by kernel_rfl)⟩
        · have h := cond_f h hc
          refine Wp.exit ?_
          refine thenE ?_
          refine thenE ?_
          refine blkE ?_
          refine thenN ?_
          exact ⟨(), h, Le.of (mo := []) (mr := []) (by kernel_rfl) (by kernel_rfl) (by kernel_rfl) (by kernel_rfl)⟩
theorem laws_eqRecord_ok (u : Nat) (p0 : Record) (p1 : Record) (r : Bool) (h : laws_eqRecord u p0 p1 = some r) : CallOK Try.prog 161 [.agg [.t (.int .i64 p0.fGen), .t (.int .i64 p0.fSlot), .t (.int .i64 p0.fLen)], .agg [.t (.int .i64 p1.fGen), .t (.int .i64 p1.fSlot), .t (.int .i64 p1.fLen)]] (.one (.t (.bool r))) [] := by
  unfold laws_eqRecord at h
  refine CallOK.of_bodyK (fn := Try.f161) (m := false) [.agg [.t (.int .i64 p0.fGen), .t (.int .i64 p0.fSlot), .t (.int .i64 p0.fLen)], .agg [.t (.int .i64 p1.fGen), .t (.int .i64 p1.fSlot), .t (.int .i64 p1.fLen)]] (by kernel_rfl) rfl (by kernel_rfl) (by kernel_rfl) (by kernel_rfl) (by kernel_rfl) (by kernel_rfl) ?_
  refine Wp.seq ?_
  refine Wp.regionS (pOf []) (rhoOf []) (by kernel_rfl) ?_
  refine Runs.all (by kernel_rfl) ?_
  refine thenN ?_
  refine Wp.le (Le.of (s := ⟨[(2, .obj 2 0), (3, .obj 3 0), (4, .t (.bool false))], [(2, [.t (.int .i64 p0.fGen), .t (.int .i64 p0.fSlot), .t (.int .i64 p0.fLen)]), (3, [.t (.int .i64 p1.fGen), .t (.int .i64 p1.fSlot), .t (.int .i64 p1.fLen)])], []⟩) (mo := []) (mr := []) (by kernel_rfl) (by kernel_rfl) (by kernel_rfl) (by kernel_rfl)) ?_
  refine Wp.seq ?_
  refine Wp.seq ?_
  refine Wp.regionS (pOf []) (rhoOf []) (by kernel_rfl) ?_
  refine Runs.all (by kernel_rfl) ?_
  refine thenN ?_
  refine Wp.le (Le.of (s := ⟨[(2, .obj 2 0), (3, .obj 3 0), (4, .t (.bool false)), (9, .t (.bool (p0.fGen != p1.fGen)))], [(2, [.t (.int .i64 p0.fGen), .t (.int .i64 p0.fSlot), .t (.int .i64 p0.fLen)]), (3, [.t (.int .i64 p1.fGen), .t (.int .i64 p1.fSlot), .t (.int .i64 p1.fLen)])], []⟩) (mo := []) (mr := []) (by kernel_rfl) (by kernel_rfl) (by kernel_rfl) (by kernel_rfl)) ?_
  refine Wp.cond2 (b := p0.fGen != p1.fGen) (by kernel_rfl) (fun hc => ?_) (fun hc => ?_)
  · have h := cond_t h hc
    refine Wp.seq ?_
    refine Wp.regionS (pOf []) (rhoOf []) (by kernel_rfl) ?_
    refine Runs.all (by kernel_rfl) ?_
    refine thenN ?_
    refine Wp.le (Le.of (s := ⟨[(2, .obj 2 0), (3, .obj 3 0), (4, .t (.bool false))], [(2, [.t (.int .i64 p0.fGen), .t (.int .i64 p0.fSlot), .t (.int .i64 p0.fLen)]), (3, [.t (.int .i64 p1.fGen), .t (.int .i64 p1.fSlot), .t (.int .i64 p1.fLen)])], []⟩) (mo := []) (mr := []) (by kernel_rfl) (by kernel_rfl) (by kernel_rfl) (by kernel_rfl)) ?_
    refine Wp.ret ?_
    refine thenR ?_
    have hr := Option.some.inj h
    subst hr
    exact RetK [.t (.bool false)] (.one (.t (.bool false))) [] (by kernel_rfl) (by kernel_rfl) (.refl _) .nil
  · have h := cond_f h hc
    refine Wp.skip ?_
    refine thenN ?_
    refine Wp.seq ?_
    refine Wp.seq ?_
    refine Wp.regionS (pOf []) (rhoOf []) (by kernel_rfl) ?_
    refine Runs.all (by kernel_rfl) ?_
    refine thenN ?_
    refine Wp.le (Le.of (s := ⟨[(2, .obj 2 0), (3, .obj 3 0), (4, .t (.bool false)), (14, .t (.bool (p0.fSlot != p1.fSlot)))], [(2, [.t (.int .i64 p0.fGen), .t (.int .i64 p0.fSlot), .t (.int .i64 p0.fLen)]), (3, [.t (.int .i64 p1.fGen), .t (.int .i64 p1.fSlot), .t (.int .i64 p1.fLen)])], []⟩) (mo := []) (mr := []) (by kernel_rfl) (by kernel_rfl) (by kernel_rfl) (by kernel_rfl)) ?_
    refine Wp.cond2 (b := p0.fSlot != p1.fSlot) (by kernel_rfl) (fun hc => ?_) (fun hc => ?_)
    · have h := cond_t h hc
      refine Wp.seq ?_
      refine Wp.regionS (pOf []) (rhoOf []) (by kernel_rfl) ?_
      refine Runs.all (by kernel_rfl) ?_
      refine thenN ?_
      refine Wp.le (Le.of (s := ⟨[(2, .obj 2 0), (3, .obj 3 0), (4, .t (.bool false))], [(2, [.t (.int .i64 p0.fGen), .t (.int .i64 p0.fSlot), .t (.int .i64 p0.fLen)]), (3, [.t (.int .i64 p1.fGen), .t (.int .i64 p1.fSlot), .t (.int .i64 p1.fLen)])], []⟩) (mo := []) (mr := []) (by kernel_rfl) (by kernel_rfl) (by kernel_rfl) (by kernel_rfl)) ?_
      refine Wp.ret ?_
      refine thenR ?_
      have hr := Option.some.inj h
      subst hr
      exact RetK [.t (.bool false)] (.one (.t (.bool false))) [] (by kernel_rfl) (by kernel_rfl) (.refl _) .nil
    · have h := cond_f h hc
      refine Wp.skip ?_
      refine thenN ?_
      refine Wp.seq ?_
      refine Wp.seq ?_
      refine Wp.regionS (pOf []) (rhoOf []) (by kernel_rfl) ?_
      refine Runs.all (by kernel_rfl) ?_
      refine thenN ?_
      refine Wp.le (Le.of (s := ⟨[(4, .t (.bool false)), (19, .t (.bool (p0.fLen != p1.fLen)))], [], []⟩) (mo := []) (mr := []) (by kernel_rfl) (by kernel_rfl) (by kernel_rfl) (by kernel_rfl)) ?_
      refine Wp.cond2 (b := p0.fLen != p1.fLen) (by kernel_rfl) (fun hc => ?_) (fun hc => ?_)
      · have h := cond_t h hc
        refine Wp.seq ?_
        refine Wp.regionS (pOf []) (rhoOf []) (by kernel_rfl) ?_
        refine Runs.all (by kernel_rfl) ?_
        refine thenN ?_
        refine Wp.le (Le.of (s := ⟨[(4, .t (.bool false))], [], []⟩) (mo := []) (mr := []) (by kernel_rfl) (by kernel_rfl) (by kernel_rfl) (by kernel_rfl)) ?_
        refine Wp.ret ?_
        refine thenR ?_
        have hr := Option.some.inj h
        subst hr
        exact RetK [.t (.bool false)] (.one (.t (.bool false))) [] (by kernel_rfl) (by kernel_rfl) (.refl _) .nil
      · have h := cond_f h hc
        refine Wp.skip ?_
        refine thenN ?_
        refine Wp.seq ?_
        refine Wp.regionS (pOf []) (rhoOf []) (by kernel_rfl) ?_
        refine Runs.all (by kernel_rfl) ?_
        refine thenN ?_
        refine Wp.le (Le.of (s := ⟨[(4, .t (.bool true))], [], []⟩) (mo := []) (mr := []) (by kernel_rfl) (by kernel_rfl) (by kernel_rfl) (by kernel_rfl)) ?_
        refine Wp.ret ?_
        have hr := Option.some.inj h
        subst hr
        exact RetK [.t (.bool true)] (.one (.t (.bool true))) [] (by kernel_rfl) (by kernel_rfl) (.refl _) .nil
theorem laws_eqPut_ok (u : Nat) (p0 : Put) (p1 : Put) (r : Bool) (h : laws_eqPut u p0 p1 = some r) : CallOK Try.prog 188 [.agg [.t (.int .i64 p0.fWhat), .t (.int .i64 p0.fAt), .t (.sl 1 (p0.fB.map (eInt .u8))), .t (.int .i64 p0.fR.fGen), .t (.int .i64 p0.fR.fSlot), .t (.int .i64 p0.fR.fLen)], .agg [.t (.int .i64 p1.fWhat), .t (.int .i64 p1.fAt), .t (.sl 1 (p1.fB.map (eInt .u8))), .t (.int .i64 p1.fR.fGen), .t (.int .i64 p1.fR.fSlot), .t (.int .i64 p1.fR.fLen)]] (.one (.t (.bool r))) [] := by
  unfold laws_eqPut at h
  refine CallOK.of_bodyK (fn := Try.f188) (m := false) [.agg [.t (.int .i64 p0.fWhat), .t (.int .i64 p0.fAt), .t (.sl 1 (p0.fB.map (eInt .u8))), .t (.int .i64 p0.fR.fGen), .t (.int .i64 p0.fR.fSlot), .t (.int .i64 p0.fR.fLen)], .agg [.t (.int .i64 p1.fWhat), .t (.int .i64 p1.fAt), .t (.sl 1 (p1.fB.map (eInt .u8))), .t (.int .i64 p1.fR.fGen), .t (.int .i64 p1.fR.fSlot), .t (.int .i64 p1.fR.fLen)]] (by kernel_rfl) rfl (by kernel_rfl) (by kernel_rfl) (by kernel_rfl) (by kernel_rfl) (by kernel_rfl) ?_
  refine Wp.seq ?_
  refine Wp.regionS (pOf []) (rhoOf []) (by kernel_rfl) ?_
  refine Runs.all (by kernel_rfl) ?_
  refine thenN ?_
  refine Wp.le (Le.of (s := ⟨[(2, .obj 2 0), (3, .obj 3 0), (4, .t (.bool false))], [(2, [.t (.int .i64 p0.fWhat), .t (.int .i64 p0.fAt), .t (.sl 1 (p0.fB.map (eInt .u8))), .t (.int .i64 p0.fR.fGen), .t (.int .i64 p0.fR.fSlot), .t (.int .i64 p0.fR.fLen)]), (3, [.t (.int .i64 p1.fWhat), .t (.int .i64 p1.fAt), .t (.sl 1 (p1.fB.map (eInt .u8))), .t (.int .i64 p1.fR.fGen), .t (.int .i64 p1.fR.fSlot), .t (.int .i64 p1.fR.fLen)])], []⟩) (mo := []) (mr := []) (by kernel_rfl) (by kernel_rfl) (by kernel_rfl) (by kernel_rfl)) ?_
  refine Wp.seq ?_
  refine Wp.seq ?_
  refine Wp.regionS (pOf []) (rhoOf []) (by kernel_rfl) ?_
  refine Runs.all (by kernel_rfl) ?_
  refine thenN ?_
  refine Wp.le (Le.of (s := ⟨[(2, .obj 2 0), (3, .obj 3 0), (4, .t (.bool false)), (9, .t (.bool (p0.fWhat != p1.fWhat)))], [(2, [.t (.int .i64 p0.fWhat), .t (.int .i64 p0.fAt), .t (.sl 1 (p0.fB.map (eInt .u8))), .t (.int .i64 p0.fR.fGen), .t (.int .i64 p0.fR.fSlot), .t (.int .i64 p0.fR.fLen)]), (3, [.t (.int .i64 p1.fWhat), .t (.int .i64 p1.fAt), .t (.sl 1 (p1.fB.map (eInt .u8))), .t (.int .i64 p1.fR.fGen), .t (.int .i64 p1.fR.fSlot), .t (.int .i64 p1.fR.fLen)])], []⟩) (mo := []) (mr := []) (by kernel_rfl) (by kernel_rfl) (by kernel_rfl) (by kernel_rfl)) ?_
  refine Wp.cond2 (b := p0.fWhat != p1.fWhat) (by kernel_rfl) (fun hc => ?_) (fun hc => ?_)
  · have h := cond_t h hc
    refine Wp.seq ?_
    refine Wp.regionS (pOf []) (rhoOf []) (by kernel_rfl) ?_
    refine Runs.all (by kernel_rfl) ?_
    refine thenN ?_
    refine Wp.le (Le.of (s := ⟨[(2, .obj 2 0), (3, .obj 3 0), (4, .t (.bool false))], [(2, [.t (.int .i64 p0.fWhat), .t (.int .i64 p0.fAt), .t (.sl 1 (p0.fB.map (eInt .u8))), .t (.int .i64 p0.fR.fGen), .t (.int .i64 p0.fR.fSlot), .t (.int .i64 p0.fR.fLen)]), (3, [.t (.int .i64 p1.fWhat), .t (.int .i64 p1.fAt), .t (.sl 1 (p1.fB.map (eInt .u8))), .t (.int .i64 p1.fR.fGen), .t (.int .i64 p1.fR.fSlot), .t (.int .i64 p1.fR.fLen)])], []⟩) (mo := []) (mr := []) (by kernel_rfl) (by kernel_rfl) (by kernel_rfl) (by kernel_rfl)) ?_
    refine Wp.ret ?_
    refine thenR ?_
    have hr := Option.some.inj h
    subst hr
    exact RetK [.t (.bool false)] (.one (.t (.bool false))) [] (by kernel_rfl) (by kernel_rfl) (.refl _) .nil
  · have h := cond_f h hc
    refine Wp.skip ?_
    refine thenN ?_
    refine Wp.seq ?_
    refine Wp.seq ?_
    refine Wp.regionS (pOf []) (rhoOf []) (by kernel_rfl) ?_
    refine Runs.all (by kernel_rfl) ?_
    refine thenN ?_
    refine Wp.le (Le.of (s := ⟨[(2, .obj 2 0), (3, .obj 3 0), (4, .t (.bool false)), (14, .t (.bool (p0.fAt != p1.fAt)))], [(2, [.t (.int .i64 p0.fWhat), .t (.int .i64 p0.fAt), .t (.sl 1 (p0.fB.map (eInt .u8))), .t (.int .i64 p0.fR.fGen), .t (.int .i64 p0.fR.fSlot), .t (.int .i64 p0.fR.fLen)]), (3, [.t (.int .i64 p1.fWhat), .t (.int .i64 p1.fAt), .t (.sl 1 (p1.fB.map (eInt .u8))), .t (.int .i64 p1.fR.fGen), .t (.int .i64 p1.fR.fSlot), .t (.int .i64 p1.fR.fLen)])], []⟩) (mo := []) (mr := []) (by kernel_rfl) (by kernel_rfl) (by kernel_rfl) (by kernel_rfl)) ?_
    refine Wp.cond2 (b := p0.fAt != p1.fAt) (by kernel_rfl) (fun hc => ?_) (fun hc => ?_)
    · have h := cond_t h hc
      refine Wp.seq ?_
      refine Wp.regionS (pOf []) (rhoOf []) (by kernel_rfl) ?_
      refine Runs.all (by kernel_rfl) ?_
      refine thenN ?_
      refine Wp.le (Le.of (s := ⟨[(2, .obj 2 0), (3, .obj 3 0), (4, .t (.bool false))], [(2, [.t (.int .i64 p0.fWhat), .t (.int .i64 p0.fAt), .t (.sl 1 (p0.fB.map (eInt .u8))), .t (.int .i64 p0.fR.fGen), .t (.int .i64 p0.fR.fSlot), .t (.int .i64 p0.fR.fLen)]), (3, [.t (.int .i64 p1.fWhat), .t (.int .i64 p1.fAt), .t (.sl 1 (p1.fB.map (eInt .u8))), .t (.int .i64 p1.fR.fGen), .t (.int .i64 p1.fR.fSlot), .t (.int .i64 p1.fR.fLen)])], []⟩) (mo := []) (mr := []) (by kernel_rfl) (by kernel_rfl) (by kernel_rfl) (by kernel_rfl)) ?_
      refine Wp.ret ?_
      refine thenR ?_
      have hr := Option.some.inj h
      subst hr
      exact RetK [.t (.bool false)] (.one (.t (.bool false))) [] (by kernel_rfl) (by kernel_rfl) (.refl _) .nil
    · have h := cond_f h hc
      refine Wp.skip ?_
      refine thenN ?_
      refine Wp.seq ?_
      refine Wp.seq ?_
      refine Wp.regionS (pOf []) (rhoOf []) (by kernel_rfl) ?_
      refine Runs.batch 4 (by kernel_rfl) ?_
      obtain ⟨r1, e_r1, h⟩ := bind_some h
      refine Runs.callK false 19 16 [] [.t (.sl 1 (p0.fB.map (eInt .u8))), .t (.sl 1 (p1.fB.map (eInt .u8)))] [.one (.t (.sl 1 (p0.fB.map (eInt .u8)))), .one (.t (.sl 1 (p1.fB.map (eInt .u8))))] (.one (.t (.bool r1))) [] rfl rfl (by kernel_rfl) (by kernel_rfl) (by kernel_rfl) (by kernel_rfl) (by kernel_rfl) (laws_eqByteS_ok u p0.fB p1.fB r1 e_r1) (by kernel_rfl) ?_
      refine Runs.all (by kernel_rfl) ?_
      refine thenN ?_
      refine Wp.le (Le.of (s := ⟨[(2, .obj 2 0), (3, .obj 3 0), (4, .t (.bool false)), (20, .t (.bool (!r1)))], [(2, [.t (.int .i64 p0.fWhat), .t (.int .i64 p0.fAt), .t (.sl 1 (p0.fB.map (eInt .u8))), .t (.int .i64 p0.fR.fGen), .t (.int .i64 p0.fR.fSlot), .t (.int .i64 p0.fR.fLen)]), (3, [.t (.int .i64 p1.fWhat), .t (.int .i64 p1.fAt), .t (.sl 1 (p1.fB.map (eInt .u8))), .t (.int .i64 p1.fR.fGen), .t (.int .i64 p1.fR.fSlot), .t (.int .i64 p1.fR.fLen)])], []⟩) (mo := []) (mr := []) (by kernel_rfl) (by kernel_rfl) (by kernel_rfl) (by kernel_rfl)) ?_
      refine Wp.cond2 (b := !r1) (by kernel_rfl) (fun hc => ?_) (fun hc => ?_)
      · have h := cond_t h hc
        refine Wp.seq ?_
        refine Wp.regionS (pOf []) (rhoOf []) (by kernel_rfl) ?_
        refine Runs.all (by kernel_rfl) ?_
        refine thenN ?_
        refine Wp.le (Le.of (s := ⟨[(2, .obj 2 0), (3, .obj 3 0), (4, .t (.bool false))], [(2, [.t (.int .i64 p0.fWhat), .t (.int .i64 p0.fAt), .t (.sl 1 (p0.fB.map (eInt .u8))), .t (.int .i64 p0.fR.fGen), .t (.int .i64 p0.fR.fSlot), .t (.int .i64 p0.fR.fLen)]), (3, [.t (.int .i64 p1.fWhat), .t (.int .i64 p1.fAt), .t (.sl 1 (p1.fB.map (eInt .u8))), .t (.int .i64 p1.fR.fGen), .t (.int .i64 p1.fR.fSlot), .t (.int .i64 p1.fR.fLen)])], []⟩) (mo := []) (mr := []) (by kernel_rfl) (by kernel_rfl) (by kernel_rfl) (by kernel_rfl)) ?_
        refine Wp.ret ?_
        refine thenR ?_
        have hr := Option.some.inj h
        subst hr
        exact RetK [.t (.bool false)] (.one (.t (.bool false))) [] (by kernel_rfl) (by kernel_rfl) (.refl _) .nil
      · have h := cond_f h hc
        refine Wp.skip ?_
        refine thenN ?_
        refine Wp.seq ?_
        refine Wp.seq ?_
        refine Wp.regionS (pOf []) (rhoOf []) (by kernel_rfl) ?_
        refine Runs.batch 4 (by kernel_rfl) ?_
        obtain ⟨r2, e_r2, h⟩ := bind_some h
        refine Runs.callK false 25 161 [] [.agg [.t (.int .i64 p0.fR.fGen), .t (.int .i64 p0.fR.fSlot), .t (.int .i64 p0.fR.fLen)], .agg [.t (.int .i64 p1.fR.fGen), .t (.int .i64 p1.fR.fSlot), .t (.int .i64 p1.fR.fLen)]] [.agg [.t (.int .i64 p0.fR.fGen), .t (.int .i64 p0.fR.fSlot), .t (.int .i64 p0.fR.fLen)], .agg [.t (.int .i64 p1.fR.fGen), .t (.int .i64 p1.fR.fSlot), .t (.int .i64 p1.fR.fLen)]] (.one (.t (.bool r2))) [] rfl rfl (by kernel_rfl) (by kernel_rfl) (by kernel_rfl) (by kernel_rfl) (by kernel_rfl) (laws_eqRecord_ok u p0.fR p1.fR r2 e_r2) (by kernel_rfl) ?_
        refine Runs.all (by kernel_rfl) ?_
        refine thenN ?_
        refine Wp.le (Le.of (s := ⟨[(4, .t (.bool false)), (26, .t (.bool (!r2)))], [], []⟩) (mo := []) (mr := []) (by kernel_rfl) (by kernel_rfl) (by kernel_rfl) (by kernel_rfl)) ?_
        refine Wp.cond2 (b := !r2) (by kernel_rfl) (fun hc => ?_) (fun hc => ?_)
        · have h := cond_t h hc
          refine Wp.seq ?_
          refine Wp.regionS (pOf []) (rhoOf []) (by kernel_rfl) ?_
          refine Runs.all (by kernel_rfl) ?_
          refine thenN ?_
          refine Wp.le (Le.of (s := ⟨[(4, .t (.bool false))], [], []⟩) (mo := []) (mr := []) (by kernel_rfl) (by kernel_rfl) (by kernel_rfl) (by kernel_rfl)) ?_
          refine Wp.ret ?_
          refine thenR ?_
          have hr := Option.some.inj h
          subst hr
          exact RetK [.t (.bool false)] (.one (.t (.bool false))) [] (by kernel_rfl) (by kernel_rfl) (.refl _) .nil
        · have h := cond_f h hc
          refine Wp.skip ?_
          refine thenN ?_
          refine Wp.seq ?_
          refine Wp.regionS (pOf []) (rhoOf []) (by kernel_rfl) ?_
          refine Runs.all (by kernel_rfl) ?_
          refine thenN ?_
          refine Wp.le (Le.of (s := ⟨[(4, .t (.bool true))], [], []⟩) (mo := []) (mr := []) (by kernel_rfl) (by kernel_rfl) (by kernel_rfl) (by kernel_rfl)) ?_
          refine Wp.ret ?_
          have hr := Option.some.inj h
          subst hr
          exact RetK [.t (.bool true)] (.one (.t (.bool true))) [] (by kernel_rfl) (by kernel_rfl) (.refl _) .nil
theorem laws_eqPutS_ok (u : Nat) (p0 : List Put) (p1 : List Put) (r : Bool) (h : laws_eqPutS u p0 p1 = some r) : CallOK Try.prog 162 [.one (.t (.sl 6 (p0.map Put.enc))), .one (.t (.sl 6 (p1.map Put.enc)))] (.one (.t (.bool r))) [] := by
  unfold laws_eqPutS at h
  refine CallOK.of_bodyK (fn := Try.f162) (m := false) [.t (.sl 6 (p0.map Put.enc)), .t (.sl 6 (p1.map Put.enc))] (by kernel_rfl) rfl (by kernel_rfl) (by kernel_rfl) (by kernel_rfl) (by kernel_rfl) (by kernel_rfl) ?_
  refine Wp.seq ?_
  refine Wp.regionS (pOf []) (rhoOf []) (by kernel_rfl) ?_
  refine Runs.all (by kernel_rfl) ?_
  refine thenN ?_
  refine Wp.le (Le.of (s := ⟨[(0, .t (.sl 6 (p0.map Put.enc))), (1, .t (.sl 6 (p1.map Put.enc))), (4, .t (.bool false))], [], []⟩) (mo := []) (mr := []) (by kernel_rfl) (by kernel_rfl) (by kernel_rfl) (by kernel_rfl)) ?_
  refine Wp.seq ?_
  refine Wp.seq ?_
  refine Wp.regionS (pOf []) (rhoOf []) (by kernel_rfl) ?_
  refine Runs.batch 1 (by kernel_rfl) ?_
  refine Runs.lenT (y := .t (.sl 6 (p0.map Put.enc))) (e := 158) Put.enc p0 6 rfl rfl rfl (by kernel_rfl) (by kernel_rfl) (by kernel_rfl) (by kernel_rfl) (by kernel_rfl) ?_
  refine Runs.batch 1 (by kernel_rfl) ?_
  refine Runs.lenT (y := .t (.sl 6 (p1.map Put.enc))) (e := 158) Put.enc p1 6 rfl rfl rfl (by kernel_rfl) (by kernel_rfl) (by kernel_rfl) (by kernel_rfl) (by kernel_rfl) ?_
  refine Runs.all (by kernel_rfl) ?_
  refine thenN ?_
  refine Wp.le (Le.of (s := ⟨[(0, .t (.sl 6 (p0.map Put.enc))), (1, .t (.sl 6 (p1.map Put.enc))), (4, .t (.bool false)), (10, .t (.bool (((p0.length : Int)) != ((p1.length : Int)))))], [], []⟩) (mo := []) (mr := []) (by kernel_rfl) (by kernel_rfl) (by kernel_rfl) (by kernel_rfl)) ?_
  refine Wp.cond2 (b := ((p0.length : Int)) != ((p1.length : Int))) (by kernel_rfl) (fun hc => ?_) (fun hc => ?_)
  · have h := cond_t h hc
    refine Wp.seq ?_
    refine Wp.regionS (pOf []) (rhoOf []) (by kernel_rfl) ?_
    refine Runs.all (by kernel_rfl) ?_
    refine thenN ?_
    refine Wp.le (Le.of (s := ⟨[(0, .t (.sl 6 (p0.map Put.enc))), (1, .t (.sl 6 (p1.map Put.enc))), (4, .t (.bool false))], [], []⟩) (mo := []) (mr := []) (by kernel_rfl) (by kernel_rfl) (by kernel_rfl) (by kernel_rfl)) ?_
    refine Wp.ret ?_
    refine thenR ?_
    have hr := Option.some.inj h
    subst hr
    exact RetK [.t (.bool false)] (.one (.t (.bool false))) [] (by kernel_rfl) (by kernel_rfl) (.refl _) .nil
  · have h := cond_f h hc
    refine Wp.skip ?_
    refine thenN ?_
    refine Wp.seqJ (α := Unit) (fun a => ⟨[(4, .t (.bool false))], [], []⟩) (fun a => laws_eqPutS_j1 u = some r) ?_ ?_
    · rintro ⟨⟩ h
      change laws_eqPutS_j1 u = some r at h
      unfold laws_eqPutS_j1 at h
      refine Wp.seq ?_
      refine Wp.regionS (pOf []) (rhoOf []) (by kernel_rfl) ?_
      refine Runs.all (by kernel_rfl) ?_
      refine thenN ?_
      refine Wp.le (Le.of (s := ⟨[(4, .t (.bool true))], [], []⟩) (mo := []) (mr := []) (by kernel_rfl) (by kernel_rfl) (by kernel_rfl) (by kernel_rfl)) ?_
      refine Wp.ret ?_
      have hr := Option.some.inj h
      subst hr
      exact RetK [.t (.bool true)] (.one (.t (.bool true))) [] (by kernel_rfl) (by kernel_rfl) (.refl _) .nil
    · refine Wp.seq ?_
      refine Wp.regionS (pOf []) (rhoOf []) (by kernel_rfl) ?_
      refine Runs.all (by kernel_rfl) ?_
      refine thenN ?_
      refine Wp.le (Le.of (s := ⟨[(0, .t (.sl 6 (p0.map Put.enc))), (1, .t (.sl 6 (p1.map Put.enc))), (4, .t (.bool false)), (5, .t (.int .i64 0))], [], []⟩) (mo := []) (mr := []) (by kernel_rfl) (by kernel_rfl) (by kernel_rfl) (by kernel_rfl)) ?_
      refine Wp.block ?_
      refine Wp.loopF (α := (List Put) × (List Put) × Int) (fun a => ⟨[(0, .t (.sl 6 (a.1.map Put.enc))), (1, .t (.sl 6 (a.2.1.map Put.enc))), (4, .t (.bool false)), (5, .t (.int .i64 a.2.2))], [], []⟩) (fun k_laws_eqPutS_l2 a => laws_eqPutS_l2 u k_laws_eqPutS_l2 a.1 a.2.1 a.2.2 = some r) ?_ ?_ u (p0, p1, 0) h (Le.of (mo := []) (mr := []) (by kernel_rfl) (by kernel_rfl) (by kernel_rfl) (by kernel_rfl))
      · intro a h; unfold laws_eqPutS_l2 at h; cases h
      · rintro k_laws_eqPutS_l2 ⟨p0, p1, x2⟩ h
        change laws_eqPutS_l2 u (k_laws_eqPutS_l2 + 1) p0 p1 x2 = some r at h
        rw [laws_eqPutS_l2] at h
        refine Wp.seq ?_
        refine Wp.seq ?_
        refine Wp.regionS (pOf []) (rhoOf []) (by kernel_rfl) ?_
        refine Runs.batch 2 (by kernel_rfl) ?_
        refine Runs.lenT (y := .t (.sl 6 (p0.map Put.enc))) (e := 158) Put.enc p0 6 rfl rfl rfl (by kernel_rfl) (by kernel_rfl) (by kernel_rfl) (by kernel_rfl) (by kernel_rfl) ?_
        refine Runs.all (by kernel_rfl) ?_
        refine thenN ?_
        refine Wp.le (Le.of (s := ⟨[(0, .t (.sl 6 (p0.map Put.enc))), (1, .t (.sl 6 (p1.map Put.enc))), (4, .t (.bool false)), (5, .t (.int .i64 x2)), (11, .t (.int .i64 x2)), (12, .t (.sl 6 (p0.map Put.enc))), (13, .t (.int .i64 ((p0.length : Int)))), (14, .t (.bool (decide (x2 < ((p0.length : Int))))))], [], []⟩) (mo := []) (mr := []) (by kernel_rfl) (by kernel_rfl) (by kernel_rfl) (by kernel_rfl)) ?_
        refine Wp.cond2 (b := decide (x2 < ((p0.length : Int)))) (by kernel_rfl) (fun hc => ?_) (fun hc => ?_)
        · have h := cond_t h hc
          refine Wp.skip ?_
          refine thenN ?_
          refine Wp.seq ?_
          refine Wp.block ?_
          refine Wp.seq ?_
          refine Wp.regionA (pOf []) (rhoOf [(0, .frz), (1, .frz), (5, .frz), (17, .frz), (18, .frz), (19, .frz), (20, .frz), (21, .frz), (22, .frz), (23, .frz), (24, .frz), (25, .frz)]) (by kernel_rfl) (by kernel_rfl) ?_
          refine Runs.batch 2 (by kernel_rfl) ?_
          obtain ⟨y4, e_y4, h⟩ := bind_some h
          refine Runs.idxT (e := 158) (kk := .i64) (sz := 6) Put.enc p0 x2 rfl (by kernel_rfl) (by kernel_rfl) (by kernel_rfl) (by kernel_rfl) (by kernel_rfl) (by kernel_rfl) e_y4 ?_
          refine Runs.batch 3 (by kernel_rfl) ?_
          obtain ⟨y5, e_y5, h⟩ := bind_some h
          refine Runs.idxT (e := 158) (kk := .i64) (sz := 6) Put.enc p1 x2 rfl (by kernel_rfl) (by kernel_rfl) (by kernel_rfl) (by kernel_rfl) (by kernel_rfl) (by kernel_rfl) e_y5 ?_
          refine Runs.batch 1 (by kernel_rfl) ?_
          obtain ⟨r6, e_r6, h⟩ := bind_some h
          refine Runs.callK false 25 188 [] [.agg [.t (.int .i64 y4.fWhat), .t (.int .i64 y4.fAt), .t (.sl 1 (y4.fB.map (eInt .u8))), .t (.int .i64 y4.fR.fGen), .t (.int .i64 y4.fR.fSlot), .t (.int .i64 y4.fR.fLen)], .agg [.t (.int .i64 y5.fWhat), .t (.int .i64 y5.fAt), .t (.sl 1 (y5.fB.map (eInt .u8))), .t (.int .i64 y5.fR.fGen), .t (.int .i64 y5.fR.fSlot), .t (.int .i64 y5.fR.fLen)]] [.agg [.t (.int .i64 y4.fWhat), .t (.int .i64 y4.fAt), .t (.sl 1 (y4.fB.map (eInt .u8))), .t (.int .i64 y4.fR.fGen), .t (.int .i64 y4.fR.fSlot), .t (.int .i64 y4.fR.fLen)], .agg [.t (.int .i64 y5.fWhat), .t (.int .i64 y5.fAt), .t (.sl 1 (y5.fB.map (eInt .u8))), .t (.int .i64 y5.fR.fGen), .t (.int .i64 y5.fR.fSlot), .t (.int .i64 y5.fR.fLen)]] (.one (.t (.bool r6))) [] rfl rfl (by kernel_rfl) (by kernel_rfl) (by kernel_rfl) (by kernel_rfl) (by kernel_rfl) (laws_eqPut_ok u y4 y5 r6 e_r6) (by kernel_rfl) ?_
          refine Runs.all (by kernel_rfl) ?_
          refine thenN ?_
          refine Wp.le (Le.of (s := ⟨[(0, .t (.sl 6 (p0.map Put.enc))), (1, .t (.sl 6 (p1.map Put.enc))), (4, .t (.bool false)), (5, .t (.int .i64 x2)), (11, .t (.int .i64 x2)), (12, .t (.sl 6 (p0.map Put.enc))), (13, .t (.int .i64 ((p0.length : Int)))), (14, .t (.bool (decide (x2 < ((p0.length : Int)))))), (17, .t (.sl 6 (p0.map Put.enc))), (18, .t (.int .i64 x2)), (19, .fadr [.int .i64 y4.fWhat, .int .i64 y4.fAt, .sl 1 (y4.fB.map (eInt .u8)), .int .i64 y4.fR.fGen, .int .i64 y4.fR.fSlot, .int .i64 y4.fR.fLen]), (20, .agg [.t (.int .i64 y4.fWhat), .t (.int .i64 y4.fAt), .t (.sl 1 (y4.fB.map (eInt .u8))), .t (.int .i64 y4.fR.fGen), .t (.int .i64 y4.fR.fSlot), .t (.int .i64 y4.fR.fLen)]), (21, .t (.sl 6 (p1.map Put.enc))), (22, .t (.int .i64 x2)), (23, .fadr [.int .i64 y5.fWhat, .int .i64 y5.fAt, .sl 1 (y5.fB.map (eInt .u8)), .int .i64 y5.fR.fGen, .int .i64 y5.fR.fSlot, .int .i64 y5.fR.fLen]), (24, .agg [.t (.int .i64 y5.fWhat), .t (.int .i64 y5.fAt), .t (.sl 1 (y5.fB.map (eInt .u8))), .t (.int .i64 y5.fR.fGen), .t (.int .i64 y5.fR.fSlot), .t (.int .i64 y5.fR.fLen)]), (25, .t (.bool r6)), (26, .t (.bool (!r6)))], [], []⟩) (mo := []) (mr := []) (by kernel_rfl) (by kernel_rfl) (by kernel_rfl) (by kernel_rfl)) ?_
          refine Wp.cond2 (b := !r6) (by kernel_rfl) (fun hc => ?_) (fun hc => ?_)
          · have h := cond_t h hc
            refine Wp.seq ?_
            refine Wp.regionS (pOf []) (rhoOf []) (by kernel_rfl) ?_
            refine Runs.all (by kernel_rfl) ?_
            refine thenN ?_
            refine Wp.le (Le.of (s := ⟨[(0, .t (.sl 6 (p0.map Put.enc))), (1, .t (.sl 6 (p1.map Put.enc))), (4, .t (.bool false)), (5, .t (.int .i64 x2)), (11, .t (.int .i64 x2)), (12, .t (.sl 6 (p0.map Put.enc))), (13, .t (.int .i64 ((p0.length : Int)))), (14, .t (.bool (decide (x2 < ((p0.length : Int)))))), (17, .t (.sl 6 (p0.map Put.enc))), (18, .t (.int .i64 x2)), (19, .fadr [.int .i64 y4.fWhat, .int .i64 y4.fAt, .sl 1 (y4.fB.map (eInt .u8)), .int .i64 y4.fR.fGen, .int .i64 y4.fR.fSlot, .int .i64 y4.fR.fLen]), (20, .agg [.t (.int .i64 y4.fWhat), .t (.int .i64 y4.fAt), .t (.sl 1 (y4.fB.map (eInt .u8))), .t (.int .i64 y4.fR.fGen), .t (.int .i64 y4.fR.fSlot), .t (.int .i64 y4.fR.fLen)]), (21, .t (.sl 6 (p1.map Put.enc))), (22, .t (.int .i64 x2)), (23, .fadr [.int .i64 y5.fWhat, .int .i64 y5.fAt, .sl 1 (y5.fB.map (eInt .u8)), .int .i64 y5.fR.fGen, .int .i64 y5.fR.fSlot, .int .i64 y5.fR.fLen]), (24, .agg [.t (.int .i64 y5.fWhat), .t (.int .i64 y5.fAt), .t (.sl 1 (y5.fB.map (eInt .u8))), .t (.int .i64 y5.fR.fGen), .t (.int .i64 y5.fR.fSlot), .t (.int .i64 y5.fR.fLen)]), (25, .t (.bool r6)), (26, .t (.bool (!r6)))], [], []⟩) (mo := []) (mr := []) (by kernel_rfl) (by kernel_rfl) (by kernel_rfl) (by kernel_rfl)) ?_
            refine Wp.ret ?_
            refine blkR ?_
            refine thenR ?_
            refine thenR ?_
            refine blkR ?_
            refine thenR ?_
            have hr := Option.some.inj h
            subst hr
            exact RetK [.t (.bool false)] (.one (.t (.bool false))) [] (by kernel_rfl) (by kernel_rfl) (.refl _) .nil
          · have h := cond_f h hc
            refine Wp.skip ?_
            refine blkN ?_
            refine thenN ?_
            refine Wp.regionS (pOf []) (rhoOf []) (by kernel_rfl) ?_
            refine Runs.all (by kernel_rfl) ?_
            refine thenN ?_
            exact ⟨(p0, p1, bAdd .i64 x2 1), h, Le.of (mo := []) (mr := []) (by kernel_rfl) (by kernel_rfl) (by kernel_rfl) (by kernel_rfl)⟩
        · have h := cond_f h hc
          refine Wp.exit ?_
          refine thenE ?_
          refine thenE ?_
          refine blkE ?_
          refine thenN ?_
          exact ⟨(), h, Le.of (mo := []) (mr := []) (by kernel_rfl) (by kernel_rfl) (by kernel_rfl) (by kernel_rfl)⟩
theorem laws_eqDisk_ok (u : Nat) (p0 : Disk) (p1 : Disk) (r : Bool) (h : laws_eqDisk u p0 p1 = some r) : CallOK Try.prog 118 [.agg [.t (.sl 1 (p0.fA.map (eInt .u8))), .t (.sl 1 (p0.fB.map (eInt .u8))), .t (.int .i64 p0.fR.fGen), .t (.int .i64 p0.fR.fSlot), .t (.int .i64 p0.fR.fLen), .t (.sl 6 (p0.fP.map Put.enc))], .agg [.t (.sl 1 (p1.fA.map (eInt .u8))), .t (.sl 1 (p1.fB.map (eInt .u8))), .t (.int .i64 p1.fR.fGen), .t (.int .i64 p1.fR.fSlot), .t (.int .i64 p1.fR.fLen), .t (.sl 6 (p1.fP.map Put.enc))]] (.one (.t (.bool r))) [] := by
  unfold laws_eqDisk at h
  refine CallOK.of_bodyK (fn := Try.f118) (m := false) [.agg [.t (.sl 1 (p0.fA.map (eInt .u8))), .t (.sl 1 (p0.fB.map (eInt .u8))), .t (.int .i64 p0.fR.fGen), .t (.int .i64 p0.fR.fSlot), .t (.int .i64 p0.fR.fLen), .t (.sl 6 (p0.fP.map Put.enc))], .agg [.t (.sl 1 (p1.fA.map (eInt .u8))), .t (.sl 1 (p1.fB.map (eInt .u8))), .t (.int .i64 p1.fR.fGen), .t (.int .i64 p1.fR.fSlot), .t (.int .i64 p1.fR.fLen), .t (.sl 6 (p1.fP.map Put.enc))]] (by kernel_rfl) rfl (by kernel_rfl) (by kernel_rfl) (by kernel_rfl) (by kernel_rfl) (by kernel_rfl) ?_
  refine Wp.seq ?_
  refine Wp.regionS (pOf []) (rhoOf []) (by kernel_rfl) ?_
  refine Runs.all (by kernel_rfl) ?_
  refine thenN ?_
  refine Wp.le (Le.of (s := ⟨[(2, .obj 2 0), (3, .obj 3 0), (4, .t (.bool false))], [(2, [.t (.sl 1 (p0.fA.map (eInt .u8))), .t (.sl 1 (p0.fB.map (eInt .u8))), .t (.int .i64 p0.fR.fGen), .t (.int .i64 p0.fR.fSlot), .t (.int .i64 p0.fR.fLen), .t (.sl 6 (p0.fP.map Put.enc))]), (3, [.t (.sl 1 (p1.fA.map (eInt .u8))), .t (.sl 1 (p1.fB.map (eInt .u8))), .t (.int .i64 p1.fR.fGen), .t (.int .i64 p1.fR.fSlot), .t (.int .i64 p1.fR.fLen), .t (.sl 6 (p1.fP.map Put.enc))])], []⟩) (mo := []) (mr := []) (by kernel_rfl) (by kernel_rfl) (by kernel_rfl) (by kernel_rfl)) ?_
  refine Wp.seq ?_
  refine Wp.seq ?_
  refine Wp.regionS (pOf []) (rhoOf []) (by kernel_rfl) ?_
  refine Runs.batch 4 (by kernel_rfl) ?_
  obtain ⟨r1, e_r1, h⟩ := bind_some h
  refine Runs.callK false 9 16 [] [.t (.sl 1 (p0.fA.map (eInt .u8))), .t (.sl 1 (p1.fA.map (eInt .u8)))] [.one (.t (.sl 1 (p0.fA.map (eInt .u8)))), .one (.t (.sl 1 (p1.fA.map (eInt .u8))))] (.one (.t (.bool r1))) [] rfl rfl (by kernel_rfl) (by kernel_rfl) (by kernel_rfl) (by kernel_rfl) (by kernel_rfl) (laws_eqByteS_ok u p0.fA p1.fA r1 e_r1) (by kernel_rfl) ?_
  refine Runs.all (by kernel_rfl) ?_
  refine thenN ?_
  refine Wp.le (Le.of (s := ⟨[(2, .obj 2 0), (3, .obj 3 0), (4, .t (.bool false)), (10, .t (.bool (!r1)))], [(2, [.t (.sl 1 (p0.fA.map (eInt .u8))), .t (.sl 1 (p0.fB.map (eInt .u8))), .t (.int .i64 p0.fR.fGen), .t (.int .i64 p0.fR.fSlot), .t (.int .i64 p0.fR.fLen), .t (.sl 6 (p0.fP.map Put.enc))]), (3, [.t (.sl 1 (p1.fA.map (eInt .u8))), .t (.sl 1 (p1.fB.map (eInt .u8))), .t (.int .i64 p1.fR.fGen), .t (.int .i64 p1.fR.fSlot), .t (.int .i64 p1.fR.fLen), .t (.sl 6 (p1.fP.map Put.enc))])], []⟩) (mo := []) (mr := []) (by kernel_rfl) (by kernel_rfl) (by kernel_rfl) (by kernel_rfl)) ?_
  refine Wp.cond2 (b := !r1) (by kernel_rfl) (fun hc => ?_) (fun hc => ?_)
  · have h := cond_t h hc
    refine Wp.seq ?_
    refine Wp.regionS (pOf []) (rhoOf []) (by kernel_rfl) ?_
    refine Runs.all (by kernel_rfl) ?_
    refine thenN ?_
    refine Wp.le (Le.of (s := ⟨[(2, .obj 2 0), (3, .obj 3 0), (4, .t (.bool false))], [(2, [.t (.sl 1 (p0.fA.map (eInt .u8))), .t (.sl 1 (p0.fB.map (eInt .u8))), .t (.int .i64 p0.fR.fGen), .t (.int .i64 p0.fR.fSlot), .t (.int .i64 p0.fR.fLen), .t (.sl 6 (p0.fP.map Put.enc))]), (3, [.t (.sl 1 (p1.fA.map (eInt .u8))), .t (.sl 1 (p1.fB.map (eInt .u8))), .t (.int .i64 p1.fR.fGen), .t (.int .i64 p1.fR.fSlot), .t (.int .i64 p1.fR.fLen), .t (.sl 6 (p1.fP.map Put.enc))])], []⟩) (mo := []) (mr := []) (by kernel_rfl) (by kernel_rfl) (by kernel_rfl) (by kernel_rfl)) ?_
    refine Wp.ret ?_
    refine thenR ?_
    have hr := Option.some.inj h
    subst hr
    exact RetK [.t (.bool false)] (.one (.t (.bool false))) [] (by kernel_rfl) (by kernel_rfl) (.refl _) .nil
  · have h := cond_f h hc
    refine Wp.skip ?_
    refine thenN ?_
    refine Wp.seq ?_
    refine Wp.seq ?_
    refine Wp.regionS (pOf []) (rhoOf []) (by kernel_rfl) ?_
    refine Runs.batch 4 (by kernel_rfl) ?_
    obtain ⟨r2, e_r2, h⟩ := bind_some h
    refine Runs.callK false 15 16 [] [.t (.sl 1 (p0.fB.map (eInt .u8))), .t (.sl 1 (p1.fB.map (eInt .u8)))] [.one (.t (.sl 1 (p0.fB.map (eInt .u8)))), .one (.t (.sl 1 (p1.fB.map (eInt .u8))))] (.one (.t (.bool r2))) [] rfl rfl (by kernel_rfl) (by kernel_rfl) (by kernel_rfl) (by kernel_rfl) (by kernel_rfl) (laws_eqByteS_ok u p0.fB p1.fB r2 e_r2) (by kernel_rfl) ?_
    refine Runs.all (by kernel_rfl) ?_
    refine thenN ?_
    refine Wp.le (Le.of (s := ⟨[(2, .obj 2 0), (3, .obj 3 0), (4, .t (.bool false)), (16, .t (.bool (!r2)))], [(2, [.t (.sl 1 (p0.fA.map (eInt .u8))), .t (.sl 1 (p0.fB.map (eInt .u8))), .t (.int .i64 p0.fR.fGen), .t (.int .i64 p0.fR.fSlot), .t (.int .i64 p0.fR.fLen), .t (.sl 6 (p0.fP.map Put.enc))]), (3, [.t (.sl 1 (p1.fA.map (eInt .u8))), .t (.sl 1 (p1.fB.map (eInt .u8))), .t (.int .i64 p1.fR.fGen), .t (.int .i64 p1.fR.fSlot), .t (.int .i64 p1.fR.fLen), .t (.sl 6 (p1.fP.map Put.enc))])], []⟩) (mo := []) (mr := []) (by kernel_rfl) (by kernel_rfl) (by kernel_rfl) (by kernel_rfl)) ?_
    refine Wp.cond2 (b := !r2) (by kernel_rfl) (fun hc => ?_) (fun hc => ?_)
    · have h := cond_t h hc
      refine Wp.seq ?_
      refine Wp.regionS (pOf []) (rhoOf []) (by kernel_rfl) ?_
      refine Runs.all (by kernel_rfl) ?_
      refine thenN ?_
      refine Wp.le (Le.of (s := ⟨[(2, .obj 2 0), (3, .obj 3 0), (4, .t (.bool false))], [(2, [.t (.sl 1 (p0.fA.map (eInt .u8))), .t (.sl 1 (p0.fB.map (eInt .u8))), .t (.int .i64 p0.fR.fGen), .t (.int .i64 p0.fR.fSlot), .t (.int .i64 p0.fR.fLen), .t (.sl 6 (p0.fP.map Put.enc))]), (3, [.t (.sl 1 (p1.fA.map (eInt .u8))), .t (.sl 1 (p1.fB.map (eInt .u8))), .t (.int .i64 p1.fR.fGen), .t (.int .i64 p1.fR.fSlot), .t (.int .i64 p1.fR.fLen), .t (.sl 6 (p1.fP.map Put.enc))])], []⟩) (mo := []) (mr := []) (by kernel_rfl) (by kernel_rfl) (by kernel_rfl) (by kernel_rfl)) ?_
      refine Wp.ret ?_
      refine thenR ?_
      have hr := Option.some.inj h
      subst hr
      exact RetK [.t (.bool false)] (.one (.t (.bool false))) [] (by kernel_rfl) (by kernel_rfl) (.refl _) .nil
    · have h := cond_f h hc
      refine Wp.skip ?_
      refine thenN ?_
      refine Wp.seq ?_
      refine Wp.seq ?_
      refine Wp.regionS (pOf []) (rhoOf []) (by kernel_rfl) ?_
      refine Runs.batch 4 (by kernel_rfl) ?_
      obtain ⟨r3, e_r3, h⟩ := bind_some h
      refine Runs.callK false 21 161 [] [.agg [.t (.int .i64 p0.fR.fGen), .t (.int .i64 p0.fR.fSlot), .t (.int .i64 p0.fR.fLen)], .agg [.t (.int .i64 p1.fR.fGen), .t (.int .i64 p1.fR.fSlot), .t (.int .i64 p1.fR.fLen)]] [.agg [.t (.int .i64 p0.fR.fGen), .t (.int .i64 p0.fR.fSlot), .t (.int .i64 p0.fR.fLen)], .agg [.t (.int .i64 p1.fR.fGen), .t (.int .i64 p1.fR.fSlot), .t (.int .i64 p1.fR.fLen)]] (.one (.t (.bool r3))) [] rfl rfl (by kernel_rfl) (by kernel_rfl) (by kernel_rfl) (by kernel_rfl) (by kernel_rfl) (laws_eqRecord_ok u p0.fR p1.fR r3 e_r3) (by kernel_rfl) ?_
      refine Runs.all (by kernel_rfl) ?_
      refine thenN ?_
      refine Wp.le (Le.of (s := ⟨[(2, .obj 2 0), (3, .obj 3 0), (4, .t (.bool false)), (22, .t (.bool (!r3)))], [(2, [.t (.sl 1 (p0.fA.map (eInt .u8))), .t (.sl 1 (p0.fB.map (eInt .u8))), .t (.int .i64 p0.fR.fGen), .t (.int .i64 p0.fR.fSlot), .t (.int .i64 p0.fR.fLen), .t (.sl 6 (p0.fP.map Put.enc))]), (3, [.t (.sl 1 (p1.fA.map (eInt .u8))), .t (.sl 1 (p1.fB.map (eInt .u8))), .t (.int .i64 p1.fR.fGen), .t (.int .i64 p1.fR.fSlot), .t (.int .i64 p1.fR.fLen), .t (.sl 6 (p1.fP.map Put.enc))])], []⟩) (mo := []) (mr := []) (by kernel_rfl) (by kernel_rfl) (by kernel_rfl) (by kernel_rfl)) ?_
      refine Wp.cond2 (b := !r3) (by kernel_rfl) (fun hc => ?_) (fun hc => ?_)
      · have h := cond_t h hc
        refine Wp.seq ?_
        refine Wp.regionS (pOf []) (rhoOf []) (by kernel_rfl) ?_
        refine Runs.all (by kernel_rfl) ?_
        refine thenN ?_
        refine Wp.le (Le.of (s := ⟨[(2, .obj 2 0), (3, .obj 3 0), (4, .t (.bool false))], [(2, [.t (.sl 1 (p0.fA.map (eInt .u8))), .t (.sl 1 (p0.fB.map (eInt .u8))), .t (.int .i64 p0.fR.fGen), .t (.int .i64 p0.fR.fSlot), .t (.int .i64 p0.fR.fLen), .t (.sl 6 (p0.fP.map Put.enc))]), (3, [.t (.sl 1 (p1.fA.map (eInt .u8))), .t (.sl 1 (p1.fB.map (eInt .u8))), .t (.int .i64 p1.fR.fGen), .t (.int .i64 p1.fR.fSlot), .t (.int .i64 p1.fR.fLen), .t (.sl 6 (p1.fP.map Put.enc))])], []⟩) (mo := []) (mr := []) (by kernel_rfl) (by kernel_rfl) (by kernel_rfl) (by kernel_rfl)) ?_
        refine Wp.ret ?_
        refine thenR ?_
        have hr := Option.some.inj h
        subst hr
        exact RetK [.t (.bool false)] (.one (.t (.bool false))) [] (by kernel_rfl) (by kernel_rfl) (.refl _) .nil
      · have h := cond_f h hc
        refine Wp.skip ?_
        refine thenN ?_
        refine Wp.seq ?_
        refine Wp.seq ?_
        refine Wp.regionS (pOf []) (rhoOf []) (by kernel_rfl) ?_
        refine Runs.batch 4 (by kernel_rfl) ?_
        obtain ⟨r4, e_r4, h⟩ := bind_some h
        refine Runs.callK false 27 162 [] [.t (.sl 6 (p0.fP.map Put.enc)), .t (.sl 6 (p1.fP.map Put.enc))] [.one (.t (.sl 6 (p0.fP.map Put.enc))), .one (.t (.sl 6 (p1.fP.map Put.enc)))] (.one (.t (.bool r4))) [] rfl rfl (by kernel_rfl) (by kernel_rfl) (by kernel_rfl) (by kernel_rfl) (by kernel_rfl) (laws_eqPutS_ok u p0.fP p1.fP r4 e_r4) (by kernel_rfl) ?_
        refine Runs.all (by kernel_rfl) ?_
        refine thenN ?_
        refine Wp.le (Le.of (s := ⟨[(4, .t (.bool false)), (28, .t (.bool (!r4)))], [], []⟩) (mo := []) (mr := []) (by kernel_rfl) (by kernel_rfl) (by kernel_rfl) (by kernel_rfl)) ?_
        refine Wp.cond2 (b := !r4) (by kernel_rfl) (fun hc => ?_) (fun hc => ?_)
        · have h := cond_t h hc
          refine Wp.seq ?_
          refine Wp.regionS (pOf []) (rhoOf []) (by kernel_rfl) ?_
          refine Runs.all (by kernel_rfl) ?_
          refine thenN ?_
          refine Wp.le (Le.of (s := ⟨[(4, .t (.bool false))], [], []⟩) (mo := []) (mr := []) (by kernel_rfl) (by kernel_rfl) (by kernel_rfl) (by kernel_rfl)) ?_
          refine Wp.ret ?_
          refine thenR ?_
          have hr := Option.some.inj h
          subst hr
          exact RetK [.t (.bool false)] (.one (.t (.bool false))) [] (by kernel_rfl) (by kernel_rfl) (.refl _) .nil
        · have h := cond_f h hc
          refine Wp.skip ?_
          refine thenN ?_
          refine Wp.seq ?_
          refine Wp.regionS (pOf []) (rhoOf []) (by kernel_rfl) ?_
          refine Runs.all (by kernel_rfl) ?_
          refine thenN ?_
          refine Wp.le (Le.of (s := ⟨[(4, .t (.bool true))], [], []⟩) (mo := []) (mr := []) (by kernel_rfl) (by kernel_rfl) (by kernel_rfl) (by kernel_rfl)) ?_
          refine Wp.ret ?_
          have hr := Option.some.inj h
          subst hr
          exact RetK [.t (.bool true)] (.one (.t (.bool true))) [] (by kernel_rfl) (by kernel_rfl) (.refl _) .nil
theorem laws_eqDiskS_ok (u : Nat) (p0 : List Disk) (p1 : List Disk) (r : Bool) (h : laws_eqDiskS u p0 p1 = some r) : CallOK Try.prog 68 [.one (.t (.sl 6 (p0.map Disk.enc))), .one (.t (.sl 6 (p1.map Disk.enc)))] (.one (.t (.bool r))) [] := by
  unfold laws_eqDiskS at h
  refine CallOK.of_bodyK (fn := Try.f68) (m := false) [.t (.sl 6 (p0.map Disk.enc)), .t (.sl 6 (p1.map Disk.enc))] (by kernel_rfl) rfl (by kernel_rfl) (by kernel_rfl) (by kernel_rfl) (by kernel_rfl) (by kernel_rfl) ?_
  refine Wp.seq ?_
  refine Wp.regionS (pOf []) (rhoOf []) (by kernel_rfl) ?_
  refine Runs.all (by kernel_rfl) ?_
  refine thenN ?_
  refine Wp.le (Le.of (s := ⟨[(0, .t (.sl 6 (p0.map Disk.enc))), (1, .t (.sl 6 (p1.map Disk.enc))), (4, .t (.bool false))], [], []⟩) (mo := []) (mr := []) (by kernel_rfl) (by kernel_rfl) (by kernel_rfl) (by kernel_rfl)) ?_
  refine Wp.seq ?_
  refine Wp.seq ?_
  refine Wp.regionS (pOf []) (rhoOf []) (by kernel_rfl) ?_
  refine Runs.batch 1 (by kernel_rfl) ?_
  refine Runs.lenT (y := .t (.sl 6 (p0.map Disk.enc))) (e := 109) Disk.enc p0 6 rfl rfl rfl (by kernel_rfl) (by kernel_rfl) (by kernel_rfl) (by kernel_rfl) (by kernel_rfl) ?_
  refine Runs.batch 1 (by kernel_rfl) ?_
  refine Runs.lenT (y := .t (.sl 6 (p1.map Disk.enc))) (e := 109) Disk.enc p1 6 rfl rfl rfl (by kernel_rfl) (by kernel_rfl) (by kernel_rfl) (by kernel_rfl) (by kernel_rfl) ?_
  refine Runs.all (by kernel_rfl) ?_
  refine thenN ?_
  refine Wp.le (Le.of (s := ⟨[(0, .t (.sl 6 (p0.map Disk.enc))), (1, .t (.sl 6 (p1.map Disk.enc))), (4, .t (.bool false)), (10, .t (.bool (((p0.length : Int)) != ((p1.length : Int)))))], [], []⟩) (mo := []) (mr := []) (by kernel_rfl) (by kernel_rfl) (by kernel_rfl) (by kernel_rfl)) ?_
  refine Wp.cond2 (b := ((p0.length : Int)) != ((p1.length : Int))) (by kernel_rfl) (fun hc => ?_) (fun hc => ?_)
  · have h := cond_t h hc
    refine Wp.seq ?_
    refine Wp.regionS (pOf []) (rhoOf []) (by kernel_rfl) ?_
    refine Runs.all (by kernel_rfl) ?_
    refine thenN ?_
    refine Wp.le (Le.of (s := ⟨[(0, .t (.sl 6 (p0.map Disk.enc))), (1, .t (.sl 6 (p1.map Disk.enc))), (4, .t (.bool false))], [], []⟩) (mo := []) (mr := []) (by kernel_rfl) (by kernel_rfl) (by kernel_rfl) (by kernel_rfl)) ?_
    refine Wp.ret ?_
    refine thenR ?_
    have hr := Option.some.inj h
    subst hr
    exact RetK [.t (.bool false)] (.one (.t (.bool false))) [] (by kernel_rfl) (by kernel_rfl) (.refl _) .nil
  · have h := cond_f h hc
    refine Wp.skip ?_
    refine thenN ?_
    refine Wp.seqJ (α := Unit) (fun a => ⟨[(4, .t (.bool false))], [], []⟩) (fun a => laws_eqDiskS_j1 u = some r) ?_ ?_
    · rintro ⟨⟩ h
      change laws_eqDiskS_j1 u = some r at h
      unfold laws_eqDiskS_j1 at h
      refine Wp.seq ?_
      refine Wp.regionS (pOf []) (rhoOf []) (by kernel_rfl) ?_
      refine Runs.all (by kernel_rfl) ?_
      refine thenN ?_
      refine Wp.le (Le.of (s := ⟨[(4, .t (.bool true))], [], []⟩) (mo := []) (mr := []) (by kernel_rfl) (by kernel_rfl) (by kernel_rfl) (by kernel_rfl)) ?_
      refine Wp.ret ?_
      have hr := Option.some.inj h
      subst hr
      exact RetK [.t (.bool true)] (.one (.t (.bool true))) [] (by kernel_rfl) (by kernel_rfl) (.refl _) .nil
    · refine Wp.seq ?_
      refine Wp.regionS (pOf []) (rhoOf []) (by kernel_rfl) ?_
      refine Runs.all (by kernel_rfl) ?_
      refine thenN ?_
      refine Wp.le (Le.of (s := ⟨[(0, .t (.sl 6 (p0.map Disk.enc))), (1, .t (.sl 6 (p1.map Disk.enc))), (4, .t (.bool false)), (5, .t (.int .i64 0))], [], []⟩) (mo := []) (mr := []) (by kernel_rfl) (by kernel_rfl) (by kernel_rfl) (by kernel_rfl)) ?_
      refine Wp.block ?_
      refine Wp.loopF (α := (List Disk) × (List Disk) × Int) (fun a => ⟨[(0, .t (.sl 6 (a.1.map Disk.enc))), (1, .t (.sl 6 (a.2.1.map Disk.enc))), (4, .t (.bool false)), (5, .t (.int .i64 a.2.2))], [], []⟩) (fun k_laws_eqDiskS_l2 a => laws_eqDiskS_l2 u k_laws_eqDiskS_l2 a.1 a.2.1 a.2.2 = some r) ?_ ?_ u (p0, p1, 0) h (Le.of (mo := []) (mr := []) (by kernel_rfl) (by kernel_rfl) (by kernel_rfl) (by kernel_rfl))
      · intro a h; unfold laws_eqDiskS_l2 at h; cases h
      · rintro k_laws_eqDiskS_l2 ⟨p0, p1, x2⟩ h
        change laws_eqDiskS_l2 u (k_laws_eqDiskS_l2 + 1) p0 p1 x2 = some r at h
        rw [laws_eqDiskS_l2] at h
        refine Wp.seq ?_
        refine Wp.seq ?_
        refine Wp.regionS (pOf []) (rhoOf []) (by kernel_rfl) ?_
        refine Runs.batch 2 (by kernel_rfl) ?_
        refine Runs.lenT (y := .t (.sl 6 (p0.map Disk.enc))) (e := 109) Disk.enc p0 6 rfl rfl rfl (by kernel_rfl) (by kernel_rfl) (by kernel_rfl) (by kernel_rfl) (by kernel_rfl) ?_
        refine Runs.all (by kernel_rfl) ?_
        refine thenN ?_
        refine Wp.le (Le.of (s := ⟨[(0, .t (.sl 6 (p0.map Disk.enc))), (1, .t (.sl 6 (p1.map Disk.enc))), (4, .t (.bool false)), (5, .t (.int .i64 x2)), (11, .t (.int .i64 x2)), (12, .t (.sl 6 (p0.map Disk.enc))), (13, .t (.int .i64 ((p0.length : Int)))), (14, .t (.bool (decide (x2 < ((p0.length : Int))))))], [], []⟩) (mo := []) (mr := []) (by kernel_rfl) (by kernel_rfl) (by kernel_rfl) (by kernel_rfl)) ?_
        refine Wp.cond2 (b := decide (x2 < ((p0.length : Int)))) (by kernel_rfl) (fun hc => ?_) (fun hc => ?_)
        · have h := cond_t h hc
          refine Wp.skip ?_
          refine thenN ?_
          refine Wp.seq ?_
          refine Wp.block ?_
          refine Wp.seq ?_
          refine Wp.regionA (pOf []) (rhoOf [(0, .frz), (1, .frz), (5, .frz), (17, .frz), (18, .frz), (19, .frz), (20, .frz), (21, .frz), (22, .frz), (23, .frz), (24, .frz), (25, .frz)]) (by kernel_rfl) (by kernel_rfl) ?_
          refine Runs.batch 2 (by kernel_rfl) ?_
          obtain ⟨y4, e_y4, h⟩ := bind_some h
          refine Runs.idxT (e := 109) (kk := .i64) (sz := 6) Disk.enc p0 x2 rfl (by kernel_rfl) (by kernel_rfl) (by kernel_rfl) (by kernel_rfl) (by kernel_rfl) (by kernel_rfl) e_y4 ?_
          refine Runs.batch 3 (by kernel_rfl) ?_
          obtain ⟨y5, e_y5, h⟩ := bind_some h
          refine Runs.idxT (e := 109) (kk := .i64) (sz := 6) Disk.enc p1 x2 rfl (by kernel_rfl) (by kernel_rfl) (by kernel_rfl) (by kernel_rfl) (by kernel_rfl) (by kernel_rfl) e_y5 ?_
          refine Runs.batch 1 (by kernel_rfl) ?_
          obtain ⟨r6, e_r6, h⟩ := bind_some h
          refine Runs.callK false 25 118 [] [.agg [.t (.sl 1 (y4.fA.map (eInt .u8))), .t (.sl 1 (y4.fB.map (eInt .u8))), .t (.int .i64 y4.fR.fGen), .t (.int .i64 y4.fR.fSlot), .t (.int .i64 y4.fR.fLen), .t (.sl 6 (y4.fP.map Put.enc))], .agg [.t (.sl 1 (y5.fA.map (eInt .u8))), .t (.sl 1 (y5.fB.map (eInt .u8))), .t (.int .i64 y5.fR.fGen), .t (.int .i64 y5.fR.fSlot), .t (.int .i64 y5.fR.fLen), .t (.sl 6 (y5.fP.map Put.enc))]] [.agg [.t (.sl 1 (y4.fA.map (eInt .u8))), .t (.sl 1 (y4.fB.map (eInt .u8))), .t (.int .i64 y4.fR.fGen), .t (.int .i64 y4.fR.fSlot), .t (.int .i64 y4.fR.fLen), .t (.sl 6 (y4.fP.map Put.enc))], .agg [.t (.sl 1 (y5.fA.map (eInt .u8))), .t (.sl 1 (y5.fB.map (eInt .u8))), .t (.int .i64 y5.fR.fGen), .t (.int .i64 y5.fR.fSlot), .t (.int .i64 y5.fR.fLen), .t (.sl 6 (y5.fP.map Put.enc))]] (.one (.t (.bool r6))) [] rfl rfl (by kernel_rfl) (by kernel_rfl) (by kernel_rfl) (by kernel_rfl) (by kernel_rfl) (laws_eqDisk_ok u y4 y5 r6 e_r6) (by kernel_rfl) ?_
          refine Runs.all (by kernel_rfl) ?_
          refine thenN ?_
          refine Wp.le (Le.of (s := ⟨[(0, .t (.sl 6 (p0.map Disk.enc))), (1, .t (.sl 6 (p1.map Disk.enc))), (4, .t (.bool false)), (5, .t (.int .i64 x2)), (11, .t (.int .i64 x2)), (12, .t (.sl 6 (p0.map Disk.enc))), (13, .t (.int .i64 ((p0.length : Int)))), (14, .t (.bool (decide (x2 < ((p0.length : Int)))))), (17, .t (.sl 6 (p0.map Disk.enc))), (18, .t (.int .i64 x2)), (19, .fadr [.sl 1 (y4.fA.map (eInt .u8)), .sl 1 (y4.fB.map (eInt .u8)), .int .i64 y4.fR.fGen, .int .i64 y4.fR.fSlot, .int .i64 y4.fR.fLen, .sl 6 (y4.fP.map Put.enc)]), (20, .agg [.t (.sl 1 (y4.fA.map (eInt .u8))), .t (.sl 1 (y4.fB.map (eInt .u8))), .t (.int .i64 y4.fR.fGen), .t (.int .i64 y4.fR.fSlot), .t (.int .i64 y4.fR.fLen), .t (.sl 6 (y4.fP.map Put.enc))]), (21, .t (.sl 6 (p1.map Disk.enc))), (22, .t (.int .i64 x2)), (23, .fadr [.sl 1 (y5.fA.map (eInt .u8)), .sl 1 (y5.fB.map (eInt .u8)), .int .i64 y5.fR.fGen, .int .i64 y5.fR.fSlot, .int .i64 y5.fR.fLen, .sl 6 (y5.fP.map Put.enc)]), (24, .agg [.t (.sl 1 (y5.fA.map (eInt .u8))), .t (.sl 1 (y5.fB.map (eInt .u8))), .t (.int .i64 y5.fR.fGen), .t (.int .i64 y5.fR.fSlot), .t (.int .i64 y5.fR.fLen), .t (.sl 6 (y5.fP.map Put.enc))]), (25, .t (.bool r6)), (26, .t (.bool (!r6)))], [], []⟩) (mo := []) (mr := []) (by kernel_rfl) (by kernel_rfl) (by kernel_rfl) (by kernel_rfl)) ?_
          refine Wp.cond2 (b := !r6) (by kernel_rfl) (fun hc => ?_) (fun hc => ?_)
          · have h := cond_t h hc
            refine Wp.seq ?_
            refine Wp.regionS (pOf []) (rhoOf []) (by kernel_rfl) ?_
            refine Runs.all (by kernel_rfl) ?_
            refine thenN ?_
            refine Wp.le (Le.of (s := ⟨[(0, .t (.sl 6 (p0.map Disk.enc))), (1, .t (.sl 6 (p1.map Disk.enc))), (4, .t (.bool false)), (5, .t (.int .i64 x2)), (11, .t (.int .i64 x2)), (12, .t (.sl 6 (p0.map Disk.enc))), (13, .t (.int .i64 ((p0.length : Int)))), (14, .t (.bool (decide (x2 < ((p0.length : Int)))))), (17, .t (.sl 6 (p0.map Disk.enc))), (18, .t (.int .i64 x2)), (19, .fadr [.sl 1 (y4.fA.map (eInt .u8)), .sl 1 (y4.fB.map (eInt .u8)), .int .i64 y4.fR.fGen, .int .i64 y4.fR.fSlot, .int .i64 y4.fR.fLen, .sl 6 (y4.fP.map Put.enc)]), (20, .agg [.t (.sl 1 (y4.fA.map (eInt .u8))), .t (.sl 1 (y4.fB.map (eInt .u8))), .t (.int .i64 y4.fR.fGen), .t (.int .i64 y4.fR.fSlot), .t (.int .i64 y4.fR.fLen), .t (.sl 6 (y4.fP.map Put.enc))]), (21, .t (.sl 6 (p1.map Disk.enc))), (22, .t (.int .i64 x2)), (23, .fadr [.sl 1 (y5.fA.map (eInt .u8)), .sl 1 (y5.fB.map (eInt .u8)), .int .i64 y5.fR.fGen, .int .i64 y5.fR.fSlot, .int .i64 y5.fR.fLen, .sl 6 (y5.fP.map Put.enc)]), (24, .agg [.t (.sl 1 (y5.fA.map (eInt .u8))), .t (.sl 1 (y5.fB.map (eInt .u8))), .t (.int .i64 y5.fR.fGen), .t (.int .i64 y5.fR.fSlot), .t (.int .i64 y5.fR.fLen), .t (.sl 6 (y5.fP.map Put.enc))]), (25, .t (.bool r6)), (26, .t (.bool (!r6)))], [], []⟩) (mo := []) (mr := []) (by kernel_rfl) (by kernel_rfl) (by kernel_rfl) (by kernel_rfl)) ?_
            refine Wp.ret ?_
            refine blkR ?_
            refine thenR ?_
            refine thenR ?_
            refine blkR ?_
            refine thenR ?_
            have hr := Option.some.inj h
            subst hr
            exact RetK [.t (.bool false)] (.one (.t (.bool false))) [] (by kernel_rfl) (by kernel_rfl) (.refl _) .nil
          · have h := cond_f h hc
            refine Wp.skip ?_
            refine blkN ?_
            refine thenN ?_
            refine Wp.regionS (pOf []) (rhoOf []) (by kernel_rfl) ?_
            refine Runs.all (by kernel_rfl) ?_
            refine thenN ?_
            exact ⟨(p0, p1, bAdd .i64 x2 1), h, Le.of (mo := []) (mr := []) (by kernel_rfl) (by kernel_rfl) (by kernel_rfl) (by kernel_rfl)⟩
        · have h := cond_f h hc
          refine Wp.exit ?_
          refine thenE ?_
          refine thenE ?_
          refine blkE ?_
          refine thenN ?_
          exact ⟨(), h, Le.of (mo := []) (mr := []) (by kernel_rfl) (by kernel_rfl) (by kernel_rfl) (by kernel_rfl)⟩
theorem laws_eqPacket_ok (u : Nat) (p0 : Packet) (p1 : Packet) (r : Bool) (h : laws_eqPacket u p0 p1 = some r) : CallOK Try.prog 119 [.agg [.t (.int .i64 p0.fFrom), .t (.int .i64 p0.fTo), .t (.sl 1 (p0.fB.map (eInt .u8)))], .agg [.t (.int .i64 p1.fFrom), .t (.int .i64 p1.fTo), .t (.sl 1 (p1.fB.map (eInt .u8)))]] (.one (.t (.bool r))) [] := by
  unfold laws_eqPacket at h
  refine CallOK.of_bodyK (fn := Try.f119) (m := false) [.agg [.t (.int .i64 p0.fFrom), .t (.int .i64 p0.fTo), .t (.sl 1 (p0.fB.map (eInt .u8)))], .agg [.t (.int .i64 p1.fFrom), .t (.int .i64 p1.fTo), .t (.sl 1 (p1.fB.map (eInt .u8)))]] (by kernel_rfl) rfl (by kernel_rfl) (by kernel_rfl) (by kernel_rfl) (by kernel_rfl) (by kernel_rfl) ?_
  refine Wp.seq ?_
  refine Wp.regionS (pOf []) (rhoOf []) (by kernel_rfl) ?_
  refine Runs.all (by kernel_rfl) ?_
  refine thenN ?_
  refine Wp.le (Le.of (s := ⟨[(2, .obj 2 0), (3, .obj 3 0), (4, .t (.bool false))], [(2, [.t (.int .i64 p0.fFrom), .t (.int .i64 p0.fTo), .t (.sl 1 (p0.fB.map (eInt .u8)))]), (3, [.t (.int .i64 p1.fFrom), .t (.int .i64 p1.fTo), .t (.sl 1 (p1.fB.map (eInt .u8)))])], []⟩) (mo := []) (mr := []) (by kernel_rfl) (by kernel_rfl) (by kernel_rfl) (by kernel_rfl)) ?_
  refine Wp.seq ?_
  refine Wp.seq ?_
  refine Wp.regionS (pOf []) (rhoOf []) (by kernel_rfl) ?_
  refine Runs.all (by kernel_rfl) ?_
  refine thenN ?_
  refine Wp.le (Le.of (s := ⟨[(2, .obj 2 0), (3, .obj 3 0), (4, .t (.bool false)), (9, .t (.bool (p0.fFrom != p1.fFrom)))], [(2, [.t (.int .i64 p0.fFrom), .t (.int .i64 p0.fTo), .t (.sl 1 (p0.fB.map (eInt .u8)))]), (3, [.t (.int .i64 p1.fFrom), .t (.int .i64 p1.fTo), .t (.sl 1 (p1.fB.map (eInt .u8)))])], []⟩) (mo := []) (mr := []) (by kernel_rfl) (by kernel_rfl) (by kernel_rfl) (by kernel_rfl)) ?_
  refine Wp.cond2 (b := p0.fFrom != p1.fFrom) (by kernel_rfl) (fun hc => ?_) (fun hc => ?_)
  · have h := cond_t h hc
    refine Wp.seq ?_
    refine Wp.regionS (pOf []) (rhoOf []) (by kernel_rfl) ?_
    refine Runs.all (by kernel_rfl) ?_
    refine thenN ?_
    refine Wp.le (Le.of (s := ⟨[(2, .obj 2 0), (3, .obj 3 0), (4, .t (.bool false))], [(2, [.t (.int .i64 p0.fFrom), .t (.int .i64 p0.fTo), .t (.sl 1 (p0.fB.map (eInt .u8)))]), (3, [.t (.int .i64 p1.fFrom), .t (.int .i64 p1.fTo), .t (.sl 1 (p1.fB.map (eInt .u8)))])], []⟩) (mo := []) (mr := []) (by kernel_rfl) (by kernel_rfl) (by kernel_rfl) (by kernel_rfl)) ?_
    refine Wp.ret ?_
    refine thenR ?_
    have hr := Option.some.inj h
    subst hr
    exact RetK [.t (.bool false)] (.one (.t (.bool false))) [] (by kernel_rfl) (by kernel_rfl) (.refl _) .nil
  · have h := cond_f h hc
    refine Wp.skip ?_
    refine thenN ?_
    refine Wp.seq ?_
    refine Wp.seq ?_
    refine Wp.regionS (pOf []) (rhoOf []) (by kernel_rfl) ?_
    refine Runs.all (by kernel_rfl) ?_
    refine thenN ?_
    refine Wp.le (Le.of (s := ⟨[(2, .obj 2 0), (3, .obj 3 0), (4, .t (.bool false)), (14, .t (.bool (p0.fTo != p1.fTo)))], [(2, [.t (.int .i64 p0.fFrom), .t (.int .i64 p0.fTo), .t (.sl 1 (p0.fB.map (eInt .u8)))]), (3, [.t (.int .i64 p1.fFrom), .t (.int .i64 p1.fTo), .t (.sl 1 (p1.fB.map (eInt .u8)))])], []⟩) (mo := []) (mr := []) (by kernel_rfl) (by kernel_rfl) (by kernel_rfl) (by kernel_rfl)) ?_
    refine Wp.cond2 (b := p0.fTo != p1.fTo) (by kernel_rfl) (fun hc => ?_) (fun hc => ?_)
    · have h := cond_t h hc
      refine Wp.seq ?_
      refine Wp.regionS (pOf []) (rhoOf []) (by kernel_rfl) ?_
      refine Runs.all (by kernel_rfl) ?_
      refine thenN ?_
      refine Wp.le (Le.of (s := ⟨[(2, .obj 2 0), (3, .obj 3 0), (4, .t (.bool false))], [(2, [.t (.int .i64 p0.fFrom), .t (.int .i64 p0.fTo), .t (.sl 1 (p0.fB.map (eInt .u8)))]), (3, [.t (.int .i64 p1.fFrom), .t (.int .i64 p1.fTo), .t (.sl 1 (p1.fB.map (eInt .u8)))])], []⟩) (mo := []) (mr := []) (by kernel_rfl) (by kernel_rfl) (by kernel_rfl) (by kernel_rfl)) ?_
      refine Wp.ret ?_
      refine thenR ?_
      have hr := Option.some.inj h
      subst hr
      exact RetK [.t (.bool false)] (.one (.t (.bool false))) [] (by kernel_rfl) (by kernel_rfl) (.refl _) .nil
    · have h := cond_f h hc
      refine Wp.skip ?_
      refine thenN ?_
      refine Wp.seq ?_
      refine Wp.seq ?_
      refine Wp.regionS (pOf []) (rhoOf []) (by kernel_rfl) ?_
      refine Runs.batch 4 (by kernel_rfl) ?_
      obtain ⟨r1, e_r1, h⟩ := bind_some h
      refine Runs.callK false 19 16 [] [.t (.sl 1 (p0.fB.map (eInt .u8))), .t (.sl 1 (p1.fB.map (eInt .u8)))] [.one (.t (.sl 1 (p0.fB.map (eInt .u8)))), .one (.t (.sl 1 (p1.fB.map (eInt .u8))))] (.one (.t (.bool r1))) [] rfl rfl (by kernel_rfl) (by kernel_rfl) (by kernel_rfl) (by kernel_rfl) (by kernel_rfl) (laws_eqByteS_ok u p0.fB p1.fB r1 e_r1) (by kernel_rfl) ?_
      refine Runs.all (by kernel_rfl) ?_
      refine thenN ?_
      refine Wp.le (Le.of (s := ⟨[(4, .t (.bool false)), (20, .t (.bool (!r1)))], [], []⟩) (mo := []) (mr := []) (by kernel_rfl) (by kernel_rfl) (by kernel_rfl) (by kernel_rfl)) ?_
      refine Wp.cond2 (b := !r1) (by kernel_rfl) (fun hc => ?_) (fun hc => ?_)
      · have h := cond_t h hc
        refine Wp.seq ?_
        refine Wp.regionS (pOf []) (rhoOf []) (by kernel_rfl) ?_
        refine Runs.all (by kernel_rfl) ?_
        refine thenN ?_
        refine Wp.le (Le.of (s := ⟨[(4, .t (.bool false))], [], []⟩) (mo := []) (mr := []) (by kernel_rfl) (by kernel_rfl) (by kernel_rfl) (by kernel_rfl)) ?_
        refine Wp.ret ?_
        refine thenR ?_
        have hr := Option.some.inj h
        subst hr
        exact RetK [.t (.bool false)] (.one (.t (.bool false))) [] (by kernel_rfl) (by kernel_rfl) (.refl _) .nil
      · have h := cond_f h hc
        refine Wp.skip ?_
        refine thenN ?_
        refine Wp.seq ?_
        refine Wp.regionS (pOf []) (rhoOf []) (by kernel_rfl) ?_
        refine Runs.all (by kernel_rfl) ?_
        refine thenN ?_
        refine Wp.le (Le.of (s := ⟨[(4, .t (.bool true))], [], []⟩) (mo := []) (mr := []) (by kernel_rfl) (by kernel_rfl) (by kernel_rfl) (by kernel_rfl)) ?_
        refine Wp.ret ?_
        have hr := Option.some.inj h
        subst hr
        exact RetK [.t (.bool true)] (.one (.t (.bool true))) [] (by kernel_rfl) (by kernel_rfl) (.refl _) .nil
theorem laws_eqPacketS_ok (u : Nat) (p0 : List Packet) (p1 : List Packet) (r : Bool) (h : laws_eqPacketS u p0 p1 = some r) : CallOK Try.prog 69 [.one (.t (.sl 3 (p0.map Packet.enc))), .one (.t (.sl 3 (p1.map Packet.enc)))] (.one (.t (.bool r))) [] := by
  unfold laws_eqPacketS at h
  refine CallOK.of_bodyK (fn := Try.f69) (m := false) [.t (.sl 3 (p0.map Packet.enc)), .t (.sl 3 (p1.map Packet.enc))] (by kernel_rfl) rfl (by kernel_rfl) (by kernel_rfl) (by kernel_rfl) (by kernel_rfl) (by kernel_rfl) ?_
  refine Wp.seq ?_
  refine Wp.regionS (pOf []) (rhoOf []) (by kernel_rfl) ?_
  refine Runs.all (by kernel_rfl) ?_
  refine thenN ?_
  refine Wp.le (Le.of (s := ⟨[(0, .t (.sl 3 (p0.map Packet.enc))), (1, .t (.sl 3 (p1.map Packet.enc))), (4, .t (.bool false))], [], []⟩) (mo := []) (mr := []) (by kernel_rfl) (by kernel_rfl) (by kernel_rfl) (by kernel_rfl)) ?_
  refine Wp.seq ?_
  refine Wp.seq ?_
  refine Wp.regionS (pOf []) (rhoOf []) (by kernel_rfl) ?_
  refine Runs.batch 1 (by kernel_rfl) ?_
  refine Runs.lenT (y := .t (.sl 3 (p0.map Packet.enc))) (e := 146) Packet.enc p0 3 rfl rfl rfl (by kernel_rfl) (by kernel_rfl) (by kernel_rfl) (by kernel_rfl) (by kernel_rfl) ?_
  refine Runs.batch 1 (by kernel_rfl) ?_
  refine Runs.lenT (y := .t (.sl 3 (p1.map Packet.enc))) (e := 146) Packet.enc p1 3 rfl rfl rfl (by kernel_rfl) (by kernel_rfl) (by kernel_rfl) (by kernel_rfl) (by kernel_rfl) ?_
  refine Runs.all (by kernel_rfl) ?_
  refine thenN ?_
  refine Wp.le (Le.of (s := ⟨[(0, .t (.sl 3 (p0.map Packet.enc))), (1, .t (.sl 3 (p1.map Packet.enc))), (4, .t (.bool false)), (10, .t (.bool (((p0.length : Int)) != ((p1.length : Int)))))], [], []⟩) (mo := []) (mr := []) (by kernel_rfl) (by kernel_rfl) (by kernel_rfl) (by kernel_rfl)) ?_
  refine Wp.cond2 (b := ((p0.length : Int)) != ((p1.length : Int))) (by kernel_rfl) (fun hc => ?_) (fun hc => ?_)
  · have h := cond_t h hc
    refine Wp.seq ?_
    refine Wp.regionS (pOf []) (rhoOf []) (by kernel_rfl) ?_
    refine Runs.all (by kernel_rfl) ?_
    refine thenN ?_
    refine Wp.le (Le.of (s := ⟨[(0, .t (.sl 3 (p0.map Packet.enc))), (1, .t (.sl 3 (p1.map Packet.enc))), (4, .t (.bool false))], [], []⟩) (mo := []) (mr := []) (by kernel_rfl) (by kernel_rfl) (by kernel_rfl) (by kernel_rfl)) ?_
    refine Wp.ret ?_
    refine thenR ?_
    have hr := Option.some.inj h
    subst hr
    exact RetK [.t (.bool false)] (.one (.t (.bool false))) [] (by kernel_rfl) (by kernel_rfl) (.refl _) .nil
  · have h := cond_f h hc
    refine Wp.skip ?_
    refine thenN ?_
    refine Wp.seqJ (α := Unit) (fun a => ⟨[(4, .t (.bool false))], [], []⟩) (fun a => laws_eqPacketS_j1 u = some r) ?_ ?_
    · rintro ⟨⟩ h
      change laws_eqPacketS_j1 u = some r at h
      unfold laws_eqPacketS_j1 at h
      refine Wp.seq ?_
      refine Wp.regionS (pOf []) (rhoOf []) (by kernel_rfl) ?_
      refine Runs.all (by kernel_rfl) ?_
      refine thenN ?_
      refine Wp.le (Le.of (s := ⟨[(4, .t (.bool true))], [], []⟩) (mo := []) (mr := []) (by kernel_rfl) (by kernel_rfl) (by kernel_rfl) (by kernel_rfl)) ?_
      refine Wp.ret ?_
      have hr := Option.some.inj h
      subst hr
      exact RetK [.t (.bool true)] (.one (.t (.bool true))) [] (by kernel_rfl) (by kernel_rfl) (.refl _) .nil
    · refine Wp.seq ?_
      refine Wp.regionS (pOf []) (rhoOf []) (by kernel_rfl) ?_
      refine Runs.all (by kernel_rfl) ?_
      refine thenN ?_
      refine Wp.le (Le.of (s := ⟨[(0, .t (.sl 3 (p0.map Packet.enc))), (1, .t (.sl 3 (p1.map Packet.enc))), (4, .t (.bool false)), (5, .t (.int .i64 0))], [], []⟩) (mo := []) (mr := []) (by kernel_rfl) (by kernel_rfl) (by kernel_rfl) (by kernel_rfl)) ?_
      refine Wp.block ?_
      refine Wp.loopF (α := (List Packet) × (List Packet) × Int) (fun a => ⟨[(0, .t (.sl 3 (a.1.map Packet.enc))), (1, .t (.sl 3 (a.2.1.map Packet.enc))), (4, .t (.bool false)), (5, .t (.int .i64 a.2.2))], [], []⟩) (fun k_laws_eqPacketS_l2 a => laws_eqPacketS_l2 u k_laws_eqPacketS_l2 a.1 a.2.1 a.2.2 = some r) ?_ ?_ u (p0, p1, 0) h (Le.of (mo := []) (mr := []) (by kernel_rfl) (by kernel_rfl) (by kernel_rfl) (by kernel_rfl))
      · intro a h; unfold laws_eqPacketS_l2 at h; cases h
      · rintro k_laws_eqPacketS_l2 ⟨p0, p1, x2⟩ h
        change laws_eqPacketS_l2 u (k_laws_eqPacketS_l2 + 1) p0 p1 x2 = some r at h
        rw [laws_eqPacketS_l2] at h
        refine Wp.seq ?_
        refine Wp.seq ?_
        refine Wp.regionS (pOf []) (rhoOf []) (by kernel_rfl) ?_
        refine Runs.batch 2 (by kernel_rfl) ?_
        refine Runs.lenT (y := .t (.sl 3 (p0.map Packet.enc))) (e := 146) Packet.enc p0 3 rfl rfl rfl (by kernel_rfl) (by kernel_rfl) (by kernel_rfl) (by kernel_rfl) (by kernel_rfl) ?_
        refine Runs.all (by kernel_rfl) ?_
        refine thenN ?_
        refine Wp.le (Le.of (s := ⟨[(0, .t (.sl 3 (p0.map Packet.enc))), (1, .t (.sl 3 (p1.map Packet.enc))), (4, .t (.bool false)), (5, .t (.int .i64 x2)), (11, .t (.int .i64 x2)), (12, .t (.sl 3 (p0.map Packet.enc))), (13, .t (.int .i64 ((p0.length : Int)))), (14, .t (.bool (decide (x2 < ((p0.length : Int))))))], [], []⟩) (mo := []) (mr := []) (by kernel_rfl) (by kernel_rfl) (by kernel_rfl) (by kernel_rfl)) ?_
        refine Wp.cond2 (b := decide (x2 < ((p0.length : Int)))) (by kernel_rfl) (fun hc => ?_) (fun hc => ?_)
        · have h := cond_t h hc
          refine Wp.skip ?_
          refine thenN ?_
          refine Wp.seq ?_
          refine Wp.block ?_
          refine Wp.seq ?_
          refine Wp.regionA (pOf []) (rhoOf [(0, .frz), (1, .frz), (5, .frz), (17, .frz), (18, .frz), (19, .frz), (20, .frz), (21, .frz), (22, .frz), (23, .frz), (24, .frz), (25, .frz)]) (by kernel_rfl) (by kernel_rfl) ?_
          refine Runs.batch 2 (by kernel_rfl) ?_
          obtain ⟨y4, e_y4, h⟩ := bind_some h
          refine Runs.idxT (e := 146) (kk := .i64) (sz := 3) Packet.enc p0 x2 rfl (by kernel_rfl) (by kernel_rfl) (by kernel_rfl) (by kernel_rfl) (by kernel_rfl) (by kernel_rfl) e_y4 ?_
          refine Runs.batch 3 (by kernel_rfl) ?_
          obtain ⟨y5, e_y5, h⟩ := bind_some h
          refine Runs.idxT (e := 146) (kk := .i64) (sz := 3) Packet.enc p1 x2 rfl (by kernel_rfl) (by kernel_rfl) (by kernel_rfl) (by kernel_rfl) (by kernel_rfl) (by kernel_rfl) e_y5 ?_
          refine Runs.batch 1 (by kernel_rfl) ?_
          obtain ⟨r6, e_r6, h⟩ := bind_some h
          refine Runs.callK false 25 119 [] [.agg [.t (.int .i64 y4.fFrom), .t (.int .i64 y4.fTo), .t (.sl 1 (y4.fB.map (eInt .u8)))], .agg [.t (.int .i64 y5.fFrom), .t (.int .i64 y5.fTo), .t (.sl 1 (y5.fB.map (eInt .u8)))]] [.agg [.t (.int .i64 y4.fFrom), .t (.int .i64 y4.fTo), .t (.sl 1 (y4.fB.map (eInt .u8)))], .agg [.t (.int .i64 y5.fFrom), .t (.int .i64 y5.fTo), .t (.sl 1 (y5.fB.map (eInt .u8)))]] (.one (.t (.bool r6))) [] rfl rfl (by kernel_rfl) (by kernel_rfl) (by kernel_rfl) (by kernel_rfl) (by kernel_rfl) (laws_eqPacket_ok u y4 y5 r6 e_r6) (by kernel_rfl) ?_
          refine Runs.all (by kernel_rfl) ?_
          refine thenN ?_
          refine Wp.le (Le.of (s := ⟨[(0, .t (.sl 3 (p0.map Packet.enc))), (1, .t (.sl 3 (p1.map Packet.enc))), (4, .t (.bool false)), (5, .t (.int .i64 x2)), (11, .t (.int .i64 x2)), (12, .t (.sl 3 (p0.map Packet.enc))), (13, .t (.int .i64 ((p0.length : Int)))), (14, .t (.bool (decide (x2 < ((p0.length : Int)))))), (17, .t (.sl 3 (p0.map Packet.enc))), (18, .t (.int .i64 x2)), (19, .fadr [.int .i64 y4.fFrom, .int .i64 y4.fTo, .sl 1 (y4.fB.map (eInt .u8))]), (20, .agg [.t (.int .i64 y4.fFrom), .t (.int .i64 y4.fTo), .t (.sl 1 (y4.fB.map (eInt .u8)))]), (21, .t (.sl 3 (p1.map Packet.enc))), (22, .t (.int .i64 x2)), (23, .fadr [.int .i64 y5.fFrom, .int .i64 y5.fTo, .sl 1 (y5.fB.map (eInt .u8))]), (24, .agg [.t (.int .i64 y5.fFrom), .t (.int .i64 y5.fTo), .t (.sl 1 (y5.fB.map (eInt .u8)))]), (25, .t (.bool r6)), (26, .t (.bool (!r6)))], [], []⟩) (mo := []) (mr := []) (by kernel_rfl) (by kernel_rfl) (by kernel_rfl) (by kernel_rfl)) ?_
          refine Wp.cond2 (b := !r6) (by kernel_rfl) (fun hc => ?_) (fun hc => ?_)
          · have h := cond_t h hc
            refine Wp.seq ?_
            refine Wp.regionS (pOf []) (rhoOf []) (by kernel_rfl) ?_
            refine Runs.all (by kernel_rfl) ?_
            refine thenN ?_
            refine Wp.le (Le.of (s := ⟨[(0, .t (.sl 3 (p0.map Packet.enc))), (1, .t (.sl 3 (p1.map Packet.enc))), (4, .t (.bool false)), (5, .t (.int .i64 x2)), (11, .t (.int .i64 x2)), (12, .t (.sl 3 (p0.map Packet.enc))), (13, .t (.int .i64 ((p0.length : Int)))), (14, .t (.bool (decide (x2 < ((p0.length : Int)))))), (17, .t (.sl 3 (p0.map Packet.enc))), (18, .t (.int .i64 x2)), (19, .fadr [.int .i64 y4.fFrom, .int .i64 y4.fTo, .sl 1 (y4.fB.map (eInt .u8))]), (20, .agg [.t (.int .i64 y4.fFrom), .t (.int .i64 y4.fTo), .t (.sl 1 (y4.fB.map (eInt .u8)))]), (21, .t (.sl 3 (p1.map Packet.enc))), (22, .t (.int .i64 x2)), (23, .fadr [.int .i64 y5.fFrom, .int .i64 y5.fTo, .sl 1 (y5.fB.map (eInt .u8))]), (24, .agg [.t (.int .i64 y5.fFrom), .t (.int .i64 y5.fTo), .t (.sl 1 (y5.fB.map (eInt .u8)))]), (25, .t (.bool r6)), (26, .t (.bool (!r6)))], [], []⟩) (mo := []) (mr := []) (by kernel_rfl) (by kernel_rfl) (by kernel_rfl) (by kernel_rfl)) ?_
            refine Wp.ret ?_
            refine blkR ?_
            refine thenR ?_
            refine thenR ?_
            refine blkR ?_
            refine thenR ?_
            have hr := Option.some.inj h
            subst hr
            exact RetK [.t (.bool false)] (.one (.t (.bool false))) [] (by kernel_rfl) (by kernel_rfl) (.refl _) .nil
          · have h := cond_f h hc
            refine Wp.skip ?_
            refine blkN ?_
            refine thenN ?_
            refine Wp.regionS (pOf []) (rhoOf []) (by kernel_rfl) ?_
            refine Runs.all (by kernel_rfl) ?_
            refine thenN ?_
            exact ⟨(p0, p1, bAdd .i64 x2 1), h, Le.of (mo := []) (mr := []) (by kernel_rfl) (by kernel_rfl) (by kernel_rfl) (by kernel_rfl)⟩
        · have h := cond_f h hc
          refine Wp.exit ?_
          refine thenE ?_
          refine thenE ?_
          refine blkE ?_
          refine thenN ?_
          exact ⟨(), h, Le.of (mo := []) (mr := []) (by kernel_rfl) (by kernel_rfl) (by kernel_rfl) (by kernel_rfl)⟩
theorem laws_eqSent_ok (u : Nat) (p0 : Sent) (p1 : Sent) (r : Bool) (h : laws_eqSent u p0 p1 = some r) : CallOK Try.prog 120 [.agg [.t (.int .i64 p0.fFrom), .t (.int .i64 p0.fTo), .t (.int .i64 p0.fI)], .agg [.t (.int .i64 p1.fFrom), .t (.int .i64 p1.fTo), .t (.int .i64 p1.fI)]] (.one (.t (.bool r))) [] := by
  unfold laws_eqSent at h
  refine CallOK.of_bodyK (fn := Try.f120) (m := false) [.agg [.t (.int .i64 p0.fFrom), .t (.int .i64 p0.fTo), .t (.int .i64 p0.fI)], .agg [.t (.int .i64 p1.fFrom), .t (.int .i64 p1.fTo), .t (.int .i64 p1.fI)]] (by kernel_rfl) rfl (by kernel_rfl) (by kernel_rfl) (by kernel_rfl) (by kernel_rfl) (by kernel_rfl) ?_
  refine Wp.seq ?_
  refine Wp.regionS (pOf []) (rhoOf []) (by kernel_rfl) ?_
  refine Runs.all (by kernel_rfl) ?_
  refine thenN ?_
  refine Wp.le (Le.of (s := ⟨[(2, .obj 2 0), (3, .obj 3 0), (4, .t (.bool false))], [(2, [.t (.int .i64 p0.fFrom), .t (.int .i64 p0.fTo), .t (.int .i64 p0.fI)]), (3, [.t (.int .i64 p1.fFrom), .t (.int .i64 p1.fTo), .t (.int .i64 p1.fI)])], []⟩) (mo := []) (mr := []) (by kernel_rfl) (by kernel_rfl) (by kernel_rfl) (by kernel_rfl)) ?_
  refine Wp.seq ?_
  refine Wp.seq ?_
  refine Wp.regionS (pOf []) (rhoOf []) (by kernel_rfl) ?_
  refine Runs.all (by kernel_rfl) ?_
  refine thenN ?_
  refine Wp.le (Le.of (s := ⟨[(2, .obj 2 0), (3, .obj 3 0), (4, .t (.bool false)), (9, .t (.bool (p0.fFrom != p1.fFrom)))], [(2, [.t (.int .i64 p0.fFrom), .t (.int .i64 p0.fTo), .t (.int .i64 p0.fI)]), (3, [.t (.int .i64 p1.fFrom), .t (.int .i64 p1.fTo), .t (.int .i64 p1.fI)])], []⟩) (mo := []) (mr := []) (by kernel_rfl) (by kernel_rfl) (by kernel_rfl) (by kernel_rfl)) ?_
  refine Wp.cond2 (b := p0.fFrom != p1.fFrom) (by kernel_rfl) (fun hc => ?_) (fun hc => ?_)
  · have h := cond_t h hc
    refine Wp.seq ?_
    refine Wp.regionS (pOf []) (rhoOf []) (by kernel_rfl) ?_
    refine Runs.all (by kernel_rfl) ?_
    refine thenN ?_
    refine Wp.le (Le.of (s := ⟨[(2, .obj 2 0), (3, .obj 3 0), (4, .t (.bool false))], [(2, [.t (.int .i64 p0.fFrom), .t (.int .i64 p0.fTo), .t (.int .i64 p0.fI)]), (3, [.t (.int .i64 p1.fFrom), .t (.int .i64 p1.fTo), .t (.int .i64 p1.fI)])], []⟩) (mo := []) (mr := []) (by kernel_rfl) (by kernel_rfl) (by kernel_rfl) (by kernel_rfl)) ?_
    refine Wp.ret ?_
    refine thenR ?_
    have hr := Option.some.inj h
    subst hr
    exact RetK [.t (.bool false)] (.one (.t (.bool false))) [] (by kernel_rfl) (by kernel_rfl) (.refl _) .nil
  · have h := cond_f h hc
    refine Wp.skip ?_
    refine thenN ?_
    refine Wp.seq ?_
    refine Wp.seq ?_
    refine Wp.regionS (pOf []) (rhoOf []) (by kernel_rfl) ?_
    refine Runs.all (by kernel_rfl) ?_
    refine thenN ?_
    refine Wp.le (Le.of (s := ⟨[(2, .obj 2 0), (3, .obj 3 0), (4, .t (.bool false)), (14, .t (.bool (p0.fTo != p1.fTo)))], [(2, [.t (.int .i64 p0.fFrom), .t (.int .i64 p0.fTo), .t (.int .i64 p0.fI)]), (3, [.t (.int .i64 p1.fFrom), .t (.int .i64 p1.fTo), .t (.int .i64 p1.fI)])], []⟩) (mo := []) (mr := []) (by kernel_rfl) (by kernel_rfl) (by kernel_rfl) (by kernel_rfl)) ?_
    refine Wp.cond2 (b := p0.fTo != p1.fTo) (by kernel_rfl) (fun hc => ?_) (fun hc => ?_)
    · have h := cond_t h hc
      refine Wp.seq ?_
      refine Wp.regionS (pOf []) (rhoOf []) (by kernel_rfl) ?_
      refine Runs.all (by kernel_rfl) ?_
      refine thenN ?_
      refine Wp.le (Le.of (s := ⟨[(2, .obj 2 0), (3, .obj 3 0), (4, .t (.bool false))], [(2, [.t (.int .i64 p0.fFrom), .t (.int .i64 p0.fTo), .t (.int .i64 p0.fI)]), (3, [.t (.int .i64 p1.fFrom), .t (.int .i64 p1.fTo), .t (.int .i64 p1.fI)])], []⟩) (mo := []) (mr := []) (by kernel_rfl) (by kernel_rfl) (by kernel_rfl) (by kernel_rfl)) ?_
      refine Wp.ret ?_
      refine thenR ?_
      have hr := Option.some.inj h
      subst hr
      exact RetK [.t (.bool false)] (.one (.t (.bool false))) [] (by kernel_rfl) (by kernel_rfl) (.refl _) .nil
    · have h := cond_f h hc
      refine Wp.skip ?_
      refine thenN ?_
      refine Wp.seq ?_
      refine Wp.seq ?_
      refine Wp.regionS (pOf []) (rhoOf []) (by kernel_rfl) ?_
      refine Runs.all (by kernel_rfl) ?_
      refine thenN ?_
      refine Wp.le (Le.of (s := ⟨[(4, .t (.bool false)), (19, .t (.bool (p0.fI != p1.fI)))], [], []⟩) (mo := []) (mr := []) (by kernel_rfl) (by kernel_rfl) (by kernel_rfl) (by kernel_rfl)) ?_
      refine Wp.cond2 (b := p0.fI != p1.fI) (by kernel_rfl) (fun hc => ?_) (fun hc => ?_)
      · have h := cond_t h hc
        refine Wp.seq ?_
        refine Wp.regionS (pOf []) (rhoOf []) (by kernel_rfl) ?_
        refine Runs.all (by kernel_rfl) ?_
        refine thenN ?_
        refine Wp.le (Le.of (s := ⟨[(4, .t (.bool false))], [], []⟩) (mo := []) (mr := []) (by kernel_rfl) (by kernel_rfl) (by kernel_rfl) (by kernel_rfl)) ?_
        refine Wp.ret ?_
        refine thenR ?_
        have hr := Option.some.inj h
        subst hr
        exact RetK [.t (.bool false)] (.one (.t (.bool false))) [] (by kernel_rfl) (by kernel_rfl) (.refl _) .nil
      · have h := cond_f h hc
        refine Wp.skip ?_
        refine thenN ?_
        refine Wp.seq ?_
        refine Wp.regionS (pOf []) (rhoOf []) (by kernel_rfl) ?_
        refine Runs.all (by kernel_rfl) ?_
        refine thenN ?_
        refine Wp.le (Le.of (s := ⟨[(4, .t (.bool true))], [], []⟩) (mo := []) (mr := []) (by kernel_rfl) (by kernel_rfl) (by kernel_rfl) (by kernel_rfl)) ?_
        refine Wp.ret ?_
        have hr := Option.some.inj h
        subst hr
        exact RetK [.t (.bool true)] (.one (.t (.bool true))) [] (by kernel_rfl) (by kernel_rfl) (.refl _) .nil
theorem laws_eqSentS_ok (u : Nat) (p0 : List Sent) (p1 : List Sent) (r : Bool) (h : laws_eqSentS u p0 p1 = some r) : CallOK Try.prog 70 [.one (.t (.sl 3 (p0.map Sent.enc))), .one (.t (.sl 3 (p1.map Sent.enc)))] (.one (.t (.bool r))) [] := by
  unfold laws_eqSentS at h
  refine CallOK.of_bodyK (fn := Try.f70) (m := false) [.t (.sl 3 (p0.map Sent.enc)), .t (.sl 3 (p1.map Sent.enc))] (by kernel_rfl) rfl (by kernel_rfl) (by kernel_rfl) (by kernel_rfl) (by kernel_rfl) (by kernel_rfl) ?_
  refine Wp.seq ?_
  refine Wp.regionS (pOf []) (rhoOf []) (by kernel_rfl) ?_
  refine Runs.all (by kernel_rfl) ?_
  refine thenN ?_
  refine Wp.le (Le.of (s := ⟨[(0, .t (.sl 3 (p0.map Sent.enc))), (1, .t (.sl 3 (p1.map Sent.enc))), (4, .t (.bool false))], [], []⟩) (mo := []) (mr := []) (by kernel_rfl) (by kernel_rfl) (by kernel_rfl) (by kernel_rfl)) ?_
  refine Wp.seq ?_
  refine Wp.seq ?_
  refine Wp.regionS (pOf []) (rhoOf []) (by kernel_rfl) ?_
  refine Runs.batch 1 (by kernel_rfl) ?_
  refine Runs.lenT (y := .t (.sl 3 (p0.map Sent.enc))) (e := 99) Sent.enc p0 3 rfl rfl rfl (by kernel_rfl) (by kernel_rfl) (by kernel_rfl) (by kernel_rfl) (by kernel_rfl) ?_
  refine Runs.batch 1 (by kernel_rfl) ?_
  refine Runs.lenT (y := .t (.sl 3 (p1.map Sent.enc))) (e := 99) Sent.enc p1 3 rfl rfl rfl (by kernel_rfl) (by kernel_rfl) (by kernel_rfl) (by kernel_rfl) (by kernel_rfl) ?_
  refine Runs.all (by kernel_rfl) ?_
  refine thenN ?_
  refine Wp.le (Le.of (s := ⟨[(0, .t (.sl 3 (p0.map Sent.enc))), (1, .t (.sl 3 (p1.map Sent.enc))), (4, .t (.bool false)), (10, .t (.bool (((p0.length : Int)) != ((p1.length : Int)))))], [], []⟩) (mo := []) (mr := []) (by kernel_rfl) (by kernel_rfl) (by kernel_rfl) (by kernel_rfl)) ?_
  refine Wp.cond2 (b := ((p0.length : Int)) != ((p1.length : Int))) (by kernel_rfl) (fun hc => ?_) (fun hc => ?_)
  · have h := cond_t h hc
    refine Wp.seq ?_
    refine Wp.regionS (pOf []) (rhoOf []) (by kernel_rfl) ?_
    refine Runs.all (by kernel_rfl) ?_
    refine thenN ?_
    refine Wp.le (Le.of (s := ⟨[(0, .t (.sl 3 (p0.map Sent.enc))), (1, .t (.sl 3 (p1.map Sent.enc))), (4, .t (.bool false))], [], []⟩) (mo := []) (mr := []) (by kernel_rfl) (by kernel_rfl) (by kernel_rfl) (by kernel_rfl)) ?_
    refine Wp.ret ?_
    refine thenR ?_
    have hr := Option.some.inj h
    subst hr
    exact RetK [.t (.bool false)] (.one (.t (.bool false))) [] (by kernel_rfl) (by kernel_rfl) (.refl _) .nil
  · have h := cond_f h hc
    refine Wp.skip ?_
    refine thenN ?_
    refine Wp.seqJ (α := Unit) (fun a => ⟨[(4, .t (.bool false))], [], []⟩) (fun a => laws_eqSentS_j1 u = some r) ?_ ?_
    · rintro ⟨⟩ h
      change laws_eqSentS_j1 u = some r at h
      unfold laws_eqSentS_j1 at h
      refine Wp.seq ?_
      refine Wp.regionS (pOf []) (rhoOf []) (by kernel_rfl) ?_
      refine Runs.all (by kernel_rfl) ?_
      refine thenN ?_
      refine Wp.le (Le.of (s := ⟨[(4, .t (.bool true))], [], []⟩) (mo := []) (mr := []) (by kernel_rfl) (by kernel_rfl) (by kernel_rfl) (by kernel_rfl)) ?_
      refine Wp.ret ?_
      have hr := Option.some.inj h
      subst hr
      exact RetK [.t (.bool true)] (.one (.t (.bool true))) [] (by kernel_rfl) (by kernel_rfl) (.refl _) .nil
    · refine Wp.seq ?_
      refine Wp.regionS (pOf []) (rhoOf []) (by kernel_rfl) ?_
      refine Runs.all (by kernel_rfl) ?_
      refine thenN ?_
      refine Wp.le (Le.of (s := ⟨[(0, .t (.sl 3 (p0.map Sent.enc))), (1, .t (.sl 3 (p1.map Sent.enc))), (4, .t (.bool false)), (5, .t (.int .i64 0))], [], []⟩) (mo := []) (mr := []) (by kernel_rfl) (by kernel_rfl) (by kernel_rfl) (by kernel_rfl)) ?_
      refine Wp.block ?_
      refine Wp.loopF (α := (List Sent) × (List Sent) × Int) (fun a => ⟨[(0, .t (.sl 3 (a.1.map Sent.enc))), (1, .t (.sl 3 (a.2.1.map Sent.enc))), (4, .t (.bool false)), (5, .t (.int .i64 a.2.2))], [], []⟩) (fun k_laws_eqSentS_l2 a => laws_eqSentS_l2 u k_laws_eqSentS_l2 a.1 a.2.1 a.2.2 = some r) ?_ ?_ u (p0, p1, 0) h (Le.of (mo := []) (mr := []) (by kernel_rfl) (by kernel_rfl) (by kernel_rfl) (by kernel_rfl))
      · intro a h; unfold laws_eqSentS_l2 at h; cases h
      · rintro k_laws_eqSentS_l2 ⟨p0, p1, x2⟩ h
        change laws_eqSentS_l2 u (k_laws_eqSentS_l2 + 1) p0 p1 x2 = some r at h
        rw [laws_eqSentS_l2] at h
        refine Wp.seq ?_
        refine Wp.seq ?_
        refine Wp.regionS (pOf []) (rhoOf []) (by kernel_rfl) ?_
        refine Runs.batch 2 (by kernel_rfl) ?_
        refine Runs.lenT (y := .t (.sl 3 (p0.map Sent.enc))) (e := 99) Sent.enc p0 3 rfl rfl rfl (by kernel_rfl) (by kernel_rfl) (by kernel_rfl) (by kernel_rfl) (by kernel_rfl) ?_
        refine Runs.all (by kernel_rfl) ?_
        refine thenN ?_
        refine Wp.le (Le.of (s := ⟨[(0, .t (.sl 3 (p0.map Sent.enc))), (1, .t (.sl 3 (p1.map Sent.enc))), (4, .t (.bool false)), (5, .t (.int .i64 x2)), (11, .t (.int .i64 x2)), (12, .t (.sl 3 (p0.map Sent.enc))), (13, .t (.int .i64 ((p0.length : Int)))), (14, .t (.bool (decide (x2 < ((p0.length : Int))))))], [], []⟩) (mo := []) (mr := []) (by kernel_rfl) (by kernel_rfl) (by kernel_rfl) (by kernel_rfl)) ?_
        refine Wp.cond2 (b := decide (x2 < ((p0.length : Int)))) (by kernel_rfl) (fun hc => ?_) (fun hc => ?_)
        · have h := cond_t h hc
          refine Wp.skip ?_
          refine thenN ?_
          refine Wp.seq ?_
          refine Wp.block ?_
          refine Wp.seq ?_
          refine Wp.regionA (pOf []) (rhoOf [(0, .frz), (1, .frz), (5, .frz), (17, .frz), (18, .frz), (19, .frz), (20, .frz), (21, .frz), (22, .frz), (23, .frz), (24, .frz), (25, .frz)]) (by kernel_rfl) (by kernel_rfl) ?_
          refine Runs.batch 2 (by kernel_rfl) ?_
          obtain ⟨y4, e_y4, h⟩ := bind_some h
          refine Runs.idxT (e := 99) (kk := .i64) (sz := 3) Sent.enc p0 x2 rfl (by kernel_rfl) (by kernel_rfl) (by kernel_rfl) (by kernel_rfl) (by kernel_rfl) (by kernel_rfl) e_y4 ?_
          refine Runs.batch 3 (by kernel_rfl) ?_
          obtain ⟨y5, e_y5, h⟩ := bind_some h
          refine Runs.idxT (e := 99) (kk := .i64) (sz := 3) Sent.enc p1 x2 rfl (by kernel_rfl) (by kernel_rfl) (by kernel_rfl) (by kernel_rfl) (by kernel_rfl) (by kernel_rfl) e_y5 ?_
          refine Runs.batch 1 (by kernel_rfl) ?_
          obtain ⟨r6, e_r6, h⟩ := bind_some h
          refine Runs.callK false 25 120 [] [.agg [.t (.int .i64 y4.fFrom), .t (.int .i64 y4.fTo), .t (.int .i64 y4.fI)], .agg [.t (.int .i64 y5.fFrom), .t (.int .i64 y5.fTo), .t (.int .i64 y5.fI)]] [.agg [.t (.int .i64 y4.fFrom), .t (.int .i64 y4.fTo), .t (.int .i64 y4.fI)], .agg [.t (.int .i64 y5.fFrom), .t (.int .i64 y5.fTo), .t (.int .i64 y5.fI)]] (.one (.t (.bool r6))) [] rfl rfl (by kernel_rfl) (by kernel_rfl) (by kernel_rfl) (by kernel_rfl) (by kernel_rfl) (laws_eqSent_ok u y4 y5 r6 e_r6) (by kernel_rfl) ?_
          refine Runs.all (by kernel_rfl) ?_
          refine thenN ?_
          refine Wp.le (Le.of (s := ⟨[(0, .t (.sl 3 (p0.map Sent.enc))), (1, .t (.sl 3 (p1.map Sent.enc))), (4, .t (.bool false)), (5, .t (.int .i64 x2)), (11, .t (.int .i64 x2)), (12, .t (.sl 3 (p0.map Sent.enc))), (13, .t (.int .i64 ((p0.length : Int)))), (14, .t (.bool (decide (x2 < ((p0.length : Int)))))), (17, .t (.sl 3 (p0.map Sent.enc))), (18, .t (.int .i64 x2)), (19, .fadr [.int .i64 y4.fFrom, .int .i64 y4.fTo, .int .i64 y4.fI]), (20, .agg [.t (.int .i64 y4.fFrom), .t (.int .i64 y4.fTo), .t (.int .i64 y4.fI)]), (21, .t (.sl 3 (p1.map Sent.enc))), (22, .t (.int .i64 x2)), (23, .fadr [.int .i64 y5.fFrom, .int .i64 y5.fTo, .int .i64 y5.fI]), (24, .agg [.t (.int .i64 y5.fFrom), .t (.int .i64 y5.fTo), .t (.int .i64 y5.fI)]), (25, .t (.bool r6)), (26, .t (.bool (!r6)))], [], []⟩) (mo := []) (mr := []) (by kernel_rfl) (by kernel_rfl) (by kernel_rfl) (by kernel_rfl)) ?_
          refine Wp.cond2 (b := !r6) (by kernel_rfl) (fun hc => ?_) (fun hc => ?_)
          · have h := cond_t h hc
            refine Wp.seq ?_
            refine Wp.regionS (pOf []) (rhoOf []) (by kernel_rfl) ?_
            refine Runs.all (by kernel_rfl) ?_
            refine thenN ?_
            refine Wp.le (Le.of (s := ⟨[(0, .t (.sl 3 (p0.map Sent.enc))), (1, .t (.sl 3 (p1.map Sent.enc))), (4, .t (.bool false)), (5, .t (.int .i64 x2)), (11, .t (.int .i64 x2)), (12, .t (.sl 3 (p0.map Sent.enc))), (13, .t (.int .i64 ((p0.length : Int)))), (14, .t (.bool (decide (x2 < ((p0.length : Int)))))), (17, .t (.sl 3 (p0.map Sent.enc))), (18, .t (.int .i64 x2)), (19, .fadr [.int .i64 y4.fFrom, .int .i64 y4.fTo, .int .i64 y4.fI]), (20, .agg [.t (.int .i64 y4.fFrom), .t (.int .i64 y4.fTo), .t (.int .i64 y4.fI)]), (21, .t (.sl 3 (p1.map Sent.enc))), (22, .t (.int .i64 x2)), (23, .fadr [.int .i64 y5.fFrom, .int .i64 y5.fTo, .int .i64 y5.fI]), (24, .agg [.t (.int .i64 y5.fFrom), .t (.int .i64 y5.fTo), .t (.int .i64 y5.fI)]), (25, .t (.bool r6)), (26, .t (.bool (!r6)))], [], []⟩) (mo := []) (mr := []) (by kernel_rfl) (by kernel_rfl) (by kernel_rfl) (by kernel_rfl)) ?_
            refine Wp.ret ?_
            refine blkR ?_
            refine thenR ?_
            refine thenR ?_
            refine blkR ?_
            refine thenR ?_
            have hr := Option.some.inj h
            subst hr
            exact RetK [.t (.bool false)] (.one (.t (.bool false))) [] (by kernel_rfl) (by kernel_rfl) (.refl _) .nil
          · have h := cond_f h hc
            refine Wp.skip ?_
            refine blkN ?_
            refine thenN ?_
            refine Wp.regionS (pOf []) (rhoOf []) (by kernel_rfl) ?_
            refine Runs.all (by kernel_rfl) ?_
            refine thenN ?_
            exact ⟨(p0, p1, bAdd .i64 x2 1), h, Le.of (mo := []) (mr := []) (by kernel_rfl) (by kernel_rfl) (by kernel_rfl) (by kernel_rfl)⟩
        · have h := cond_f h hc
          refine Wp.exit ?_
          refine thenE ?_
          refine thenE ?_
          refine blkE ?_
          refine thenN ?_
          exact ⟨(), h, Le.of (mo := []) (mr := []) (by kernel_rfl) (by kernel_rfl) (by kernel_rfl) (by kernel_rfl)⟩
theorem laws_eqWorld_ok (u : Nat) (p0 : World) (p1 : World) (r : Bool) (h : laws_eqWorld u p0 p1 = some r) : CallOK Try.prog 28 [.agg [.t (.int .i64 p0.fC.fSize), .t (.int .i64 p0.fC.fWindow), .t (.int .i64 p0.fC.fSuspect), .t (.int .i64 p0.fC.fForget), .t (.sl 1 (p0.fT.fUp.map (eInt .i64))), .t (.sl 1 (p0.fNew.map (eInt .u8))), .t (.sl 1 (p0.fOld.map Image.enc)), .t (.sl 12 (p0.fN.map Node.enc)), .t (.sl 6 (p0.fD.map Disk.enc)), .t (.sl 3 (p0.fNet.map Packet.enc)), .t (.sl 3 (p0.fLog.map Sent.enc)), .t (.int .i64 p0.fLost)], .agg [.t (.int .i64 p1.fC.fSize), .t (.int .i64 p1.fC.fWindow), .t (.int .i64 p1.fC.fSuspect), .t (.int .i64 p1.fC.fForget), .t (.sl 1 (p1.fT.fUp.map (eInt .i64))), .t (.sl 1 (p1.fNew.map (eInt .u8))), .t (.sl 1 (p1.fOld.map Image.enc)), .t (.sl 12 (p1.fN.map Node.enc)), .t (.sl 6 (p1.fD.map Disk.enc)), .t (.sl 3 (p1.fNet.map Packet.enc)), .t (.sl 3 (p1.fLog.map Sent.enc)), .t (.int .i64 p1.fLost)]] (.one (.t (.bool r))) [] := by
  unfold laws_eqWorld at h
  refine CallOK.of_bodyK (fn := Try.f28) (m := false) [.agg [.t (.int .i64 p0.fC.fSize), .t (.int .i64 p0.fC.fWindow), .t (.int .i64 p0.fC.fSuspect), .t (.int .i64 p0.fC.fForget), .t (.sl 1 (p0.fT.fUp.map (eInt .i64))), .t (.sl 1 (p0.fNew.map (eInt .u8))), .t (.sl 1 (p0.fOld.map Image.enc)), .t (.sl 12 (p0.fN.map Node.enc)), .t (.sl 6 (p0.fD.map Disk.enc)), .t (.sl 3 (p0.fNet.map Packet.enc)), .t (.sl 3 (p0.fLog.map Sent.enc)), .t (.int .i64 p0.fLost)], .agg [.t (.int .i64 p1.fC.fSize), .t (.int .i64 p1.fC.fWindow), .t (.int .i64 p1.fC.fSuspect), .t (.int .i64 p1.fC.fForget), .t (.sl 1 (p1.fT.fUp.map (eInt .i64))), .t (.sl 1 (p1.fNew.map (eInt .u8))), .t (.sl 1 (p1.fOld.map Image.enc)), .t (.sl 12 (p1.fN.map Node.enc)), .t (.sl 6 (p1.fD.map Disk.enc)), .t (.sl 3 (p1.fNet.map Packet.enc)), .t (.sl 3 (p1.fLog.map Sent.enc)), .t (.int .i64 p1.fLost)]] (by kernel_rfl) rfl (by kernel_rfl) (by kernel_rfl) (by kernel_rfl) (by kernel_rfl) (by kernel_rfl) ?_
  refine Wp.seq ?_
  refine Wp.regionS (pOf []) (rhoOf []) (by kernel_rfl) ?_
  refine Runs.all (by kernel_rfl) ?_
  refine thenN ?_
  refine Wp.le (Le.of (s := ⟨[(2, .obj 2 0), (3, .obj 3 0), (4, .t (.bool false))], [(2, [.t (.int .i64 p0.fC.fSize), .t (.int .i64 p0.fC.fWindow), .t (.int .i64 p0.fC.fSuspect), .t (.int .i64 p0.fC.fForget), .t (.sl 1 (p0.fT.fUp.map (eInt .i64))), .t (.sl 1 (p0.fNew.map (eInt .u8))), .t (.sl 1 (p0.fOld.map Image.enc)), .t (.sl 12 (p0.fN.map Node.enc)), .t (.sl 6 (p0.fD.map Disk.enc)), .t (.sl 3 (p0.fNet.map Packet.enc)), .t (.sl 3 (p0.fLog.map Sent.enc)), .t (.int .i64 p0.fLost)]), (3, [.t (.int .i64 p1.fC.fSize), .t (.int .i64 p1.fC.fWindow), .t (.int .i64 p1.fC.fSuspect), .t (.int .i64 p1.fC.fForget), .t (.sl 1 (p1.fT.fUp.map (eInt .i64))), .t (.sl 1 (p1.fNew.map (eInt .u8))), .t (.sl 1 (p1.fOld.map Image.enc)), .t (.sl 12 (p1.fN.map Node.enc)), .t (.sl 6 (p1.fD.map Disk.enc)), .t (.sl 3 (p1.fNet.map Packet.enc)), .t (.sl 3 (p1.fLog.map Sent.enc)), .t (.int .i64 p1.fLost)])], []⟩) (mo := []) (mr := []) (by kernel_rfl) (by kernel_rfl) (by kernel_rfl) (by kernel_rfl)) ?_
  refine Wp.seq ?_
  refine Wp.seq ?_
  refine Wp.regionS (pOf []) (rhoOf []) (by kernel_rfl) ?_
  refine Runs.batch 4 (by kernel_rfl) ?_
  obtain ⟨r1, e_r1, h⟩ := bind_some h
  refine Runs.callK false 9 65 [] [.agg [.t (.int .i64 p0.fC.fSize), .t (.int .i64 p0.fC.fWindow), .t (.int .i64 p0.fC.fSuspect), .t (.int .i64 p0.fC.fForget)], .agg [.t (.int .i64 p1.fC.fSize), .t (.int .i64 p1.fC.fWindow), .t (.int .i64 p1.fC.fSuspect), .t (.int .i64 p1.fC.fForget)]] [.agg [.t (.int .i64 p0.fC.fSize), .t (.int .i64 p0.fC.fWindow), .t (.int .i64 p0.fC.fSuspect), .t (.int .i64 p0.fC.fForget)], .agg [.t (.int .i64 p1.fC.fSize), .t (.int .i64 p1.fC.fWindow), .t (.int .i64 p1.fC.fSuspect), .t (.int .i64 p1.fC.fForget)]] (.one (.t (.bool r1))) [] rfl rfl (by kernel_rfl) (by kernel_rfl) (by kernel_rfl) (by kernel_rfl) (by kernel_rfl) (laws_eqConf_ok u p0.fC p1.fC r1 e_r1) (by kernel_rfl) ?_
  refine Runs.all (by kernel_rfl) ?_
  refine thenN ?_
  refine Wp.le (Le.of (s := ⟨[(2, .obj 2 0), (3, .obj 3 0), (4, .t (.bool false)), (10, .t (.bool (!r1)))], [(2, [.t (.int .i64 p0.fC.fSize), .t (.int .i64 p0.fC.fWindow), .t (.int .i64 p0.fC.fSuspect), .t (.int .i64 p0.fC.fForget), .t (.sl 1 (p0.fT.fUp.map (eInt .i64))), .t (.sl 1 (p0.fNew.map (eInt .u8))), .t (.sl 1 (p0.fOld.map Image.enc)), .t (.sl 12 (p0.fN.map Node.enc)), .t (.sl 6 (p0.fD.map Disk.enc)), .t (.sl 3 (p0.fNet.map Packet.enc)), .t (.sl 3 (p0.fLog.map Sent.enc)), .t (.int .i64 p0.fLost)]), (3, [.t (.int .i64 p1.fC.fSize), .t (.int .i64 p1.fC.fWindow), .t (.int .i64 p1.fC.fSuspect), .t (.int .i64 p1.fC.fForget), .t (.sl 1 (p1.fT.fUp.map (eInt .i64))), .t (.sl 1 (p1.fNew.map (eInt .u8))), .t (.sl 1 (p1.fOld.map Image.enc)), .t (.sl 12 (p1.fN.map Node.enc)), .t (.sl 6 (p1.fD.map Disk.enc)), .t (.sl 3 (p1.fNet.map Packet.enc)), .t (.sl 3 (p1.fLog.map Sent.enc)), .t (.int .i64 p1.fLost)])], []⟩) (mo := []) (mr := []) (by kernel_rfl) (by kernel_rfl) (by kernel_rfl) (by kernel_rfl)) ?_
  refine Wp.cond2 (b := !r1) (by kernel_rfl) (fun hc => ?_) (fun hc => ?_)
  · have h := cond_t h hc
    refine Wp.seq ?_
    refine Wp.regionS (pOf []) (rhoOf []) (by kernel_rfl) ?_
    refine Runs.all (by kernel_rfl) ?_
    refine thenN ?_
    refine Wp.le (Le.of (s := ⟨[(2, .obj 2 0), (3, .obj 3 0), (4, .t (.bool false))], [(2, [.t (.int .i64 p0.fC.fSize), .t (.int .i64 p0.fC.fWindow), .t (.int .i64 p0.fC.fSuspect), .t (.int .i64 p0.fC.fForget), .t (.sl 1 (p0.fT.fUp.map (eInt .i64))), .t (.sl 1 (p0.fNew.map (eInt .u8))), .t (.sl 1 (p0.fOld.map Image.enc)), .t (.sl 12 (p0.fN.map Node.enc)), .t (.sl 6 (p0.fD.map Disk.enc)), .t (.sl 3 (p0.fNet.map Packet.enc)), .t (.sl 3 (p0.fLog.map Sent.enc)), .t (.int .i64 p0.fLost)]), (3, [.t (.int .i64 p1.fC.fSize), .t (.int .i64 p1.fC.fWindow), .t (.int .i64 p1.fC.fSuspect), .t (.int .i64 p1.fC.fForget), .t (.sl 1 (p1.fT.fUp.map (eInt .i64))), .t (.sl 1 (p1.fNew.map (eInt .u8))), .t (.sl 1 (p1.fOld.map Image.enc)), .t (.sl 12 (p1.fN.map Node.enc)), .t (.sl 6 (p1.fD.map Disk.enc)), .t (.sl 3 (p1.fNet.map Packet.enc)), .t (.sl 3 (p1.fLog.map Sent.enc)), .t (.int .i64 p1.fLost)])], []⟩) (mo := []) (mr := []) (by kernel_rfl) (by kernel_rfl) (by kernel_rfl) (by kernel_rfl)) ?_
    refine Wp.ret ?_
    refine thenR ?_
    have hr := Option.some.inj h
    subst hr
    exact RetK [.t (.bool false)] (.one (.t (.bool false))) [] (by kernel_rfl) (by kernel_rfl) (.refl _) .nil
  · have h := cond_f h hc
    refine Wp.skip ?_
    refine thenN ?_
    refine Wp.seq ?_
    refine Wp.seq ?_
    refine Wp.regionS (pOf []) (rhoOf []) (by kernel_rfl) ?_
    refine Runs.batch 4 (by kernel_rfl) ?_
    obtain ⟨r2, e_r2, h⟩ := bind_some h
    refine Runs.callK false 15 66 [] [.agg [.t (.sl 1 (p0.fT.fUp.map (eInt .i64)))], .agg [.t (.sl 1 (p1.fT.fUp.map (eInt .i64)))]] [.agg [.t (.sl 1 (p0.fT.fUp.map (eInt .i64)))], .agg [.t (.sl 1 (p1.fT.fUp.map (eInt .i64)))]] (.one (.t (.bool r2))) [] rfl rfl (by kernel_rfl) (by kernel_rfl) (by kernel_rfl) (by kernel_rfl) (by kernel_rfl) (laws_eqTree_ok u p0.fT p1.fT r2 e_r2) (by kernel_rfl) ?_
    refine Runs.all (by kernel_rfl) ?_
    refine thenN ?_
    refine Wp.le (Le.of (s := ⟨[(2, .obj 2 0), (3, .obj 3 0), (4, .t (.bool false)), (16, .t (.bool (!r2)))], [(2, [.t (.int .i64 p0.fC.fSize), .t (.int .i64 p0.fC.fWindow), .t (.int .i64 p0.fC.fSuspect), .t (.int .i64 p0.fC.fForget), .t (.sl 1 (p0.fT.fUp.map (eInt .i64))), .t (.sl 1 (p0.fNew.map (eInt .u8))), .t (.sl 1 (p0.fOld.map Image.enc)), .t (.sl 12 (p0.fN.map Node.enc)), .t (.sl 6 (p0.fD.map Disk.enc)), .t (.sl 3 (p0.fNet.map Packet.enc)), .t (.sl 3 (p0.fLog.map Sent.enc)), .t (.int .i64 p0.fLost)]), (3, [.t (.int .i64 p1.fC.fSize), .t (.int .i64 p1.fC.fWindow), .t (.int .i64 p1.fC.fSuspect), .t (.int .i64 p1.fC.fForget), .t (.sl 1 (p1.fT.fUp.map (eInt .i64))), .t (.sl 1 (p1.fNew.map (eInt .u8))), .t (.sl 1 (p1.fOld.map Image.enc)), .t (.sl 12 (p1.fN.map Node.enc)), .t (.sl 6 (p1.fD.map Disk.enc)), .t (.sl 3 (p1.fNet.map Packet.enc)), .t (.sl 3 (p1.fLog.map Sent.enc)), .t (.int .i64 p1.fLost)])], []⟩) (mo := []) (mr := []) (by kernel_rfl) (by kernel_rfl) (by kernel_rfl) (by kernel_rfl)) ?_
    refine Wp.cond2 (b := !r2) (by kernel_rfl) (fun hc => ?_) (fun hc => ?_)
    · have h := cond_t h hc
      refine Wp.seq ?_
      refine Wp.regionS (pOf []) (rhoOf []) (by kernel_rfl) ?_
      refine Runs.all (by kernel_rfl) ?_
      refine thenN ?_
      refine Wp.le (Le.of (s := ⟨[(2, .obj 2 0), (3, .obj 3 0), (4, .t (.bool false))], [(2, [.t (.int .i64 p0.fC.fSize), .t (.int .i64 p0.fC.fWindow), .t (.int .i64 p0.fC.fSuspect), .t (.int .i64 p0.fC.fForget), .t (.sl 1 (p0.fT.fUp.map (eInt .i64))), .t (.sl 1 (p0.fNew.map (eInt .u8))), .t (.sl 1 (p0.fOld.map Image.enc)), .t (.sl 12 (p0.fN.map Node.enc)), .t (.sl 6 (p0.fD.map Disk.enc)), .t (.sl 3 (p0.fNet.map Packet.enc)), .t (.sl 3 (p0.fLog.map Sent.enc)), .t (.int .i64 p0.fLost)]), (3, [.t (.int .i64 p1.fC.fSize), .t (.int .i64 p1.fC.fWindow), .t (.int .i64 p1.fC.fSuspect), .t (.int .i64 p1.fC.fForget), .t (.sl 1 (p1.fT.fUp.map (eInt .i64))), .t (.sl 1 (p1.fNew.map (eInt .u8))), .t (.sl 1 (p1.fOld.map Image.enc)), .t (.sl 12 (p1.fN.map Node.enc)), .t (.sl 6 (p1.fD.map Disk.enc)), .t (.sl 3 (p1.fNet.map Packet.enc)), .t (.sl 3 (p1.fLog.map Sent.enc)), .t (.int .i64 p1.fLost)])], []⟩) (mo := []) (mr := []) (by kernel_rfl) (by kernel_rfl) (by kernel_rfl) (by kernel_rfl)) ?_
      refine Wp.ret ?_
      refine thenR ?_
      have hr := Option.some.inj h
      subst hr
      exact RetK [.t (.bool false)] (.one (.t (.bool false))) [] (by kernel_rfl) (by kernel_rfl) (.refl _) .nil
    · have h := cond_f h hc
      refine Wp.skip ?_
      refine thenN ?_
      refine Wp.seq ?_
      refine Wp.seq ?_
      refine Wp.regionS (pOf []) (rhoOf []) (by kernel_rfl) ?_
      refine Runs.batch 4 (by kernel_rfl) ?_
      obtain ⟨r3, e_r3, h⟩ := bind_some h
      refine Runs.callK false 21 16 [] [.t (.sl 1 (p0.fNew.map (eInt .u8))), .t (.sl 1 (p1.fNew.map (eInt .u8)))] [.one (.t (.sl 1 (p0.fNew.map (eInt .u8)))), .one (.t (.sl 1 (p1.fNew.map (eInt .u8))))] (.one (.t (.bool r3))) [] rfl rfl (by kernel_rfl) (by kernel_rfl) (by kernel_rfl) (by kernel_rfl) (by kernel_rfl) (laws_eqByteS_ok u p0.fNew p1.fNew r3 e_r3) (by kernel_rfl) ?_
      refine Runs.all (by kernel_rfl) ?_
      refine thenN ?_
      refine Wp.le (Le.of (s := ⟨[(2, .obj 2 0), (3, .obj 3 0), (4, .t (.bool false)), (22, .t (.bool (!r3)))], [(2, [.t (.int .i64 p0.fC.fSize), .t (.int .i64 p0.fC.fWindow), .t (.int .i64 p0.fC.fSuspect), .t (.int .i64 p0.fC.fForget), .t (.sl 1 (p0.fT.fUp.map (eInt .i64))), .t (.sl 1 (p0.fNew.map (eInt .u8))), .t (.sl 1 (p0.fOld.map Image.enc)), .t (.sl 12 (p0.fN.map Node.enc)), .t (.sl 6 (p0.fD.map Disk.enc)), .t (.sl 3 (p0.fNet.map Packet.enc)), .t (.sl 3 (p0.fLog.map Sent.enc)), .t (.int .i64 p0.fLost)]), (3, [.t (.int .i64 p1.fC.fSize), .t (.int .i64 p1.fC.fWindow), .t (.int .i64 p1.fC.fSuspect), .t (.int .i64 p1.fC.fForget), .t (.sl 1 (p1.fT.fUp.map (eInt .i64))), .t (.sl 1 (p1.fNew.map (eInt .u8))), .t (.sl 1 (p1.fOld.map Image.enc)), .t (.sl 12 (p1.fN.map Node.enc)), .t (.sl 6 (p1.fD.map Disk.enc)), .t (.sl 3 (p1.fNet.map Packet.enc)), .t (.sl 3 (p1.fLog.map Sent.enc)), .t (.int .i64 p1.fLost)])], []⟩) (mo := []) (mr := []) (by kernel_rfl) (by kernel_rfl) (by kernel_rfl) (by kernel_rfl)) ?_
      refine Wp.cond2 (b := !r3) (by kernel_rfl) (fun hc => ?_) (fun hc => ?_)
      · have h := cond_t h hc
        refine Wp.seq ?_
        refine Wp.regionS (pOf []) (rhoOf []) (by kernel_rfl) ?_
        refine Runs.all (by kernel_rfl) ?_
        refine thenN ?_
        refine Wp.le (Le.of (s := ⟨[(2, .obj 2 0), (3, .obj 3 0), (4, .t (.bool false))], [(2, [.t (.int .i64 p0.fC.fSize), .t (.int .i64 p0.fC.fWindow), .t (.int .i64 p0.fC.fSuspect), .t (.int .i64 p0.fC.fForget), .t (.sl 1 (p0.fT.fUp.map (eInt .i64))), .t (.sl 1 (p0.fNew.map (eInt .u8))), .t (.sl 1 (p0.fOld.map Image.enc)), .t (.sl 12 (p0.fN.map Node.enc)), .t (.sl 6 (p0.fD.map Disk.enc)), .t (.sl 3 (p0.fNet.map Packet.enc)), .t (.sl 3 (p0.fLog.map Sent.enc)), .t (.int .i64 p0.fLost)]), (3, [.t (.int .i64 p1.fC.fSize), .t (.int .i64 p1.fC.fWindow), .t (.int .i64 p1.fC.fSuspect), .t (.int .i64 p1.fC.fForget), .t (.sl 1 (p1.fT.fUp.map (eInt .i64))), .t (.sl 1 (p1.fNew.map (eInt .u8))), .t (.sl 1 (p1.fOld.map Image.enc)), .t (.sl 12 (p1.fN.map Node.enc)), .t (.sl 6 (p1.fD.map Disk.enc)), .t (.sl 3 (p1.fNet.map Packet.enc)), .t (.sl 3 (p1.fLog.map Sent.enc)), .t (.int .i64 p1.fLost)])], []⟩) (mo := []) (mr := []) (by kernel_rfl) (by kernel_rfl) (by kernel_rfl) (by kernel_rfl)) ?_
        refine Wp.ret ?_
        refine thenR ?_
        have hr := Option.some.inj h
        subst hr
        exact RetK [.t (.bool false)] (.one (.t (.bool false))) [] (by kernel_rfl) (by kernel_rfl) (.refl _) .nil
      · have h := cond_f h hc
        refine Wp.skip ?_
        refine thenN ?_
        refine Wp.seq ?_
        refine Wp.seq ?_
        refine Wp.regionS (pOf []) (rhoOf []) (by kernel_rfl) ?_
        refine Runs.batch 4 (by kernel_rfl) ?_
        obtain ⟨r4, e_r4, h⟩ := bind_some h
        refine Runs.callK false 27 21 [] [.t (.sl 1 (p0.fOld.map Image.enc)), .t (.sl 1 (p1.fOld.map Image.enc))] [.one (.t (.sl 1 (p0.fOld.map Image.enc))), .one (.t (.sl 1 (p1.fOld.map Image.enc)))] (.one (.t (.bool r4))) [] rfl rfl (by kernel_rfl) (by kernel_rfl) (by kernel_rfl) (by kernel_rfl) (by kernel_rfl) (laws_eqImageS_ok u p0.fOld p1.fOld r4 e_r4) (by kernel_rfl) ?_
        refine Runs.all (by kernel_rfl) ?_
        refine thenN ?_
        refine Wp.le (Le.of (s := ⟨[(2, .obj 2 0), (3, .obj 3 0), (4, .t (.bool false)), (28, .t (.bool (!r4)))], [(2, [.t (.int .i64 p0.fC.fSize), .t (.int .i64 p0.fC.fWindow), .t (.int .i64 p0.fC.fSuspect), .t (.int .i64 p0.fC.fForget), .t (.sl 1 (p0.fT.fUp.map (eInt .i64))), .t (.sl 1 (p0.fNew.map (eInt .u8))), .t (.sl 1 (p0.fOld.map Image.enc)), .t (.sl 12 (p0.fN.map Node.enc)), .t (.sl 6 (p0.fD.map Disk.enc)), .t (.sl 3 (p0.fNet.map Packet.enc)), .t (.sl 3 (p0.fLog.map Sent.enc)), .t (.int .i64 p0.fLost)]), (3, [.t (.int .i64 p1.fC.fSize), .t (.int .i64 p1.fC.fWindow), .t (.int .i64 p1.fC.fSuspect), .t (.int .i64 p1.fC.fForget), .t (.sl 1 (p1.fT.fUp.map (eInt .i64))), .t (.sl 1 (p1.fNew.map (eInt .u8))), .t (.sl 1 (p1.fOld.map Image.enc)), .t (.sl 12 (p1.fN.map Node.enc)), .t (.sl 6 (p1.fD.map Disk.enc)), .t (.sl 3 (p1.fNet.map Packet.enc)), .t (.sl 3 (p1.fLog.map Sent.enc)), .t (.int .i64 p1.fLost)])], []⟩) (mo := []) (mr := []) (by kernel_rfl) (by kernel_rfl) (by kernel_rfl) (by kernel_rfl)) ?_
        refine Wp.cond2 (b := !r4) (by kernel_rfl) (fun hc => ?_) (fun hc => ?_)
        · have h := cond_t h hc
          refine Wp.seq ?_
          refine Wp.regionS (pOf []) (rhoOf []) (by kernel_rfl) ?_
          refine Runs.all (by kernel_rfl) ?_
          refine thenN ?_
          refine Wp.le (Le.of (s := ⟨[(2, .obj 2 0), (3, .obj 3 0), (4, .t (.bool false))], [(2, [.t (.int .i64 p0.fC.fSize), .t (.int .i64 p0.fC.fWindow), .t (.int .i64 p0.fC.fSuspect), .t (.int .i64 p0.fC.fForget), .t (.sl 1 (p0.fT.fUp.map (eInt .i64))), .t (.sl 1 (p0.fNew.map (eInt .u8))), .t (.sl 1 (p0.fOld.map Image.enc)), .t (.sl 12 (p0.fN.map Node.enc)), .t (.sl 6 (p0.fD.map Disk.enc)), .t (.sl 3 (p0.fNet.map Packet.enc)), .t (.sl 3 (p0.fLog.map Sent.enc)), .t (.int .i64 p0.fLost)]), (3, [.t (.int .i64 p1.fC.fSize), .t (.int .i64 p1.fC.fWindow), .t (.int .i64 p1.fC.fSuspect), .t (.int .i64 p1.fC.fForget), .t (.sl 1 (p1.fT.fUp.map (eInt .i64))), .t (.sl 1 (p1.fNew.map (eInt .u8))), .t (.sl 1 (p1.fOld.map Image.enc)), .t (.sl 12 (p1.fN.map Node.enc)), .t (.sl 6 (p1.fD.map Disk.enc)), .t (.sl 3 (p1.fNet.map Packet.enc)), .t (.sl 3 (p1.fLog.map Sent.enc)), .t (.int .i64 p1.fLost)])], []⟩) (mo := []) (mr := []) (by kernel_rfl) (by kernel_rfl) (by kernel_rfl) (by kernel_rfl)) ?_
          refine Wp.ret ?_
          refine thenR ?_
          have hr := Option.some.inj h
          subst hr
          exact RetK [.t (.bool false)] (.one (.t (.bool false))) [] (by kernel_rfl) (by kernel_rfl) (.refl _) .nil
        · have h := cond_f h hc
          refine Wp.skip ?_
          refine thenN ?_
          refine Wp.seq ?_
          refine Wp.seq ?_
          refine Wp.regionS (pOf []) (rhoOf []) (by kernel_rfl) ?_
          refine Runs.batch 4 (by kernel_rfl) ?_
          obtain ⟨r5, e_r5, h⟩ := bind_some h
          refine Runs.callK false 33 67 [] [.t (.sl 12 (p0.fN.map Node.enc)), .t (.sl 12 (p1.fN.map Node.enc))] [.one (.t (.sl 12 (p0.fN.map Node.enc))), .one (.t (.sl 12 (p1.fN.map Node.enc)))] (.one (.t (.bool r5))) [] rfl rfl (by kernel_rfl) (by kernel_rfl) (by kernel_rfl) (by kernel_rfl) (by kernel_rfl) (laws_eqNodeS_ok u p0.fN p1.fN r5 e_r5) (by kernel_rfl) ?_
          refine Runs.all (by kernel_rfl) ?_
          refine thenN ?_
          refine Wp.le (Le.of (s := ⟨[(2, .obj 2 0), (3, .obj 3 0), (4, .t (.bool false)), (34, .t (.bool (!r5)))], [(2, [.t (.int .i64 p0.fC.fSize), .t (.int .i64 p0.fC.fWindow), .t (.int .i64 p0.fC.fSuspect), .t (.int .i64 p0.fC.fForget), .t (.sl 1 (p0.fT.fUp.map (eInt .i64))), .t (.sl 1 (p0.fNew.map (eInt .u8))), .t (.sl 1 (p0.fOld.map Image.enc)), .t (.sl 12 (p0.fN.map Node.enc)), .t (.sl 6 (p0.fD.map Disk.enc)), .t (.sl 3 (p0.fNet.map Packet.enc)), .t (.sl 3 (p0.fLog.map Sent.enc)), .t (.int .i64 p0.fLost)]), (3, [.t (.int .i64 p1.fC.fSize), .t (.int .i64 p1.fC.fWindow), .t (.int .i64 p1.fC.fSuspect), .t (.int .i64 p1.fC.fForget), .t (.sl 1 (p1.fT.fUp.map (eInt .i64))), .t (.sl 1 (p1.fNew.map (eInt .u8))), .t (.sl 1 (p1.fOld.map Image.enc)), .t (.sl 12 (p1.fN.map Node.enc)), .t (.sl 6 (p1.fD.map Disk.enc)), .t (.sl 3 (p1.fNet.map Packet.enc)), .t (.sl 3 (p1.fLog.map Sent.enc)), .t (.int .i64 p1.fLost)])], []⟩) (mo := []) (mr := []) (by kernel_rfl) (by kernel_rfl) (by kernel_rfl) (by kernel_rfl)) ?_
          refine Wp.cond2 (b := !r5) (by kernel_rfl) (fun hc => ?_) (fun hc => ?_)
          · have h := cond_t h hc
            refine Wp.seq ?_
            refine Wp.regionS (pOf []) (rhoOf []) (by kernel_rfl) ?_
            refine Runs.all (by kernel_rfl) ?_
            refine thenN ?_
            refine Wp.le (Le.of (s := ⟨[(2, .obj 2 0), (3, .obj 3 0), (4, .t (.bool false))], [(2, [.t (.int .i64 p0.fC.fSize), .t (.int .i64 p0.fC.fWindow), .t (.int .i64 p0.fC.fSuspect), .t (.int .i64 p0.fC.fForget), .t (.sl 1 (p0.fT.fUp.map (eInt .i64))), .t (.sl 1 (p0.fNew.map (eInt .u8))), .t (.sl 1 (p0.fOld.map Image.enc)), .t (.sl 12 (p0.fN.map Node.enc)), .t (.sl 6 (p0.fD.map Disk.enc)), .t (.sl 3 (p0.fNet.map Packet.enc)), .t (.sl 3 (p0.fLog.map Sent.enc)), .t (.int .i64 p0.fLost)]), (3, [.t (.int .i64 p1.fC.fSize), .t (.int .i64 p1.fC.fWindow), .t (.int .i64 p1.fC.fSuspect), .t (.int .i64 p1.fC.fForget), .t (.sl 1 (p1.fT.fUp.map (eInt .i64))), .t (.sl 1 (p1.fNew.map (eInt .u8))), .t (.sl 1 (p1.fOld.map Image.enc)), .t (.sl 12 (p1.fN.map Node.enc)), .t (.sl 6 (p1.fD.map Disk.enc)), .t (.sl 3 (p1.fNet.map Packet.enc)), .t (.sl 3 (p1.fLog.map Sent.enc)), .t (.int .i64 p1.fLost)])], []⟩) (mo := []) (mr := []) (by kernel_rfl) (by kernel_rfl) (by kernel_rfl) (by kernel_rfl)) ?_
            refine Wp.ret ?_
            refine thenR ?_
            have hr := Option.some.inj h
            subst hr
            exact RetK [.t (.bool false)] (.one (.t (.bool false))) [] (by kernel_rfl) (by kernel_rfl) (.refl _) .nil
          · have h := cond_f h hc
            refine Wp.skip ?_
            refine thenN ?_
            refine Wp.seq ?_
            refine Wp.seq ?_
            refine Wp.regionS (pOf []) (rhoOf []) (by kernel_rfl) ?_
            refine Runs.batch 4 (by kernel_rfl) ?_
            obtain ⟨r6, e_r6, h⟩ := bind_some h
            refine Runs.callK false 39 68 [] [.t (.sl 6 (p0.fD.map Disk.enc)), .t (.sl 6 (p1.fD.map Disk.enc))] [.one (.t (.sl 6 (p0.fD.map Disk.enc))), .one (.t (.sl 6 (p1.fD.map Disk.enc)))] (.one (.t (.bool r6))) [] rfl rfl (by kernel_rfl) (by kernel_rfl) (by kernel_rfl) (by kernel_rfl) (by kernel_rfl) (laws_eqDiskS_ok u p0.fD p1.fD r6 e_r6) (by kernel_rfl) ?_
            refine Runs.all (by kernel_rfl) ?_
            refine thenN ?_
            refine Wp.le (Le.of (s := ⟨[(2, .obj 2 0), (3, .obj 3 0), (4, .t (.bool false)), (40, .t (.bool (!r6)))], [(2, [.t (.int .i64 p0.fC.fSize), .t (.int .i64 p0.fC.fWindow), .t (.int .i64 p0.fC.fSuspect), .t (.int .i64 p0.fC.fForget), .t (.sl 1 (p0.fT.fUp.map (eInt .i64))), .t (.sl 1 (p0.fNew.map (eInt .u8))), .t (.sl 1 (p0.fOld.map Image.enc)), .t (.sl 12 (p0.fN.map Node.enc)), .t (.sl 6 (p0.fD.map Disk.enc)), .t (.sl 3 (p0.fNet.map Packet.enc)), .t (.sl 3 (p0.fLog.map Sent.enc)), .t (.int .i64 p0.fLost)]), (3, [.t (.int .i64 p1.fC.fSize), .t (.int .i64 p1.fC.fWindow), .t (.int .i64 p1.fC.fSuspect), .t (.int .i64 p1.fC.fForget), .t (.sl 1 (p1.fT.fUp.map (eInt .i64))), .t (.sl 1 (p1.fNew.map (eInt .u8))), .t (.sl 1 (p1.fOld.map Image.enc)), .t (.sl 12 (p1.fN.map Node.enc)), .t (.sl 6 (p1.fD.map Disk.enc)), .t (.sl 3 (p1.fNet.map Packet.enc)), .t (.sl 3 (p1.fLog.map Sent.enc)), .t (.int .i64 p1.fLost)])], []⟩) (mo := []) (mr := []) (by kernel_rfl) (by kernel_rfl) (by kernel_rfl) (by kernel_rfl)) ?_
            refine Wp.cond2 (b := !r6) (by kernel_rfl) (fun hc => ?_) (fun hc => ?_)
            · have h := cond_t h hc
              refine Wp.seq ?_
              refine Wp.regionS (pOf []) (rhoOf []) (by kernel_rfl) ?_
              refine Runs.all (by kernel_rfl) ?_
              refine thenN ?_
              refine Wp.le (Le.of (s := ⟨[(2, .obj 2 0), (3, .obj 3 0), (4, .t (.bool false))], [(2, [.t (.int .i64 p0.fC.fSize), .t (.int .i64 p0.fC.fWindow), .t (.int .i64 p0.fC.fSuspect), .t (.int .i64 p0.fC.fForget), .t (.sl 1 (p0.fT.fUp.map (eInt .i64))), .t (.sl 1 (p0.fNew.map (eInt .u8))), .t (.sl 1 (p0.fOld.map Image.enc)), .t (.sl 12 (p0.fN.map Node.enc)), .t (.sl 6 (p0.fD.map Disk.enc)), .t (.sl 3 (p0.fNet.map Packet.enc)), .t (.sl 3 (p0.fLog.map Sent.enc)), .t (.int .i64 p0.fLost)]), (3, [.t (.int .i64 p1.fC.fSize), .t (.int .i64 p1.fC.fWindow), .t (.int .i64 p1.fC.fSuspect), .t (.int .i64 p1.fC.fForget), .t (.sl 1 (p1.fT.fUp.map (eInt .i64))), .t (.sl 1 (p1.fNew.map (eInt .u8))), .t (.sl 1 (p1.fOld.map Image.enc)), .t (.sl 12 (p1.fN.map Node.enc)), .t (.sl 6 (p1.fD.map Disk.enc)), .t (.sl 3 (p1.fNet.map Packet.enc)), .t (.sl 3 (p1.fLog.map Sent.enc)), .t (.int .i64 p1.fLost)])], []⟩) (mo := []) (mr := []) (by kernel_rfl) (by kernel_rfl) (by kernel_rfl) (by kernel_rfl)) ?_
              refine Wp.ret ?_
              refine thenR ?_
              have hr := Option.some.inj h
              subst hr
              exact RetK [.t (.bool false)] (.one (.t (.bool false))) [] (by kernel_rfl) (by kernel_rfl) (.refl _) .nil
            · have h := cond_f h hc
              refine Wp.skip ?_
              refine thenN ?_
              refine Wp.seq ?_
              refine Wp.seq ?_
              refine Wp.regionS (pOf []) (rhoOf []) (by kernel_rfl) ?_
              refine Runs.batch 4 (by kernel_rfl) ?_
              obtain ⟨r7, e_r7, h⟩ := bind_some h
              refine Runs.callK false 45 69 [] [.t (.sl 3 (p0.fNet.map Packet.enc)), .t (.sl 3 (p1.fNet.map Packet.enc))] [.one (.t (.sl 3 (p0.fNet.map Packet.enc))), .one (.t (.sl 3 (p1.fNet.map Packet.enc)))] (.one (.t (.bool r7))) [] rfl rfl (by kernel_rfl) (by kernel_rfl) (by kernel_rfl) (by kernel_rfl) (by kernel_rfl) (laws_eqPacketS_ok u p0.fNet p1.fNet r7 e_r7) (by kernel_rfl) ?_
              refine Runs.all (by kernel_rfl) ?_
              refine thenN ?_
              refine Wp.le (Le.of (s := ⟨[(2, .obj 2 0), (3, .obj 3 0), (4, .t (.bool false)), (46, .t (.bool (!r7)))], [(2, [.t (.int .i64 p0.fC.fSize), .t (.int .i64 p0.fC.fWindow), .t (.int .i64 p0.fC.fSuspect), .t (.int .i64 p0.fC.fForget), .t (.sl 1 (p0.fT.fUp.map (eInt .i64))), .t (.sl 1 (p0.fNew.map (eInt .u8))), .t (.sl 1 (p0.fOld.map Image.enc)), .t (.sl 12 (p0.fN.map Node.enc)), .t (.sl 6 (p0.fD.map Disk.enc)), .t (.sl 3 (p0.fNet.map Packet.enc)), .t (.sl 3 (p0.fLog.map Sent.enc)), .t (.int .i64 p0.fLost)]), (3, [.t (.int .i64 p1.fC.fSize), .t (.int .i64 p1.fC.fWindow), .t (.int .i64 p1.fC.fSuspect), .t (.int .i64 p1.fC.fForget), .t (.sl 1 (p1.fT.fUp.map (eInt .i64))), .t (.sl 1 (p1.fNew.map (eInt .u8))), .t (.sl 1 (p1.fOld.map Image.enc)), .t (.sl 12 (p1.fN.map Node.enc)), .t (.sl 6 (p1.fD.map Disk.enc)), .t (.sl 3 (p1.fNet.map Packet.enc)), .t (.sl 3 (p1.fLog.map Sent.enc)), .t (.int .i64 p1.fLost)])], []⟩) (mo := []) (mr := []) (by kernel_rfl) (by kernel_rfl) (by kernel_rfl) (by kernel_rfl)) ?_
              refine Wp.cond2 (b := !r7) (by kernel_rfl) (fun hc => ?_) (fun hc => ?_)
              · have h := cond_t h hc
                refine Wp.seq ?_
                refine Wp.regionS (pOf []) (rhoOf []) (by kernel_rfl) ?_
                refine Runs.all (by kernel_rfl) ?_
                refine thenN ?_
                refine Wp.le (Le.of (s := ⟨[(2, .obj 2 0), (3, .obj 3 0), (4, .t (.bool false))], [(2, [.t (.int .i64 p0.fC.fSize), .t (.int .i64 p0.fC.fWindow), .t (.int .i64 p0.fC.fSuspect), .t (.int .i64 p0.fC.fForget), .t (.sl 1 (p0.fT.fUp.map (eInt .i64))), .t (.sl 1 (p0.fNew.map (eInt .u8))), .t (.sl 1 (p0.fOld.map Image.enc)), .t (.sl 12 (p0.fN.map Node.enc)), .t (.sl 6 (p0.fD.map Disk.enc)), .t (.sl 3 (p0.fNet.map Packet.enc)), .t (.sl 3 (p0.fLog.map Sent.enc)), .t (.int .i64 p0.fLost)]), (3, [.t (.int .i64 p1.fC.fSize), .t (.int .i64 p1.fC.fWindow), .t (.int .i64 p1.fC.fSuspect), .t (.int .i64 p1.fC.fForget), .t (.sl 1 (p1.fT.fUp.map (eInt .i64))), .t (.sl 1 (p1.fNew.map (eInt .u8))), .t (.sl 1 (p1.fOld.map Image.enc)), .t (.sl 12 (p1.fN.map Node.enc)), .t (.sl 6 (p1.fD.map Disk.enc)), .t (.sl 3 (p1.fNet.map Packet.enc)), .t (.sl 3 (p1.fLog.map Sent.enc)), .t (.int .i64 p1.fLost)])], []⟩) (mo := []) (mr := []) (by kernel_rfl) (by kernel_rfl) (by kernel_rfl) (by kernel_rfl)) ?_
                refine Wp.ret ?_
                refine thenR ?_
                have hr := Option.some.inj h
                subst hr
                exact RetK [.t (.bool false)] (.one (.t (.bool false))) [] (by kernel_rfl) (by kernel_rfl) (.refl _) .nil
              · have h := cond_f h hc
                refine Wp.skip ?_
                refine thenN ?_
                refine Wp.seq ?_
                refine Wp.seq ?_
                refine Wp.regionS (pOf []) (rhoOf []) (by kernel_rfl) ?_
                refine Runs.batch 4 (by kernel_rfl) ?_
                obtain ⟨r8, e_r8, h⟩ := bind_some h
                refine Runs.callK false 51 70 [] [.t (.sl 3 (p0.fLog.map Sent.enc)), .t (.sl 3 (p1.fLog.map Sent.enc))] [.one (.t (.sl 3 (p0.fLog.map Sent.enc))), .one (.t (.sl 3 (p1.fLog.map Sent.enc)))] (.one (.t (.bool r8))) [] rfl rfl (by kernel_rfl) (by kernel_rfl) (by kernel_rfl) (by kernel_rfl) (by kernel_rfl) (laws_eqSentS_ok u p0.fLog p1.fLog r8 e_r8) (by kernel_rfl) ?_
                refine Runs.all (by kernel_rfl) ?_
                refine thenN ?_
                refine Wp.le (Le.of (s := ⟨[(2, .obj 2 0), (3, .obj 3 0), (4, .t (.bool false)), (52, .t (.bool (!r8)))], [(2, [.t (.int .i64 p0.fC.fSize), .t (.int .i64 p0.fC.fWindow), .t (.int .i64 p0.fC.fSuspect), .t (.int .i64 p0.fC.fForget), .t (.sl 1 (p0.fT.fUp.map (eInt .i64))), .t (.sl 1 (p0.fNew.map (eInt .u8))), .t (.sl 1 (p0.fOld.map Image.enc)), .t (.sl 12 (p0.fN.map Node.enc)), .t (.sl 6 (p0.fD.map Disk.enc)), .t (.sl 3 (p0.fNet.map Packet.enc)), .t (.sl 3 (p0.fLog.map Sent.enc)), .t (.int .i64 p0.fLost)]), (3, [.t (.int .i64 p1.fC.fSize), .t (.int .i64 p1.fC.fWindow), .t (.int .i64 p1.fC.fSuspect), .t (.int .i64 p1.fC.fForget), .t (.sl 1 (p1.fT.fUp.map (eInt .i64))), .t (.sl 1 (p1.fNew.map (eInt .u8))), .t (.sl 1 (p1.fOld.map Image.enc)), .t (.sl 12 (p1.fN.map Node.enc)), .t (.sl 6 (p1.fD.map Disk.enc)), .t (.sl 3 (p1.fNet.map Packet.enc)), .t (.sl 3 (p1.fLog.map Sent.enc)), .t (.int .i64 p1.fLost)])], []⟩) (mo := []) (mr := []) (by kernel_rfl) (by kernel_rfl) (by kernel_rfl) (by kernel_rfl)) ?_
                refine Wp.cond2 (b := !r8) (by kernel_rfl) (fun hc => ?_) (fun hc => ?_)
                · have h := cond_t h hc
                  refine Wp.seq ?_
                  refine Wp.regionS (pOf []) (rhoOf []) (by kernel_rfl) ?_
                  refine Runs.all (by kernel_rfl) ?_
                  refine thenN ?_
                  refine Wp.le (Le.of (s := ⟨[(2, .obj 2 0), (3, .obj 3 0), (4, .t (.bool false))], [(2, [.t (.int .i64 p0.fC.fSize), .t (.int .i64 p0.fC.fWindow), .t (.int .i64 p0.fC.fSuspect), .t (.int .i64 p0.fC.fForget), .t (.sl 1 (p0.fT.fUp.map (eInt .i64))), .t (.sl 1 (p0.fNew.map (eInt .u8))), .t (.sl 1 (p0.fOld.map Image.enc)), .t (.sl 12 (p0.fN.map Node.enc)), .t (.sl 6 (p0.fD.map Disk.enc)), .t (.sl 3 (p0.fNet.map Packet.enc)), .t (.sl 3 (p0.fLog.map Sent.enc)), .t (.int .i64 p0.fLost)]), (3, [.t (.int .i64 p1.fC.fSize), .t (.int .i64 p1.fC.fWindow), .t (.int .i64 p1.fC.fSuspect), .t (.int .i64 p1.fC.fForget), .t (.sl 1 (p1.fT.fUp.map (eInt .i64))), .t (.sl 1 (p1.fNew.map (eInt .u8))), .t (.sl 1 (p1.fOld.map Image.enc)), .t (.sl 12 (p1.fN.map Node.enc)), .t (.sl 6 (p1.fD.map Disk.enc)), .t (.sl 3 (p1.fNet.map Packet.enc)), .t (.sl 3 (p1.fLog.map Sent.enc)), .t (.int .i64 p1.fLost)])], []⟩) (mo := []) (mr := []) (by kernel_rfl) (by kernel_rfl) (by kernel_rfl) (by kernel_rfl)) ?_
                  refine Wp.ret ?_
                  refine thenR ?_
                  have hr := Option.some.inj h
                  subst hr
                  exact RetK [.t (.bool false)] (.one (.t (.bool false))) [] (by kernel_rfl) (by kernel_rfl) (.refl _) .nil
                · have h := cond_f h hc
                  refine Wp.skip ?_
                  refine thenN ?_
                  refine Wp.seq ?_
                  refine Wp.seq ?_
                  refine Wp.regionS (pOf []) (rhoOf []) (by kernel_rfl) ?_
                  refine Runs.all (by kernel_rfl) ?_
                  refine thenN ?_
                  refine Wp.le (Le.of (s := ⟨[(4, .t (.bool false)), (57, .t (.bool (p0.fLost != p1.fLost)))], [], []⟩) (mo := []) (mr := []) (by kernel_rfl) (by kernel_rfl) (by kernel_rfl) (by kernel_rfl)) ?_
                  refine Wp.cond2 (b := p0.fLost != p1.fLost) (by kernel_rfl) (fun hc => ?_) (fun hc => ?_)
                  · have h := cond_t h hc
                    refine Wp.seq ?_
                    refine Wp.regionS (pOf []) (rhoOf []) (by kernel_rfl) ?_
                    refine Runs.all (by kernel_rfl) ?_
                    refine thenN ?_
                    refine Wp.le (Le.of (s := ⟨[(4, .t (.bool false))], [], []⟩) (mo := []) (mr := []) (by kernel_rfl) (by kernel_rfl) (by kernel_rfl) (by kernel_rfl)) ?_
                    refine Wp.ret ?_
                    refine thenR ?_
                    have hr := Option.some.inj h
                    subst hr
                    exact RetK [.t (.bool false)] (.one (.t (.bool false))) [] (by kernel_rfl) (by kernel_rfl) (.refl _) .nil
                  · have h := cond_f h hc
                    refine Wp.skip ?_
                    refine thenN ?_
                    refine Wp.seq ?_
                    refine Wp.regionS (pOf []) (rhoOf []) (by kernel_rfl) ?_
                    refine Runs.all (by kernel_rfl) ?_
                    refine thenN ?_
                    refine Wp.le (Le.of (s := ⟨[(4, .t (.bool true))], [], []⟩) (mo := []) (mr := []) (by kernel_rfl) (by kernel_rfl) (by kernel_rfl) (by kernel_rfl)) ?_
                    refine Wp.ret ?_
                    have hr := Option.some.inj h
                    subst hr
                    exact RetK [.t (.bool true)] (.one (.t (.bool true))) [] (by kernel_rfl) (by kernel_rfl) (.refl _) .nil
theorem laws_FnExactStateOf_ok (u : Nat) (p0 : World) (p1 : Int) (r : Bool) (h : laws_FnExactStateOf u p0 p1 = some r) : CallOK Try.prog 11 [.agg [.t (.int .i64 p0.fC.fSize), .t (.int .i64 p0.fC.fWindow), .t (.int .i64 p0.fC.fSuspect), .t (.int .i64 p0.fC.fForget), .t (.sl 1 (p0.fT.fUp.map (eInt .i64))), .t (.sl 1 (p0.fNew.map (eInt .u8))), .t (.sl 1 (p0.fOld.map Image.enc)), .t (.sl 12 (p0.fN.map Node.enc)), .t (.sl 6 (p0.fD.map Disk.enc)), .t (.sl 3 (p0.fNet.map Packet.enc)), .t (.sl 3 (p0.fLog.map Sent.enc)), .t (.int .i64 p0.fLost)], .one (.t (.int .i64 p1))] (.one (.t (.bool r))) [] := by
  unfold laws_FnExactStateOf at h
  refine CallOK.of_bodyK (fn := Try.f11) (m := false) [.agg [.t (.int .i64 p0.fC.fSize), .t (.int .i64 p0.fC.fWindow), .t (.int .i64 p0.fC.fSuspect), .t (.int .i64 p0.fC.fForget), .t (.sl 1 (p0.fT.fUp.map (eInt .i64))), .t (.sl 1 (p0.fNew.map (eInt .u8))), .t (.sl 1 (p0.fOld.map Image.enc)), .t (.sl 12 (p0.fN.map Node.enc)), .t (.sl 6 (p0.fD.map Disk.enc)), .t (.sl 3 (p0.fNet.map Packet.enc)), .t (.sl 3 (p0.fLog.map Sent.enc)), .t (.int .i64 p0.fLost)], .t (.int .i64 p1)] (by kernel_rfl) rfl (by kernel_rfl) (by kernel_rfl) (by kernel_rfl) (by kernel_rfl) (by kernel_rfl) ?_
  refine Wp.seq ?_
  refine Wp.regionS (pOf []) (rhoOf []) (by kernel_rfl) ?_
  refine Runs.all (by kernel_rfl) ?_
  refine thenN ?_
  refine Wp.le (Le.of (s := ⟨[(1, .t (.int .i64 p1)), (2, .obj 2 0), (4, .t (.bool false))], [(2, [.t (.int .i64 p0.fC.fSize), .t (.int .i64 p0.fC.fWindow), .t (.int .i64 p0.fC.fSuspect), .t (.int .i64 p0.fC.fForget), .t (.sl 1 (p0.fT.fUp.map (eInt .i64))), .t (.sl 1 (p0.fNew.map (eInt .u8))), .t (.sl 1 (p0.fOld.map Image.enc)), .t (.sl 12 (p0.fN.map Node.enc)), .t (.sl 6 (p0.fD.map Disk.enc)), .t (.sl 3 (p0.fNet.map Packet.enc)), .t (.sl 3 (p0.fLog.map Sent.enc)), .t (.int .i64 p0.fLost)])], []⟩) (mo := []) (mr := []) (by kernel_rfl) (by kernel_rfl) (by kernel_rfl) (by kernel_rfl)) ?_
  refine Wp.seq ?_
  refine Wp.regionS (pOf []) (rhoOf []) (by kernel_rfl) ?_
  refine Runs.all (by kernel_rfl) ?_
  refine thenN ?_
  refine Wp.le (Le.of (s := ⟨[(1, .t (.int .i64 p1)), (2, .obj 2 0), (4, .t (.bool false)), (5, .t (.int .i64 1048576))], [(2, [.t (.int .i64 p0.fC.fSize), .t (.int .i64 p0.fC.fWindow), .t (.int .i64 p0.fC.fSuspect), .t (.int .i64 p0.fC.fForget), .t (.sl 1 (p0.fT.fUp.map (eInt .i64))), .t (.sl 1 (p0.fNew.map (eInt .u8))), .t (.sl 1 (p0.fOld.map Image.enc)), .t (.sl 12 (p0.fN.map Node.enc)), .t (.sl 6 (p0.fD.map Disk.enc)), .t (.sl 3 (p0.fNet.map Packet.enc)), .t (.sl 3 (p0.fLog.map Sent.enc)), .t (.int .i64 p0.fLost)])], []⟩) (mo := []) (mr := []) (by kernel_rfl) (by kernel_rfl) (by kernel_rfl) (by kernel_rfl)) ?_
  refine Wp.seq ?_
  refine Wp.regionS (pOf []) (rhoOf []) (by kernel_rfl) ?_
  refine Runs.batch 2 (by kernel_rfl) ?_
  obtain ⟨r1, e_r1, h⟩ := bind_some h
  refine Runs.callK false 11 24 [] [.agg [.t (.int .i64 p0.fC.fSize), .t (.int .i64 p0.fC.fWindow), .t (.int .i64 p0.fC.fSuspect), .t (.int .i64 p0.fC.fForget), .t (.sl 1 (p0.fT.fUp.map (eInt .i64))), .t (.sl 1 (p0.fNew.map (eInt .u8))), .t (.sl 1 (p0.fOld.map Image.enc)), .t (.sl 12 (p0.fN.map Node.enc)), .t (.sl 6 (p0.fD.map Disk.enc)), .t (.sl 3 (p0.fNet.map Packet.enc)), .t (.sl 3 (p0.fLog.map Sent.enc)), .t (.int .i64 p0.fLost)], .t (.int .i64 1048576)] [.agg [.t (.int .i64 p0.fC.fSize), .t (.int .i64 p0.fC.fWindow), .t (.int .i64 p0.fC.fSuspect), .t (.int .i64 p0.fC.fForget), .t (.sl 1 (p0.fT.fUp.map (eInt .i64))), .t (.sl 1 (p0.fNew.map (eInt .u8))), .t (.sl 1 (p0.fOld.map Image.enc)), .t (.sl 12 (p0.fN.map Node.enc)), .t (.sl 6 (p0.fD.map Disk.enc)), .t (.sl 3 (p0.fNet.map Packet.enc)), .t (.sl 3 (p0.fLog.map Sent.enc)), .t (.int .i64 p0.fLost)], .one (.t (.int .i64 1048576))] (.one (.t (.int .i64 r1))) [] rfl rfl (by kernel_rfl) (by kernel_rfl) (by kernel_rfl) (by kernel_rfl) (by kernel_rfl) (laws_szWorld_ok u p0 1048576 r1 e_r1) (by kernel_rfl) ?_
  refine Runs.all (by kernel_rfl) ?_
  refine thenN ?_
  refine Wp.le (Le.of (s := ⟨[(1, .t (.int .i64 p1)), (2, .obj 2 0), (4, .t (.bool false)), (5, .t (.int .i64 r1))], [(2, [.t (.int .i64 p0.fC.fSize), .t (.int .i64 p0.fC.fWindow), .t (.int .i64 p0.fC.fSuspect), .t (.int .i64 p0.fC.fForget), .t (.sl 1 (p0.fT.fUp.map (eInt .i64))), .t (.sl 1 (p0.fNew.map (eInt .u8))), .t (.sl 1 (p0.fOld.map Image.enc)), .t (.sl 12 (p0.fN.map Node.enc)), .t (.sl 6 (p0.fD.map Disk.enc)), .t (.sl 3 (p0.fNet.map Packet.enc)), .t (.sl 3 (p0.fLog.map Sent.enc)), .t (.int .i64 p0.fLost)])], []⟩) (mo := []) (mr := []) (by kernel_rfl) (by kernel_rfl) (by kernel_rfl) (by kernel_rfl)) ?_
  refine Wp.seq ?_
  refine Wp.seq ?_
  refine Wp.regionS (pOf []) (rhoOf []) (by kernel_rfl) ?_
  refine Runs.all (by kernel_rfl) ?_
  refine thenN ?_
  refine Wp.le (Le.of (s := ⟨[(1, .t (.int .i64 p1)), (2, .obj 2 0), (4, .t (.bool false)), (13, .t (.bool (decide (r1 < 0))))], [(2, [.t (.int .i64 p0.fC.fSize), .t (.int .i64 p0.fC.fWindow), .t (.int .i64 p0.fC.fSuspect), .t (.int .i64 p0.fC.fForget), .t (.sl 1 (p0.fT.fUp.map (eInt .i64))), .t (.sl 1 (p0.fNew.map (eInt .u8))), .t (.sl 1 (p0.fOld.map Image.enc)), .t (.sl 12 (p0.fN.map Node.enc)), .t (.sl 6 (p0.fD.map Disk.enc)), .t (.sl 3 (p0.fNet.map Packet.enc)), .t (.sl 3 (p0.fLog.map Sent.enc)), .t (.int .i64 p0.fLost)])], []⟩) (mo := []) (mr := []) (by kernel_rfl) (by kernel_rfl) (by kernel_rfl) (by kernel_rfl)) ?_
  refine Wp.cond2 (b := decide (r1 < 0)) (by kernel_rfl) (fun hc => ?_) (fun hc => ?_)
  · have h := cond_t h hc
    refine Wp.seq ?_
    refine Wp.regionS (pOf []) (rhoOf []) (by kernel_rfl) ?_
    refine Runs.all (by kernel_rfl) ?_
    refine thenN ?_
    refine Wp.le (Le.of (s := ⟨[(1, .t (.int .i64 p1)), (2, .obj 2 0), (4, .t (.bool true))], [(2, [.t (.int .i64 p0.fC.fSize), .t (.int .i64 p0.fC.fWindow), .t (.int .i64 p0.fC.fSuspect), .t (.int .i64 p0.fC.fForget), .t (.sl 1 (p0.fT.fUp.map (eInt .i64))), .t (.sl 1 (p0.fNew.map (eInt .u8))), .t (.sl 1 (p0.fOld.map Image.enc)), .t (.sl 12 (p0.fN.map Node.enc)), .t (.sl 6 (p0.fD.map Disk.enc)), .t (.sl 3 (p0.fNet.map Packet.enc)), .t (.sl 3 (p0.fLog.map Sent.enc)), .t (.int .i64 p0.fLost)])], []⟩) (mo := []) (mr := []) (by kernel_rfl) (by kernel_rfl) (by kernel_rfl) (by kernel_rfl)) ?_
    refine Wp.ret ?_
    refine thenR ?_
    have hr := Option.some.inj h
    subst hr
    exact RetK [.t (.bool true)] (.one (.t (.bool true))) [] (by kernel_rfl) (by kernel_rfl) (.refl _) .nil
  · have h := cond_f h hc
    refine Wp.skip ?_
    refine thenN ?_
    refine Wp.seq ?_
    refine Wp.regionS (pOf []) (rhoOf []) (by kernel_rfl) ?_
    refine Runs.batch 1 (by kernel_rfl) ?_
    obtain ⟨r2, e_r2, h⟩ := bind_some h
    refine Runs.callK false 15 26 [] [.agg [.t (.int .i64 p0.fC.fSize), .t (.int .i64 p0.fC.fWindow), .t (.int .i64 p0.fC.fSuspect), .t (.int .i64 p0.fC.fForget), .t (.sl 1 (p0.fT.fUp.map (eInt .i64))), .t (.sl 1 (p0.fNew.map (eInt .u8))), .t (.sl 1 (p0.fOld.map Image.enc)), .t (.sl 12 (p0.fN.map Node.enc)), .t (.sl 6 (p0.fD.map Disk.enc)), .t (.sl 3 (p0.fNet.map Packet.enc)), .t (.sl 3 (p0.fLog.map Sent.enc)), .t (.int .i64 p0.fLost)]] [.agg [.t (.int .i64 p0.fC.fSize), .t (.int .i64 p0.fC.fWindow), .t (.int .i64 p0.fC.fSuspect), .t (.int .i64 p0.fC.fForget), .t (.sl 1 (p0.fT.fUp.map (eInt .i64))), .t (.sl 1 (p0.fNew.map (eInt .u8))), .t (.sl 1 (p0.fOld.map Image.enc)), .t (.sl 12 (p0.fN.map Node.enc)), .t (.sl 6 (p0.fD.map Disk.enc)), .t (.sl 3 (p0.fNet.map Packet.enc)), .t (.sl 3 (p0.fLog.map Sent.enc)), .t (.int .i64 p0.fLost)]] (.agg [.t (.int .i64 r2.fC.fSize), .t (.int .i64 r2.fC.fWindow), .t (.int .i64 r2.fC.fSuspect), .t (.int .i64 r2.fC.fForget), .ow 3 1 (r2.fT.fUp.map (eInt .i64)), .ow 5 1 (r2.fNew.map (eInt .u8)), .ow 67 1 (r2.fOld.map Image.enc), .ow 114 12 (r2.fN.map Node.enc), .ow 109 6 (r2.fD.map Disk.enc), .ow 146 3 (r2.fNet.map Packet.enc), .ow 99 3 (r2.fLog.map Sent.enc), .t (.int .i64 r2.fLost)]) [] rfl rfl (by kernel_rfl) (by kernel_rfl) (by kernel_rfl) (by kernel_rfl) (by kernel_rfl) (laws_toWorld_ok u p0 r2 e_r2) (by kernel_rfl) ?_
    refine Runs.batch 1 (by kernel_rfl) ?_
    obtain ⟨r3, e_r3, h⟩ := bind_some h
    refine Runs.callBK 17 37 [] [.agg [.t (.int .i64 r2.fC.fSize), .t (.int .i64 r2.fC.fWindow), .t (.int .i64 r2.fC.fSuspect), .t (.int .i64 r2.fC.fForget), .own 983044, .own 983045, .own 983046, .own 983047, .own 983048, .own 983049, .own 983050, .t (.int .i64 r2.fLost)], .t (.int .i64 p1)] [.agg [.t (.int .i64 r2.fC.fSize), .t (.int .i64 r2.fC.fWindow), .t (.int .i64 r2.fC.fSuspect), .t (.int .i64 r2.fC.fForget), .t (.sl 1 (r2.fT.fUp.map (eInt .i64))), .t (.sl 1 (r2.fNew.map (eInt .u8))), .t (.sl 1 (r2.fOld.map Image.enc)), .t (.sl 12 (r2.fN.map Node.enc)), .t (.sl 6 (r2.fD.map Disk.enc)), .t (.sl 3 (r2.fNet.map Packet.enc)), .t (.sl 3 (r2.fLog.map Sent.enc)), .t (.int .i64 r2.fLost)], .one (.t (.int .i64 p1))] (.one (.t (.int .i64 r3))) rfl rfl (by kernel_rfl) (by kernel_rfl) (by kernel_rfl) (by kernel_rfl) (by kernel_rfl) (spec_StateOf_ok u r2 p1 r3 e_r3) (by simp [V.plain, V.plains, C.plain, T.sc]) (by kernel_rfl) ?_
    refine Runs.all (by kernel_rfl) ?_
    refine thenN ?_
    refine Wp.le (Le.of (s := ⟨[(1, .t (.int .i64 p1)), (2, .obj 2 0), (4, .t (.bool false)), (6, .t (.int .i64 r3))], [(2, [.t (.int .i64 p0.fC.fSize), .t (.int .i64 p0.fC.fWindow), .t (.int .i64 p0.fC.fSuspect), .t (.int .i64 p0.fC.fForget), .t (.sl 1 (p0.fT.fUp.map (eInt .i64))), .t (.sl 1 (p0.fNew.map (eInt .u8))), .t (.sl 1 (p0.fOld.map Image.enc)), .t (.sl 12 (p0.fN.map Node.enc)), .t (.sl 6 (p0.fD.map Disk.enc)), .t (.sl 3 (p0.fNet.map Packet.enc)), .t (.sl 3 (p0.fLog.map Sent.enc)), .t (.int .i64 p0.fLost)])], []⟩) (mo := []) (mr := []) (by kernel_rfl) (by kernel_rfl) (by kernel_rfl) (by kernel_rfl)) ?_
    refine Wp.seq ?_
    refine Wp.regionS (pOf []) (rhoOf []) (by kernel_rfl) ?_
    refine Runs.batch 1 (by kernel_rfl) ?_
    obtain ⟨r4, e_r4, h⟩ := bind_some h
    refine Runs.callK false 19 26 [] [.agg [.t (.int .i64 p0.fC.fSize), .t (.int .i64 p0.fC.fWindow), .t (.int .i64 p0.fC.fSuspect), .t (.int .i64 p0.fC.fForget), .t (.sl 1 (p0.fT.fUp.map (eInt .i64))), .t (.sl 1 (p0.fNew.map (eInt .u8))), .t (.sl 1 (p0.fOld.map Image.enc)), .t (.sl 12 (p0.fN.map Node.enc)), .t (.sl 6 (p0.fD.map Disk.enc)), .t (.sl 3 (p0.fNet.map Packet.enc)), .t (.sl 3 (p0.fLog.map Sent.enc)), .t (.int .i64 p0.fLost)]] [.agg [.t (.int .i64 p0.fC.fSize), .t (.int .i64 p0.fC.fWindow), .t (.int .i64 p0.fC.fSuspect), .t (.int .i64 p0.fC.fForget), .t (.sl 1 (p0.fT.fUp.map (eInt .i64))), .t (.sl 1 (p0.fNew.map (eInt .u8))), .t (.sl 1 (p0.fOld.map Image.enc)), .t (.sl 12 (p0.fN.map Node.enc)), .t (.sl 6 (p0.fD.map Disk.enc)), .t (.sl 3 (p0.fNet.map Packet.enc)), .t (.sl 3 (p0.fLog.map Sent.enc)), .t (.int .i64 p0.fLost)]] (.agg [.t (.int .i64 r4.fC.fSize), .t (.int .i64 r4.fC.fWindow), .t (.int .i64 r4.fC.fSuspect), .t (.int .i64 r4.fC.fForget), .ow 3 1 (r4.fT.fUp.map (eInt .i64)), .ow 5 1 (r4.fNew.map (eInt .u8)), .ow 67 1 (r4.fOld.map Image.enc), .ow 114 12 (r4.fN.map Node.enc), .ow 109 6 (r4.fD.map Disk.enc), .ow 146 3 (r4.fNet.map Packet.enc), .ow 99 3 (r4.fLog.map Sent.enc), .t (.int .i64 r4.fLost)]) [] rfl rfl (by kernel_rfl) (by kernel_rfl) (by kernel_rfl) (by kernel_rfl) (by kernel_rfl) (laws_toWorld_ok u p0 r4 e_r4) (by kernel_rfl) ?_
    refine Runs.all (by kernel_rfl) ?_
    refine thenN ?_
    refine Wp.le (Le.of (s := ⟨[(1, .t (.int .i64 p1)), (2, .obj 2 0), (4, .t (.bool false)), (6, .t (.int .i64 r3)), (7, .obj 7 0)], [(2, [.t (.int .i64 p0.fC.fSize), .t (.int .i64 p0.fC.fWindow), .t (.int .i64 p0.fC.fSuspect), .t (.int .i64 p0.fC.fForget), .t (.sl 1 (p0.fT.fUp.map (eInt .i64))), .t (.sl 1 (p0.fNew.map (eInt .u8))), .t (.sl 1 (p0.fOld.map Image.enc)), .t (.sl 12 (p0.fN.map Node.enc)), .t (.sl 6 (p0.fD.map Disk.enc)), .t (.sl 3 (p0.fNet.map Packet.enc)), .t (.sl 3 (p0.fLog.map Sent.enc)), .t (.int .i64 p0.fLost)]), (7, [.t (.int .i64 r4.fC.fSize), .t (.int .i64 r4.fC.fWindow), .t (.int .i64 r4.fC.fSuspect), .t (.int .i64 r4.fC.fForget), .own 1245188, .own 1245189, .own 1245190, .own 1245191, .own 1245192, .own 1245193, .own 1245194, .t (.int .i64 r4.fLost)])], [(1245188, .live 3 1 (r4.fT.fUp.map (eInt .i64))), (1245189, .live 5 1 (r4.fNew.map (eInt .u8))), (1245190, .live 67 1 (r4.fOld.map Image.enc)), (1245191, .live 114 12 (r4.fN.map Node.enc)), (1245192, .live 109 6 (r4.fD.map Disk.enc)), (1245193, .live 146 3 (r4.fNet.map Packet.enc)), (1245194, .live 99 3 (r4.fLog.map Sent.enc))]⟩) (mo := []) (mr := []) (by kernel_rfl) (by kernel_rfl) (by kernel_rfl) (by kernel_rfl)) ?_
    refine Wp.seq ?_
    refine Wp.regionS (pOf []) (rhoOf []) (by kernel_rfl) ?_
    refine Runs.batch 2 (by kernel_rfl) ?_
    obtain ⟨r5, e_r5, h⟩ := bind_some h
    refine Runs.callBK 22 38 [] [.agg [.t (.int .i64 r4.fC.fSize), .t (.int .i64 r4.fC.fWindow), .t (.int .i64 r4.fC.fSuspect), .t (.int .i64 r4.fC.fForget), .own 1245188, .own 1245189, .own 1245190, .own 1245191, .own 1245192, .own 1245193, .own 1245194, .t (.int .i64 r4.fLost)], .t (.int .i64 p1)] [.agg [.t (.int .i64 r4.fC.fSize), .t (.int .i64 r4.fC.fWindow), .t (.int .i64 r4.fC.fSuspect), .t (.int .i64 r4.fC.fForget), .t (.sl 1 (r4.fT.fUp.map (eInt .i64))), .t (.sl 1 (r4.fNew.map (eInt .u8))), .t (.sl 1 (r4.fOld.map Image.enc)), .t (.sl 12 (r4.fN.map Node.enc)), .t (.sl 6 (r4.fD.map Disk.enc)), .t (.sl 3 (r4.fNet.map Packet.enc)), .t (.sl 3 (r4.fLog.map Sent.enc)), .t (.int .i64 r4.fLost)], .one (.t (.int .i64 p1))] (.one (.t (.int .i64 r5))) rfl rfl (by kernel_rfl) (by kernel_rfl) (by kernel_rfl) (by kernel_rfl) (by kernel_rfl) (impl_StateOf_ok u r4 p1 r5 e_r5) (by simp [V.plain, V.plains, C.plain, T.sc]) (by kernel_rfl) ?_
    refine Runs.all (by kernel_rfl) ?_
    refine thenN ?_
    refine Wp.le (Le.of (s := ⟨[(2, .obj 2 0), (4, .t (.bool false)), (6, .t (.int .i64 r3)), (7, .obj 7 0), (8, .t (.int .i64 r5))], [(2, [.t (.int .i64 p0.fC.fSize), .t (.int .i64 p0.fC.fWindow), .t (.int .i64 p0.fC.fSuspect), .t (.int .i64 p0.fC.fForget), .t (.sl 1 (p0.fT.fUp.map (eInt .i64))), .t (.sl 1 (p0.fNew.map (eInt .u8))), .t (.sl 1 (p0.fOld.map Image.enc)), .t (.sl 12 (p0.fN.map Node.enc)), .t (.sl 6 (p0.fD.map Disk.enc)), .t (.sl 3 (p0.fNet.map Packet.enc)), .t (.sl 3 (p0.fLog.map Sent.enc)), .t (.int .i64 p0.fLost)]), (7, [.t (.int .i64 r4.fC.fSize), .t (.int .i64 r4.fC.fWindow), .t (.int .i64 r4.fC.fSuspect), .t (.int .i64 r4.fC.fForget), .own 1245188, .own 1245189, .own 1245190, .own 1245191, .own 1245192, .own 1245193, .own 1245194, .t (.int .i64 r4.fLost)])], [(1245188, .live 3 1 (r4.fT.fUp.map (eInt .i64))), (1245189, .live 5 1 (r4.fNew.map (eInt .u8))), (1245190, .live 67 1 (r4.fOld.map Image.enc)), (1245191, .live 114 12 (r4.fN.map Node.enc)), (1245192, .live 109 6 (r4.fD.map Disk.enc)), (1245193, .live 146 3 (r4.fNet.map Packet.enc)), (1245194, .live 99 3 (r4.fLog.map Sent.enc))]⟩) (mo := []) (mr := []) (by kernel_rfl) (by kernel_rfl) (by kernel_rfl) (by kernel_rfl)) ?_
    refine Wp.seq ?_
    refine Wp.seq ?_
    refine Wp.regionS (pOf []) (rhoOf []) (by kernel_rfl) ?_
    refine Runs.all (by kernel_rfl) ?_
    refine thenN ?_
    refine Wp.le (Le.of (s := ⟨[(2, .obj 2 0), (4, .t (.bool false)), (7, .obj 7 0), (25, .t (.bool (r5 != r3)))], [(2, [.t (.int .i64 p0.fC.fSize), .t (.int .i64 p0.fC.fWindow), .t (.int .i64 p0.fC.fSuspect), .t (.int .i64 p0.fC.fForget), .t (.sl 1 (p0.fT.fUp.map (eInt .i64))), .t (.sl 1 (p0.fNew.map (eInt .u8))), .t (.sl 1 (p0.fOld.map Image.enc)), .t (.sl 12 (p0.fN.map Node.enc)), .t (.sl 6 (p0.fD.map Disk.enc)), .t (.sl 3 (p0.fNet.map Packet.enc)), .t (.sl 3 (p0.fLog.map Sent.enc)), .t (.int .i64 p0.fLost)]), (7, [.t (.int .i64 r4.fC.fSize), .t (.int .i64 r4.fC.fWindow), .t (.int .i64 r4.fC.fSuspect), .t (.int .i64 r4.fC.fForget), .own 1245188, .own 1245189, .own 1245190, .own 1245191, .own 1245192, .own 1245193, .own 1245194, .t (.int .i64 r4.fLost)])], [(1245188, .live 3 1 (r4.fT.fUp.map (eInt .i64))), (1245189, .live 5 1 (r4.fNew.map (eInt .u8))), (1245190, .live 67 1 (r4.fOld.map Image.enc)), (1245191, .live 114 12 (r4.fN.map Node.enc)), (1245192, .live 109 6 (r4.fD.map Disk.enc)), (1245193, .live 146 3 (r4.fNet.map Packet.enc)), (1245194, .live 99 3 (r4.fLog.map Sent.enc))]⟩) (mo := []) (mr := []) (by kernel_rfl) (by kernel_rfl) (by kernel_rfl) (by kernel_rfl)) ?_
    refine Wp.cond2 (b := r5 != r3) (by kernel_rfl) (fun hc => ?_) (fun hc => ?_)
    · have h := cond_t h hc
      refine Wp.seq ?_
      refine Wp.regionS (pOf []) (rhoOf []) (by kernel_rfl) ?_
      refine Runs.all (by kernel_rfl) ?_
      refine thenN ?_
      refine Wp.le (Le.of (s := ⟨[(2, .obj 2 0), (4, .t (.bool false)), (7, .obj 7 0)], [(2, [.t (.int .i64 p0.fC.fSize), .t (.int .i64 p0.fC.fWindow), .t (.int .i64 p0.fC.fSuspect), .t (.int .i64 p0.fC.fForget), .t (.sl 1 (p0.fT.fUp.map (eInt .i64))), .t (.sl 1 (p0.fNew.map (eInt .u8))), .t (.sl 1 (p0.fOld.map Image.enc)), .t (.sl 12 (p0.fN.map Node.enc)), .t (.sl 6 (p0.fD.map Disk.enc)), .t (.sl 3 (p0.fNet.map Packet.enc)), .t (.sl 3 (p0.fLog.map Sent.enc)), .t (.int .i64 p0.fLost)]), (7, [.t (.int .i64 r4.fC.fSize), .t (.int .i64 r4.fC.fWindow), .t (.int .i64 r4.fC.fSuspect), .t (.int .i64 r4.fC.fForget), .own 1245188, .own 1245189, .own 1245190, .own 1245191, .own 1245192, .own 1245193, .own 1245194, .t (.int .i64 r4.fLost)])], [(1245188, .live 3 1 (r4.fT.fUp.map (eInt .i64))), (1245189, .live 5 1 (r4.fNew.map (eInt .u8))), (1245190, .live 67 1 (r4.fOld.map Image.enc)), (1245191, .live 114 12 (r4.fN.map Node.enc)), (1245192, .live 109 6 (r4.fD.map Disk.enc)), (1245193, .live 146 3 (r4.fNet.map Packet.enc)), (1245194, .live 99 3 (r4.fLog.map Sent.enc))]⟩) (mo := []) (mr := []) (by kernel_rfl) (by kernel_rfl) (by kernel_rfl) (by kernel_rfl)) ?_
      refine Wp.ret ?_
      refine thenR ?_
      have hr := Option.some.inj h
      subst hr
      exact RetK [.t (.bool false)] (.one (.t (.bool false))) [] (by kernel_rfl) (by kernel_rfl) (.refl _) .nil
    · have h := cond_f h hc
      refine Wp.skip ?_
      refine thenN ?_
      refine Wp.seq ?_
      refine Wp.seq ?_
      refine Wp.le (Le.trans (Le.frzO 7 4 1245188 3 1 [.t (.int .i64 r4.fC.fSize), .t (.int .i64 r4.fC.fWindow), .t (.int .i64 r4.fC.fSuspect), .t (.int .i64 r4.fC.fForget), .own 1245188, .own 1245189, .own 1245190, .own 1245191, .own 1245192, .own 1245193, .own 1245194, .t (.int .i64 r4.fLost)] (r4.fT.fUp.map (eInt .i64)) (by kernel_rfl) (by kernel_rfl) (by kernel_rfl)) (Le.trans (Le.frzO 7 5 1245189 5 1 [.t (.int .i64 r4.fC.fSize), .t (.int .i64 r4.fC.fWindow), .t (.int .i64 r4.fC.fSuspect), .t (.int .i64 r4.fC.fForget), .t (.sl 1 (r4.fT.fUp.map (eInt .i64))), .own 1245189, .own 1245190, .own 1245191, .own 1245192, .own 1245193, .own 1245194, .t (.int .i64 r4.fLost)] (r4.fNew.map (eInt .u8)) (by kernel_rfl) (by kernel_rfl) (by kernel_rfl)) (Le.trans (Le.frzO 7 6 1245190 67 1 [.t (.int .i64 r4.fC.fSize), .t (.int .i64 r4.fC.fWindow), .t (.int .i64 r4.fC.fSuspect), .t (.int .i64 r4.fC.fForget), .t (.sl 1 (r4.fT.fUp.map (eInt .i64))), .t (.sl 1 (r4.fNew.map (eInt .u8))), .own 1245190, .own 1245191, .own 1245192, .own 1245193, .own 1245194, .t (.int .i64 r4.fLost)] (r4.fOld.map Image.enc) (by kernel_rfl) (by kernel_rfl) (by kernel_rfl)) (Le.trans (Le.frzO 7 7 1245191 114 12 [.t (.int .i64 r4.fC.fSize), .t (.int .i64 r4.fC.fWindow), .t (.int .i64 r4.fC.fSuspect), .t (.int .i64 r4.fC.fForget), .t (.sl 1 (r4.fT.fUp.map (eInt .i64))), .t (.sl 1 (r4.fNew.map (eInt .u8))), .t (.sl 1 (r4.fOld.map Image.enc)), .own 1245191, .own 1245192, .own 1245193, .own 1245194, .t (.int .i64 r4.fLost)] (r4.fN.map Node.enc) (by kernel_rfl) (by kernel_rfl) (by kernel_rfl)) (Le.trans (Le.frzO 7 8 1245192 109 6 [.t (.int .i64 r4.fC.fSize), .t (.int .i64 r4.fC.fWindow), .t (.int .i64 r4.fC.fSuspect), .t (.int .i64 r4.fC.fForget), .t (.sl 1 (r4.fT.fUp.map (eInt .i64))), .t (.sl 1 (r4.fNew.map (eInt .u8))), .t (.sl 1 (r4.fOld.map Image.enc)), .t (.sl 12 (r4.fN.map Node.enc)), .own 1245192, .own 1245193, .own 1245194, .t (.int .i64 r4.fLost)] (r4.fD.map Disk.enc) (by kernel_rfl) (by kernel_rfl) (by kernel_rfl)) (Le.trans (Le.frzO 7 9 1245193 146 3 [.t (.int .i64 r4.fC.fSize), .t (.int .i64 r4.fC.fWindow), .t (.int .i64 r4.fC.fSuspect), .t (.int .i64 r4.fC.fForget), .t (.sl 1 (r4.fT.fUp.map (eInt .i64))), .t (.sl 1 (r4.fNew.map (eInt .u8))), .t (.sl 1 (r4.fOld.map Image.enc)), .t (.sl 12 (r4.fN.map Node.enc)), .t (.sl 6 (r4.fD.map Disk.enc)), .own 1245193, .own 1245194, .t (.int .i64 r4.fLost)] (r4.fNet.map Packet.enc) (by kernel_rfl) (by kernel_rfl) (by kernel_rfl)) (Le.trans (Le.frzO 7 10 1245194 99 3 [.t (.int .i64 r4.fC.fSize), .t (.int .i64 r4.fC.fWindow), .t (.int .i64 r4.fC.fSuspect), .t (.int .i64 r4.fC.fForget), .t (.sl 1 (r4.fT.fUp.map (eInt .i64))), .t (.sl 1 (r4.fNew.map (eInt .u8))), .t (.sl 1 (r4.fOld.map Image.enc)), .t (.sl 12 (r4.fN.map Node.enc)), .t (.sl 6 (r4.fD.map Disk.enc)), .t (.sl 3 (r4.fNet.map Packet.enc)), .own 1245194, .t (.int .i64 r4.fLost)] (r4.fLog.map Sent.enc) (by kernel_rfl) (by kernel_rfl) (by kernel_rfl)) (Le.of (s := ⟨[(2, .obj 2 0), (4, .t (.bool false)), (7, .obj 7 0)], [(2, [.t (.int .i64 p0.fC.fSize), .t (.int .i64 p0.fC.fWindow), .t (.int .i64 p0.fC.fSuspect), .t (.int .i64 p0.fC.fForget), .t (.sl 1 (p0.fT.fUp.map (eInt .i64))), .t (.sl 1 (p0.fNew.map (eInt .u8))), .t (.sl 1 (p0.fOld.map Image.enc)), .t (.sl 12 (p0.fN.map Node.enc)), .t (.sl 6 (p0.fD.map Disk.enc)), .t (.sl 3 (p0.fNet.map Packet.enc)), .t (.sl 3 (p0.fLog.map Sent.enc)), .t (.int .i64 p0.fLost)]), (7, [.t (.int .i64 r4.fC.fSize), .t (.int .i64 r4.fC.fWindow), .t (.int .i64 r4.fC.fSuspect), .t (.int .i64 r4.fC.fForget), .t (.sl 1 (r4.fT.fUp.map (eInt .i64))), .t (.sl 1 (r4.fNew.map (eInt .u8))), .t (.sl 1 (r4.fOld.map Image.enc)), .t (.sl 12 (r4.fN.map Node.enc)), .t (.sl 6 (r4.fD.map Disk.enc)), .t (.sl 3 (r4.fNet.map Packet.enc)), .t (.sl 3 (r4.fLog.map Sent.enc)), .t (.int .i64 r4.fLost)])], []⟩) (mo := []) (mr := []) (by kernel_rfl) (by kernel_rfl) (by kernel_rfl) (by kernel_rfl))))))))) ?_
      refine Wp.regionA (pOf []) (rhoOf [(2, .obj 2), (7, .obj 7), (26, .frz), (27, .frz), (29, .frz)]) (by kernel_rfl) (by kernel_rfl) ?_
      refine Runs.batch 2 (by kernel_rfl) ?_
      obtain ⟨r6, e_r6, h⟩ := bind_some h
      refine Runs.callK false 28 26 [] [.agg [.t (.int .i64 p0.fC.fSize), .t (.int .i64 p0.fC.fWindow), .t (.int .i64 p0.fC.fSuspect), .t (.int .i64 p0.fC.fForget), .t (.sl 1 (p0.fT.fUp.map (eInt .i64))), .t (.sl 1 (p0.fNew.map (eInt .u8))), .t (.sl 1 (p0.fOld.map Image.enc)), .t (.sl 12 (p0.fN.map Node.enc)), .t (.sl 6 (p0.fD.map Disk.enc)), .t (.sl 3 (p0.fNet.map Packet.enc)), .t (.sl 3 (p0.fLog.map Sent.enc)), .t (.int .i64 p0.fLost)]] [.agg [.t (.int .i64 p0.fC.fSize), .t (.int .i64 p0.fC.fWindow), .t (.int .i64 p0.fC.fSuspect), .t (.int .i64 p0.fC.fForget), .t (.sl 1 (p0.fT.fUp.map (eInt .i64))), .t (.sl 1 (p0.fNew.map (eInt .u8))), .t (.sl 1 (p0.fOld.map Image.enc)), .t (.sl 12 (p0.fN.map Node.enc)), .t (.sl 6 (p0.fD.map Disk.enc)), .t (.sl 3 (p0.fNet.map Packet.enc)), .t (.sl 3 (p0.fLog.map Sent.enc)), .t (.int .i64 p0.fLost)]] (.agg [.t (.int .i64 r6.fC.fSize), .t (.int .i64 r6.fC.fWindow), .t (.int .i64 r6.fC.fSuspect), .t (.int .i64 r6.fC.fForget), .ow 3 1 (r6.fT.fUp.map (eInt .i64)), .ow 5 1 (r6.fNew.map (eInt .u8)), .ow 67 1 (r6.fOld.map Image.enc), .ow 114 12 (r6.fN.map Node.enc), .ow 109 6 (r6.fD.map Disk.enc), .ow 146 3 (r6.fNet.map Packet.enc), .ow 99 3 (r6.fLog.map Sent.enc), .t (.int .i64 r6.fLost)]) [] rfl rfl (by kernel_rfl) (by kernel_rfl) (by kernel_rfl) (by kernel_rfl) (by kernel_rfl) (laws_toWorld_ok u p0 r6 e_r6) (by kernel_rfl) ?_
      obtain ⟨r7, e_r7, h⟩ := bind_some h
      refine Runs.callBK 29 28 [] [.agg [.t (.int .i64 r4.fC.fSize), .t (.int .i64 r4.fC.fWindow), .t (.int .i64 r4.fC.fSuspect), .t (.int .i64 r4.fC.fForget), .t (.sl 1 (r4.fT.fUp.map (eInt .i64))), .t (.sl 1 (r4.fNew.map (eInt .u8))), .t (.sl 1 (r4.fOld.map Image.enc)), .t (.sl 12 (r4.fN.map Node.enc)), .t (.sl 6 (r4.fD.map Disk.enc)), .t (.sl 3 (r4.fNet.map Packet.enc)), .t (.sl 3 (r4.fLog.map Sent.enc)), .t (.int .i64 r4.fLost)], .agg [.t (.int .i64 r6.fC.fSize), .t (.int .i64 r6.fC.fWindow), .t (.int .i64 r6.fC.fSuspect), .t (.int .i64 r6.fC.fForget), .own 1835012, .own 1835013, .own 1835014, .own 1835015, .own 1835016, .own 1835017, .own 1835018, .t (.int .i64 r6.fLost)]] [.agg [.t (.int .i64 r4.fC.fSize), .t (.int .i64 r4.fC.fWindow), .t (.int .i64 r4.fC.fSuspect), .t (.int .i64 r4.fC.fForget), .t (.sl 1 (r4.fT.fUp.map (eInt .i64))), .t (.sl 1 (r4.fNew.map (eInt .u8))), .t (.sl 1 (r4.fOld.map Image.enc)), .t (.sl 12 (r4.fN.map Node.enc)), .t (.sl 6 (r4.fD.map Disk.enc)), .t (.sl 3 (r4.fNet.map Packet.enc)), .t (.sl 3 (r4.fLog.map Sent.enc)), .t (.int .i64 r4.fLost)], .agg [.t (.int .i64 r6.fC.fSize), .t (.int .i64 r6.fC.fWindow), .t (.int .i64 r6.fC.fSuspect), .t (.int .i64 r6.fC.fForget), .t (.sl 1 (r6.fT.fUp.map (eInt .i64))), .t (.sl 1 (r6.fNew.map (eInt .u8))), .t (.sl 1 (r6.fOld.map Image.enc)), .t (.sl 12 (r6.fN.map Node.enc)), .t (.sl 6 (r6.fD.map Disk.enc)), .t (.sl 3 (r6.fNet.map Packet.enc)), .t (.sl 3 (r6.fLog.map Sent.enc)), .t (.int .i64 r6.fLost)]] (.one (.t (.bool r7))) rfl rfl (by kernel_rfl) (by kernel_rfl) (by kernel_rfl) (by kernel_rfl) (by kernel_rfl) (laws_eqWorld_ok u r4 r6 r7 e_r7) (by simp [V.plain, V.plains, C.plain, T.sc]) (by kernel_rfl) ?_
      refine Runs.all (by kernel_rfl) ?_
      refine thenN ?_
      refine Wp.le (Le.of (s := ⟨[(4, .t (.bool false)), (30, .t (.bool (!r7)))], [], []⟩) (mo := []) (mr := []) (by kernel_rfl) (by kernel_rfl) (by kernel_rfl) (by kernel_rfl)) ?_
      refine Wp.cond2 (b := !r7) (by kernel_rfl) (fun hc => ?_) (fun hc => ?_)
      · have h := cond_t h hc
        refine Wp.seq ?_
        refine Wp.regionS (pOf []) (rhoOf []) (by kernel_rfl) ?_
        refine Runs.all (by kernel_rfl) ?_
        refine thenN ?_
        refine Wp.le (Le.of (s := ⟨[(4, .t (.bool false))], [], []⟩) (mo := []) (mr := []) (by kernel_rfl) (by kernel_rfl) (by kernel_rfl) (by kernel_rfl)) ?_
        refine Wp.ret ?_
        refine thenR ?_
        have hr := Option.some.inj h
        subst hr
        exact RetK [.t (.bool false)] (.one (.t (.bool false))) [] (by kernel_rfl) (by kernel_rfl) (.refl _) .nil
      · have h := cond_f h hc
        refine Wp.skip ?_
        refine thenN ?_
        refine Wp.seq ?_
        refine Wp.regionS (pOf []) (rhoOf []) (by kernel_rfl) ?_
        refine Runs.all (by kernel_rfl) ?_
        refine thenN ?_
        refine Wp.le (Le.of (s := ⟨[(4, .t (.bool true))], [], []⟩) (mo := []) (mr := []) (by kernel_rfl) (by kernel_rfl) (by kernel_rfl) (by kernel_rfl)) ?_
        refine Wp.ret ?_
        have hr := Option.some.inj h
        subst hr
        exact RetK [.t (.bool true)] (.one (.t (.bool true))) [] (by kernel_rfl) (by kernel_rfl) (.refl _) .nil
end Go.Tm
