/- The functions as they are translated do what the pure functions say (printed). -/
import Derived.Test.YtohcknmdebahiaaGreatDoorCWorldTextK1
import Derived.Test.YtohcknmdebahiaaGreatDoorTm45
import Derived.Shelf.Strings.OnBuilder
import Derived.Test.YtohcknmdebahiaaGreatDoorProg
set_option maxRecDepth 100000
set_option maxHeartbeats 20000000
set_option linter.unusedVariables false
set_option linter.unusedSimpArgs false
namespace Go.Tm
open Go.Proofs
theorem laws_eqManifest_ok (u : Nat) (p0 : Manifest) (p1 : Manifest) (r : Bool) (h : laws_eqManifest u p0 p1 = some r) : CallOK Tryz.prog 119 [.agg [.t (.int .i64 p0.fGen), .t (.int .i64 p0.fSize), .t (.int .i64 p0.fLen), .t (.sl 2 (p0.fSums.map Sum.enc))], .agg [.t (.int .i64 p1.fGen), .t (.int .i64 p1.fSize), .t (.int .i64 p1.fLen), .t (.sl 2 (p1.fSums.map Sum.enc))]] (.one (.t (.bool r))) [] := by
  unfold laws_eqManifest at h
  refine CallOK.of_bodyK (fn := Tryz.f119) (m := false) [.agg ((Manifest.enc p0).map .t), .agg ((Manifest.enc p1).map .t)] kr rfl kr kr kr kr kr ?_
  refine Wp.srg [] [] ?_
  refine Runs.alln ?_
  refine Wp.fg ⟨[(2, .obj 2 0), (3, .obj 3 0), (4, .t (.bool false))], [(2, ((Manifest.enc p0).map .t)), (3, ((Manifest.enc p1).map .t))], []⟩ ?_
  refine Wp.seq ?_
  refine Wp.srg [] [] ?_
  refine Runs.alln ?_
  refine Wp.fg ⟨[(2, .obj 2 0), (3, .obj 3 0), (4, .t (.bool false)), (9, .t (.bool (p0.fGen != p1.fGen)))], [(2, ((Manifest.enc p0).map .t)), (3, ((Manifest.enc p1).map .t))], []⟩ ?_
  refine Wp.cond2 (b := p0.fGen != p1.fGen) kr (fun hc => ?_) (fun hc => ?_)
  · have h := cond_t h hc
    refine Wp.srg [] [] ?_
    refine Runs.alln ?_
    refine Wp.fg ⟨[(2, .obj 2 0), (3, .obj 3 0), (4, .t (.bool false))], [(2, ((Manifest.enc p0).map .t)), (3, ((Manifest.enc p1).map .t))], []⟩ ?_
    refine Wp.ret ?_
    refine thenR ?_
    obtain rfl := Option.some.inj h
    exact RetK [.t (.bool false)] _ [] kr kr (.refl _) .nil
  have h := cond_f h hc
  refine Wp.skip (thenN ?_)
  refine Wp.seq ?_
  refine Wp.srg [] [] ?_
  refine Runs.alln ?_
  refine Wp.fg ⟨[(2, .obj 2 0), (3, .obj 3 0), (4, .t (.bool false)), (14, .t (.bool (p0.fSize != p1.fSize)))], [(2, ((Manifest.enc p0).map .t)), (3, ((Manifest.enc p1).map .t))], []⟩ ?_
  refine Wp.cond2 (b := p0.fSize != p1.fSize) kr (fun hc => ?_) (fun hc => ?_)
  · have h := cond_t h hc
    refine Wp.srg [] [] ?_
    refine Runs.alln ?_
    refine Wp.fg ⟨[(2, .obj 2 0), (3, .obj 3 0), (4, .t (.bool false))], [(2, ((Manifest.enc p0).map .t)), (3, ((Manifest.enc p1).map .t))], []⟩ ?_
    refine Wp.ret ?_
    refine thenR ?_
    obtain rfl := Option.some.inj h
    exact RetK [.t (.bool false)] _ [] kr kr (.refl _) .nil
  have h := cond_f h hc
  refine Wp.skip (thenN ?_)
  refine Wp.seq ?_
  refine Wp.srg [] [] ?_
  refine Runs.alln ?_
  refine Wp.fg ⟨[(2, .obj 2 0), (3, .obj 3 0), (4, .t (.bool false)), (19, .t (.bool (p0.fLen != p1.fLen)))], [(2, ((Manifest.enc p0).map .t)), (3, ((Manifest.enc p1).map .t))], []⟩ ?_
  refine Wp.cond2 (b := p0.fLen != p1.fLen) kr (fun hc => ?_) (fun hc => ?_)
  · have h := cond_t h hc
    refine Wp.srg [] [] ?_
    refine Runs.alln ?_
    refine Wp.fg ⟨[(2, .obj 2 0), (3, .obj 3 0), (4, .t (.bool false))], [(2, ((Manifest.enc p0).map .t)), (3, ((Manifest.enc p1).map .t))], []⟩ ?_
    refine Wp.ret ?_
    refine thenR ?_
    obtain rfl := Option.some.inj h
    exact RetK [.t (.bool false)] _ [] kr kr (.refl _) .nil
  have h := cond_f h hc
  refine Wp.skip (thenN ?_)
  refine Wp.seq ?_
  refine Wp.srg [] [] ?_
  refine Runs.batch 4 kr ?_
  obtain ⟨r1, e_r1, h⟩ := bind_some h
  refine Runs.callK false 24 163 [] [.t (.sl 2 (p0.fSums.map Sum.enc)), .t (.sl 2 (p1.fSums.map Sum.enc))] _ _ _ rfl rfl kr kr kr kr kr (laws_eqSumS_ok u p0.fSums p1.fSums r1 e_r1) kr ?_
  refine Runs.alln ?_
  refine Wp.fg ⟨[(4, .t (.bool false)), (25, .t (.bool (!r1)))], [], []⟩ ?_
  refine Wp.cond2 (b := !r1) kr (fun hc => ?_) (fun hc => ?_)
  · have h := cond_t h hc
    refine Wp.srg [] [] ?_
    refine Runs.alln ?_
    refine Wp.fg ⟨[(4, .t (.bool false))], [], []⟩ ?_
    refine Wp.ret ?_
    refine thenR ?_
    obtain rfl := Option.some.inj h
    exact RetK [.t (.bool false)] _ [] kr kr (.refl _) .nil
  have h := cond_f h hc
  refine Wp.skip (thenN ?_)
  refine Wp.srg [] [] ?_
  refine Runs.alln ?_
  refine Wp.fg ⟨[(4, .t (.bool true))], [], []⟩ ?_
  refine Wp.ret ?_
  obtain rfl := Option.some.inj h
  exact RetK [.t (.bool true)] _ [] kr kr (.refl _) .nil
theorem laws_eqBuild_ok (u : Nat) (p0 : Build) (p1 : Build) (r : Bool) (h : laws_eqBuild u p0 p1 = some r) : CallOK Tryz.prog 120 [.agg [.t (.int .i64 p0.fHave), .t (.sl 1 (p0.fBuf.map (eInt .u8)))], .agg [.t (.int .i64 p1.fHave), .t (.sl 1 (p1.fBuf.map (eInt .u8)))]] (.one (.t (.bool r))) [] := by
  unfold laws_eqBuild at h
  refine CallOK.of_bodyK (fn := Tryz.f120) (m := false) [.agg [.t (.int .i64 p0.fHave), .t (.sl 1 (p0.fBuf.map (eInt .u8)))], .agg [.t (.int .i64 p1.fHave), .t (.sl 1 (p1.fBuf.map (eInt .u8)))]] kr rfl kr kr kr kr kr ?_
  refine Wp.srg [] [] ?_
  refine Runs.alln ?_
  refine Wp.fg ⟨[(2, .obj 2 0), (3, .obj 3 0), (4, .t (.bool false))], [(2, [.t (.int .i64 p0.fHave), .t (.sl 1 (p0.fBuf.map (eInt .u8)))]), (3, [.t (.int .i64 p1.fHave), .t (.sl 1 (p1.fBuf.map (eInt .u8)))])], []⟩ ?_
  refine Wp.seq ?_
  refine Wp.srg [] [] ?_
  refine Runs.alln ?_
  refine Wp.fg ⟨[(2, .obj 2 0), (3, .obj 3 0), (4, .t (.bool false)), (9, .t (.bool (p0.fHave != p1.fHave)))], [(2, [.t (.int .i64 p0.fHave), .t (.sl 1 (p0.fBuf.map (eInt .u8)))]), (3, [.t (.int .i64 p1.fHave), .t (.sl 1 (p1.fBuf.map (eInt .u8)))])], []⟩ ?_
  refine Wp.cond2 (b := p0.fHave != p1.fHave) kr (fun hc => ?_) (fun hc => ?_)
  · have h := cond_t h hc
    refine Wp.srg [] [] ?_
    refine Runs.alln ?_
    refine Wp.fg ⟨[(2, .obj 2 0), (3, .obj 3 0), (4, .t (.bool false))], [(2, [.t (.int .i64 p0.fHave), .t (.sl 1 (p0.fBuf.map (eInt .u8)))]), (3, [.t (.int .i64 p1.fHave), .t (.sl 1 (p1.fBuf.map (eInt .u8)))])], []⟩ ?_
    refine Wp.ret ?_
    refine thenR ?_
    obtain rfl := Option.some.inj h
    exact RetK [.t (.bool false)] _ [] kr kr (.refl _) .nil
  have h := cond_f h hc
  refine Wp.skip (thenN ?_)
  refine Wp.seq ?_
  refine Wp.srg [] [] ?_
  refine Runs.batch 4 kr ?_
  obtain ⟨r1, e_r1, h⟩ := bind_some h
  refine Runs.callK false 14 12 [] [.t (.sl 1 (p0.fBuf.map (eInt .u8))), .t (.sl 1 (p1.fBuf.map (eInt .u8)))] _ _ _ rfl rfl kr kr kr kr kr (laws_eqByteS_ok u p0.fBuf p1.fBuf r1 e_r1) kr ?_
  refine Runs.alln ?_
  refine Wp.fg ⟨[(4, .t (.bool false)), (15, .t (.bool (!r1)))], [], []⟩ ?_
  refine Wp.cond2 (b := !r1) kr (fun hc => ?_) (fun hc => ?_)
  · have h := cond_t h hc
    refine Wp.srg [] [] ?_
    refine Runs.alln ?_
    refine Wp.fg ⟨[(4, .t (.bool false))], [], []⟩ ?_
    refine Wp.ret ?_
    refine thenR ?_
    obtain rfl := Option.some.inj h
    exact RetK [.t (.bool false)] _ [] kr kr (.refl _) .nil
  have h := cond_f h hc
  refine Wp.skip (thenN ?_)
  refine Wp.srg [] [] ?_
  refine Runs.alln ?_
  refine Wp.fg ⟨[(4, .t (.bool true))], [], []⟩ ?_
  refine Wp.ret ?_
  obtain rfl := Option.some.inj h
  exact RetK [.t (.bool true)] _ [] kr kr (.refl _) .nil
theorem laws_eqKid_ok (u : Nat) (p0 : Kid) (p1 : Kid) (r : Bool) (h : laws_eqKid u p0 p1 = some r) : CallOK Tryz.prog 164 [.agg [.t (.int .i64 p0.fId), .t (.int .i64 p0.fWant), .t (.int .i64 p0.fDone), .t (.int .i64 p0.fAge), .t (.int .i64 p0.fSent)], .agg [.t (.int .i64 p1.fId), .t (.int .i64 p1.fWant), .t (.int .i64 p1.fDone), .t (.int .i64 p1.fAge), .t (.int .i64 p1.fSent)]] (.one (.t (.bool r))) [] := by
  unfold laws_eqKid at h
  refine CallOK.of_bodyK (fn := Tryz.f164) (m := false) [.agg ((Kid.enc p0).map .t), .agg ((Kid.enc p1).map .t)] kr rfl kr kr kr kr kr ?_
  refine Wp.srg [] [] ?_
  refine Runs.alln ?_
  refine Wp.fg ⟨[(2, .obj 2 0), (3, .obj 3 0), (4, .t (.bool false))], [(2, ((Kid.enc p0).map .t)), (3, ((Kid.enc p1).map .t))], []⟩ ?_
  refine Wp.seq ?_
  refine Wp.srg [] [] ?_
  refine Runs.alln ?_
  refine Wp.fg ⟨[(2, .obj 2 0), (3, .obj 3 0), (4, .t (.bool false)), (9, .t (.bool (p0.fId != p1.fId)))], [(2, ((Kid.enc p0).map .t)), (3, ((Kid.enc p1).map .t))], []⟩ ?_
  refine Wp.cond2 (b := p0.fId != p1.fId) kr (fun hc => ?_) (fun hc => ?_)
  · have h := cond_t h hc
    refine Wp.srg [] [] ?_
    refine Runs.alln ?_
    refine Wp.fg ⟨[(2, .obj 2 0), (3, .obj 3 0), (4, .t (.bool false))], [(2, ((Kid.enc p0).map .t)), (3, ((Kid.enc p1).map .t))], []⟩ ?_
    refine Wp.ret ?_
    refine thenR ?_
    obtain rfl := Option.some.inj h
    exact RetK [.t (.bool false)] _ [] kr kr (.refl _) .nil
  have h := cond_f h hc
  refine Wp.skip (thenN ?_)
  refine Wp.seq ?_
  refine Wp.srg [] [] ?_
  refine Runs.alln ?_
  refine Wp.fg ⟨[(2, .obj 2 0), (3, .obj 3 0), (4, .t (.bool false)), (14, .t (.bool (p0.fWant != p1.fWant)))], [(2, ((Kid.enc p0).map .t)), (3, ((Kid.enc p1).map .t))], []⟩ ?_
  refine Wp.cond2 (b := p0.fWant != p1.fWant) kr (fun hc => ?_) (fun hc => ?_)
  · have h := cond_t h hc
    refine Wp.srg [] [] ?_
    refine Runs.alln ?_
    refine Wp.fg ⟨[(2, .obj 2 0), (3, .obj 3 0), (4, .t (.bool false))], [(2, ((Kid.enc p0).map .t)), (3, ((Kid.enc p1).map .t))], []⟩ ?_
    refine Wp.ret ?_
    refine thenR ?_
    obtain rfl := Option.some.inj h
    exact RetK [.t (.bool false)] _ [] kr kr (.refl _) .nil
  have h := cond_f h hc
  refine Wp.skip (thenN ?_)
  refine Wp.seq ?_
  refine Wp.srg [] [] ?_
  refine Runs.alln ?_
  refine Wp.fg ⟨[(2, .obj 2 0), (3, .obj 3 0), (4, .t (.bool false)), (19, .t (.bool (p0.fDone != p1.fDone)))], [(2, ((Kid.enc p0).map .t)), (3, ((Kid.enc p1).map .t))], []⟩ ?_
  refine Wp.cond2 (b := p0.fDone != p1.fDone) kr (fun hc => ?_) (fun hc => ?_)
  · have h := cond_t h hc
    refine Wp.srg [] [] ?_
    refine Runs.alln ?_
    refine Wp.fg ⟨[(2, .obj 2 0), (3, .obj 3 0), (4, .t (.bool false))], [(2, ((Kid.enc p0).map .t)), (3, ((Kid.enc p1).map .t))], []⟩ ?_
    refine Wp.ret ?_
    refine thenR ?_
    obtain rfl := Option.some.inj h
    exact RetK [.t (.bool false)] _ [] kr kr (.refl _) .nil
  have h := cond_f h hc
  refine Wp.skip (thenN ?_)
  refine Wp.seq ?_
  refine Wp.srg [] [] ?_
  refine Runs.alln ?_
  refine Wp.fg ⟨[(2, .obj 2 0), (3, .obj 3 0), (4, .t (.bool false)), (24, .t (.bool (p0.fAge != p1.fAge)))], [(2, ((Kid.enc p0).map .t)), (3, ((Kid.enc p1).map .t))], []⟩ ?_
  refine Wp.cond2 (b := p0.fAge != p1.fAge) kr (fun hc => ?_) (fun hc => ?_)
  · have h := cond_t h hc
    refine Wp.srg [] [] ?_
    refine Runs.alln ?_
    refine Wp.fg ⟨[(2, .obj 2 0), (3, .obj 3 0), (4, .t (.bool false))], [(2, ((Kid.enc p0).map .t)), (3, ((Kid.enc p1).map .t))], []⟩ ?_
    refine Wp.ret ?_
    refine thenR ?_
    obtain rfl := Option.some.inj h
    exact RetK [.t (.bool false)] _ [] kr kr (.refl _) .nil
  have h := cond_f h hc
  refine Wp.skip (thenN ?_)
  refine Wp.seq ?_
  refine Wp.srg [] [] ?_
  refine Runs.alln ?_
  refine Wp.fg ⟨[(4, .t (.bool false)), (29, .t (.bool (p0.fSent != p1.fSent)))], [], []⟩ ?_
  refine Wp.cond2 (b := p0.fSent != p1.fSent) kr (fun hc => ?_) (fun hc => ?_)
  · have h := cond_t h hc
    refine Wp.srg [] [] ?_
    refine Runs.alln ?_
    refine Wp.fg ⟨[(4, .t (.bool false))], [], []⟩ ?_
    refine Wp.ret ?_
    refine thenR ?_
    obtain rfl := Option.some.inj h
    exact RetK [.t (.bool false)] _ [] kr kr (.refl _) .nil
  have h := cond_f h hc
  refine Wp.skip (thenN ?_)
  refine Wp.srg [] [] ?_
  refine Runs.alln ?_
  refine Wp.fg ⟨[(4, .t (.bool true))], [], []⟩ ?_
  refine Wp.ret ?_
  obtain rfl := Option.some.inj h
  exact RetK [.t (.bool true)] _ [] kr kr (.refl _) .nil
theorem laws_eqKidS_ok (u : Nat) (p0 : List Kid) (p1 : List Kid) (r : Bool) (h : laws_eqKidS u p0 p1 = some r) : CallOK Tryz.prog 121 [.one (.t (.sl 5 (p0.map Kid.enc))), .one (.t (.sl 5 (p1.map Kid.enc)))] (.one (.t (.bool r))) [] := by
  unfold laws_eqKidS at h
  refine CallOK.of_bodyK (fn := Tryz.f121) (m := false) [.t (.sl 5 (p0.map Kid.enc)), .t (.sl 5 (p1.map Kid.enc))] kr rfl kr kr kr kr kr ?_
  refine Wp.srg [] [] ?_
  refine Runs.alln ?_
  refine Wp.fg ⟨[(0, .t (.sl 5 (p0.map Kid.enc))), (1, .t (.sl 5 (p1.map Kid.enc))), (4, .t (.bool false))], [], []⟩ ?_
  refine Wp.seq ?_
  refine Wp.srg [] [] ?_
  refine Runs.batch 1 kr ?_
  refine Runs.lenT (y := .t (.sl 5 (p0.map Kid.enc))) (e := 200) Kid.enc p0 5 rfl rfl rfl kr kr kr kr kr ?_
  refine Runs.batch 1 kr ?_
  refine Runs.lenT (y := .t (.sl 5 (p1.map Kid.enc))) (e := 200) Kid.enc p1 5 rfl rfl rfl kr kr kr kr kr ?_
  refine Runs.alln ?_
  refine Wp.fg ⟨[(0, .t (.sl 5 (p0.map Kid.enc))), (1, .t (.sl 5 (p1.map Kid.enc))), (4, .t (.bool false)), (10, .t (.bool (((p0.length : Int)) != ((p1.length : Int)))))], [], []⟩ ?_
  refine Wp.cond2 (b := ((p0.length : Int)) != ((p1.length : Int))) kr (fun hc => ?_) (fun hc => ?_)
  · have h := cond_t h hc
    refine Wp.srg [] [] ?_
    refine Runs.alln ?_
    refine Wp.fg ⟨[(0, .t (.sl 5 (p0.map Kid.enc))), (1, .t (.sl 5 (p1.map Kid.enc))), (4, .t (.bool false))], [], []⟩ ?_
    refine Wp.ret ?_
    refine thenR ?_
    obtain rfl := Option.some.inj h
    exact RetK [.t (.bool false)] _ [] kr kr (.refl _) .nil
  have h := cond_f h hc
  refine Wp.skip (thenN ?_)
  refine Wp.seqJ (α := Unit) (fun a => ⟨[(4, .t (.bool false))], [], []⟩) (fun a => laws_eqKidS_j1 u = some r) ?_ ?_
  · rintro ⟨⟩ h
    change laws_eqKidS_j1 u = some r at h
    unfold laws_eqKidS_j1 at h
    refine Wp.srg [] [] ?_
    refine Runs.alln ?_
    refine Wp.fg ⟨[(4, .t (.bool true))], [], []⟩ ?_
    refine Wp.ret ?_
    obtain rfl := Option.some.inj h
    exact RetK [.t (.bool true)] _ [] kr kr (.refl _) .nil
  · refine Wp.srg [] [] ?_
    refine Runs.alln ?_
    refine Wp.fg ⟨[(0, .t (.sl 5 (p0.map Kid.enc))), (1, .t (.sl 5 (p1.map Kid.enc))), (4, .t (.bool false)), (5, .t (.int .i64 0))], [], []⟩ ?_
    refine Wp.block ?_
    refine Wp.loopF (α := (List Kid) × (List Kid) × Int) (fun a => ⟨[(0, .t (.sl 5 (a.1.map Kid.enc))), (1, .t (.sl 5 (a.2.1.map Kid.enc))), (4, .t (.bool false)), (5, .t (.int .i64 a.2.2))], [], []⟩) (fun k_laws_eqKidS_l2 a => laws_eqKidS_l2 u k_laws_eqKidS_l2 a.1 a.2.1 a.2.2 = some r) ?_ ?_ u (p0, p1, 0) h (Le.of (mo := []) (mr := []) kr kr kr kr)
    · intro a h; unfold laws_eqKidS_l2 at h; cases h
    · rintro k_laws_eqKidS_l2 ⟨p0, p1, x2⟩ h
      change laws_eqKidS_l2 u (k_laws_eqKidS_l2 + 1) p0 p1 x2 = some r at h
      rw [laws_eqKidS_l2] at h
      refine Wp.seq ?_
      refine Wp.srg [] [] ?_
      refine Runs.batch 2 kr ?_
      refine Runs.lenT (y := .t (.sl 5 (p0.map Kid.enc))) (e := 200) Kid.enc p0 5 rfl rfl rfl kr kr kr kr kr ?_
      refine Runs.alln ?_
      refine Wp.fg ⟨[(0, .t (.sl 5 (p0.map Kid.enc))), (1, .t (.sl 5 (p1.map Kid.enc))), (4, .t (.bool false)), (5, .t (.int .i64 x2)), (14, .t (.bool (decide (x2 < ((p0.length : Int))))))], [], []⟩ ?_
      refine Wp.cond2 (b := decide (x2 < ((p0.length : Int)))) kr (fun hc => ?_) (fun hc => ?_)
      · have h := cond_t h hc
        refine Wp.skip (thenN ?_)
        refine Wp.seq ?_
        refine Wp.block ?_
        refine Wp.seq ?_
        refine Wp.regionA (pOf []) (rhoOf [(0, .frz), (1, .frz), (5, .frz), (17, .frz), (18, .frz), (19, .frz), (20, .frz), (21, .frz), (22, .frz), (23, .frz), (24, .frz), (25, .frz)]) kr kr ?_
        refine Runs.batch 2 kr ?_
        obtain ⟨y4, e_y4, h⟩ := bind_some h
        refine Runs.idxT (e := 200) (kk := .i64) (sz := 5) Kid.enc p0 x2 rfl kr kr kr kr kr kr e_y4 ?_
        refine Runs.batch 3 kr ?_
        obtain ⟨y5, e_y5, h⟩ := bind_some h
        refine Runs.idxT (e := 200) (kk := .i64) (sz := 5) Kid.enc p1 x2 rfl kr kr kr kr kr kr e_y5 ?_
        refine Runs.batch 1 kr ?_
        obtain ⟨r6, e_r6, h⟩ := bind_some h
        refine Runs.callK false 25 164 [] [.agg ((Kid.enc y4).map .t), .agg ((Kid.enc y5).map .t)] _ _ _ rfl rfl kr kr kr kr kr (laws_eqKid_ok u y4 y5 r6 e_r6) kr ?_
        refine Runs.alln ?_
        refine Wp.fg ⟨[(0, .t (.sl 5 (p0.map Kid.enc))), (1, .t (.sl 5 (p1.map Kid.enc))), (4, .t (.bool false)), (5, .t (.int .i64 x2)), (26, .t (.bool (!r6)))], [], []⟩ ?_
        refine Wp.cond2 (b := !r6) kr (fun hc => ?_) (fun hc => ?_)
        · have h := cond_t h hc
          refine Wp.srg [] [] ?_
          refine Runs.alln ?_
          refine Wp.fg ⟨[(0, .t (.sl 5 (p0.map Kid.enc))), (1, .t (.sl 5 (p1.map Kid.enc))), (4, .t (.bool false)), (5, .t (.int .i64 x2))], [], []⟩ ?_
          refine Wp.ret ?_
          refine blkR ?_
          refine thenR ?_
          refine thenR ?_
          refine blkR ?_
          refine thenR ?_
          obtain rfl := Option.some.inj h
          exact RetK [.t (.bool false)] _ [] kr kr (.refl _) .nil
        have h := cond_f h hc
        refine Wp.skip ?_
        refine blkN ?_
        refine thenN ?_
        refine Wp.rg [] [] ?_
        refine Runs.alln ?_
        exact ⟨(p0, p1, bAdd .i64 x2 1), h, Le.of (mo := []) (mr := []) kr kr kr kr⟩
      have h := cond_f h hc
      refine Wp.exit ?_
      refine thenE ?_
      refine thenE ?_
      refine blkE ?_
      refine thenN ?_
      exact ⟨(), h, Le.of (mo := []) (mr := []) kr kr kr kr⟩
theorem laws_eqNode_ok (u : Nat) (p0 : Node) (p1 : Node) (r : Bool) (h : laws_eqNode u p0 p1 = some r) : CallOK Tryz.prog 79 [.agg [.t (.bool p0.fOn), .t (.int .i64 p0.fBoss), .t (.int .i64 p0.fQuiet), .t (.int .i64 p0.fMan.fGen), .t (.int .i64 p0.fMan.fSize), .t (.int .i64 p0.fMan.fLen), .t (.sl 2 (p0.fMan.fSums.map Sum.enc)), .t (.int .i64 p0.fBld.fHave), .t (.sl 1 (p0.fBld.fBuf.map (eInt .u8))), .t (.int .i64 p0.fPhase), .t (.sl 5 (p0.fKids.map Kid.enc)), .t (.int .i64 p0.fDrops)], .agg [.t (.bool p1.fOn), .t (.int .i64 p1.fBoss), .t (.int .i64 p1.fQuiet), .t (.int .i64 p1.fMan.fGen), .t (.int .i64 p1.fMan.fSize), .t (.int .i64 p1.fMan.fLen), .t (.sl 2 (p1.fMan.fSums.map Sum.enc)), .t (.int .i64 p1.fBld.fHave), .t (.sl 1 (p1.fBld.fBuf.map (eInt .u8))), .t (.int .i64 p1.fPhase), .t (.sl 5 (p1.fKids.map Kid.enc)), .t (.int .i64 p1.fDrops)]] (.one (.t (.bool r))) [] := by
  unfold laws_eqNode at h
  refine CallOK.of_bodyK (fn := Tryz.f79) (m := false) [.agg ((Node.enc p0).map .t), .agg ((Node.enc p1).map .t)] kr rfl kr kr kr kr kr ?_
  refine Wp.srg [] [] ?_
  refine Runs.alln ?_
  refine Wp.fg ⟨[(2, .obj 2 0), (3, .obj 3 0), (4, .t (.bool false))], [(2, ((Node.enc p0).map .t)), (3, ((Node.enc p1).map .t))], []⟩ ?_
  refine Wp.seq ?_
  refine Wp.srg [] [] ?_
  refine Runs.alln ?_
  refine Wp.fg ⟨[(2, .obj 2 0), (3, .obj 3 0), (4, .t (.bool false)), (9, .t (.bool (!(p0.fOn == p1.fOn))))], [(2, ((Node.enc p0).map .t)), (3, ((Node.enc p1).map .t))], []⟩ ?_
  refine Wp.cond2 (b := !(p0.fOn == p1.fOn)) kr (fun hc => ?_) (fun hc => ?_)
  · have h := cond_t h hc
    refine Wp.srg [] [] ?_
    refine Runs.alln ?_
    refine Wp.fg ⟨[(2, .obj 2 0), (3, .obj 3 0), (4, .t (.bool false))], [(2, ((Node.enc p0).map .t)), (3, ((Node.enc p1).map .t))], []⟩ ?_
    refine Wp.ret ?_
    refine thenR ?_
    obtain rfl := Option.some.inj h
    exact RetK [.t (.bool false)] _ [] kr kr (.refl _) .nil
  have h := cond_f h hc
  refine Wp.skip (thenN ?_)
  refine Wp.seq ?_
  refine Wp.srg [] [] ?_
  refine Runs.alln ?_
  refine Wp.fg ⟨[(2, .obj 2 0), (3, .obj 3 0), (4, .t (.bool false)), (14, .t (.bool (p0.fBoss != p1.fBoss)))], [(2, ((Node.enc p0).map .t)), (3, ((Node.enc p1).map .t))], []⟩ ?_
  refine Wp.cond2 (b := p0.fBoss != p1.fBoss) kr (fun hc => ?_) (fun hc => ?_)
  · have h := cond_t h hc
    refine Wp.srg [] [] ?_
    refine Runs.alln ?_
    refine Wp.fg ⟨[(2, .obj 2 0), (3, .obj 3 0), (4, .t (.bool false))], [(2, ((Node.enc p0).map .t)), (3, ((Node.enc p1).map .t))], []⟩ ?_
    refine Wp.ret ?_
    refine thenR ?_
    obtain rfl := Option.some.inj h
    exact RetK [.t (.bool false)] _ [] kr kr (.refl _) .nil
  have h := cond_f h hc
  refine Wp.skip (thenN ?_)
  refine Wp.seq ?_
  refine Wp.srg [] [] ?_
  refine Runs.alln ?_
  refine Wp.fg ⟨[(2, .obj 2 0), (3, .obj 3 0), (4, .t (.bool false)), (19, .t (.bool (p0.fQuiet != p1.fQuiet)))], [(2, ((Node.enc p0).map .t)), (3, ((Node.enc p1).map .t))], []⟩ ?_
  refine Wp.cond2 (b := p0.fQuiet != p1.fQuiet) kr (fun hc => ?_) (fun hc => ?_)
  · have h := cond_t h hc
    refine Wp.srg [] [] ?_
    refine Runs.alln ?_
    refine Wp.fg ⟨[(2, .obj 2 0), (3, .obj 3 0), (4, .t (.bool false))], [(2, ((Node.enc p0).map .t)), (3, ((Node.enc p1).map .t))], []⟩ ?_
    refine Wp.ret ?_
    refine thenR ?_
    obtain rfl := Option.some.inj h
    exact RetK [.t (.bool false)] _ [] kr kr (.refl _) .nil
  have h := cond_f h hc
  refine Wp.skip (thenN ?_)
  refine Wp.seq ?_
  refine Wp.srg [] [] ?_
  refine Runs.batch 4 kr ?_
  obtain ⟨r1, e_r1, h⟩ := bind_some h
  refine Runs.callK false 24 119 [] [.agg ((Manifest.enc p0.fMan).map .t), .agg ((Manifest.enc p1.fMan).map .t)] _ _ _ rfl rfl kr kr kr kr kr (laws_eqManifest_ok u p0.fMan p1.fMan r1 e_r1) kr ?_
  refine Runs.alln ?_
  refine Wp.fg ⟨[(2, .obj 2 0), (3, .obj 3 0), (4, .t (.bool false)), (25, .t (.bool (!r1)))], [(2, ((Node.enc p0).map .t)), (3, ((Node.enc p1).map .t))], []⟩ ?_
  refine Wp.cond2 (b := !r1) kr (fun hc => ?_) (fun hc => ?_)
  · have h := cond_t h hc
    refine Wp.srg [] [] ?_
    refine Runs.alln ?_
    refine Wp.fg ⟨[(2, .obj 2 0), (3, .obj 3 0), (4, .t (.bool false))], [(2, ((Node.enc p0).map .t)), (3, ((Node.enc p1).map .t))], []⟩ ?_
    refine Wp.ret ?_
    refine thenR ?_
    obtain rfl := Option.some.inj h
    exact RetK [.t (.bool false)] _ [] kr kr (.refl _) .nil
  have h := cond_f h hc
  refine Wp.skip (thenN ?_)
  refine Wp.seq ?_
  refine Wp.srg [] [] ?_
  refine Runs.batch 4 kr ?_
  obtain ⟨r2, e_r2, h⟩ := bind_some h
  refine Runs.callK false 30 120 [] [.agg [.t (.int .i64 p0.fBld.fHave), .t (.sl 1 (p0.fBld.fBuf.map (eInt .u8)))], .agg [.t (.int .i64 p1.fBld.fHave), .t (.sl 1 (p1.fBld.fBuf.map (eInt .u8)))]] _ _ _ rfl rfl kr kr kr kr kr (laws_eqBuild_ok u p0.fBld p1.fBld r2 e_r2) kr ?_
  refine Runs.alln ?_
  refine Wp.fg ⟨[(2, .obj 2 0), (3, .obj 3 0), (4, .t (.bool false)), (31, .t (.bool (!r2)))], [(2, ((Node.enc p0).map .t)), (3, ((Node.enc p1).map .t))], []⟩ ?_
  refine Wp.cond2 (b := !r2) kr (fun hc => ?_) (fun hc => ?_)
  · have h := cond_t h hc
    refine Wp.srg [] [] ?_
    refine Runs.alln ?_
    refine Wp.fg ⟨[(2, .obj 2 0), (3, .obj 3 0), (4, .t (.bool false))], [(2, ((Node.enc p0).map .t)), (3, ((Node.enc p1).map .t))], []⟩ ?_
    refine Wp.ret ?_
    refine thenR ?_
    obtain rfl := Option.some.inj h
    exact RetK [.t (.bool false)] _ [] kr kr (.refl _) .nil
  have h := cond_f h hc
  refine Wp.skip (thenN ?_)
  refine Wp.seq ?_
  refine Wp.srg [] [] ?_
  refine Runs.alln ?_
  refine Wp.fg ⟨[(2, .obj 2 0), (3, .obj 3 0), (4, .t (.bool false)), (36, .t (.bool (p0.fPhase != p1.fPhase)))], [(2, ((Node.enc p0).map .t)), (3, ((Node.enc p1).map .t))], []⟩ ?_
  refine Wp.cond2 (b := p0.fPhase != p1.fPhase) kr (fun hc => ?_) (fun hc => ?_)
  · have h := cond_t h hc
    refine Wp.srg [] [] ?_
    refine Runs.alln ?_
    refine Wp.fg ⟨[(2, .obj 2 0), (3, .obj 3 0), (4, .t (.bool false))], [(2, ((Node.enc p0).map .t)), (3, ((Node.enc p1).map .t))], []⟩ ?_
    refine Wp.ret ?_
    refine thenR ?_
    obtain rfl := Option.some.inj h
    exact RetK [.t (.bool false)] _ [] kr kr (.refl _) .nil
  have h := cond_f h hc
  refine Wp.skip (thenN ?_)
  refine Wp.seq ?_
  refine Wp.srg [] [] ?_
  refine Runs.batch 4 kr ?_
  obtain ⟨r3, e_r3, h⟩ := bind_some h
  refine Runs.callK false 41 121 [] [.t (.sl 5 (p0.fKids.map Kid.enc)), .t (.sl 5 (p1.fKids.map Kid.enc))] _ _ _ rfl rfl kr kr kr kr kr (laws_eqKidS_ok u p0.fKids p1.fKids r3 e_r3) kr ?_
  refine Runs.alln ?_
  refine Wp.fg ⟨[(2, .obj 2 0), (3, .obj 3 0), (4, .t (.bool false)), (42, .t (.bool (!r3)))], [(2, ((Node.enc p0).map .t)), (3, ((Node.enc p1).map .t))], []⟩ ?_
  refine Wp.cond2 (b := !r3) kr (fun hc => ?_) (fun hc => ?_)
  · have h := cond_t h hc
    refine Wp.srg [] [] ?_
    refine Runs.alln ?_
    refine Wp.fg ⟨[(2, .obj 2 0), (3, .obj 3 0), (4, .t (.bool false))], [(2, ((Node.enc p0).map .t)), (3, ((Node.enc p1).map .t))], []⟩ ?_
    refine Wp.ret ?_
    refine thenR ?_
    obtain rfl := Option.some.inj h
    exact RetK [.t (.bool false)] _ [] kr kr (.refl _) .nil
  have h := cond_f h hc
  refine Wp.skip (thenN ?_)
  refine Wp.seq ?_
  refine Wp.srg [] [] ?_
  refine Runs.alln ?_
  refine Wp.fg ⟨[(4, .t (.bool false)), (47, .t (.bool (p0.fDrops != p1.fDrops)))], [], []⟩ ?_
  refine Wp.cond2 (b := p0.fDrops != p1.fDrops) kr (fun hc => ?_) (fun hc => ?_)
  · have h := cond_t h hc
    refine Wp.srg [] [] ?_
    refine Runs.alln ?_
    refine Wp.fg ⟨[(4, .t (.bool false))], [], []⟩ ?_
    refine Wp.ret ?_
    refine thenR ?_
    obtain rfl := Option.some.inj h
    exact RetK [.t (.bool false)] _ [] kr kr (.refl _) .nil
  have h := cond_f h hc
  refine Wp.skip (thenN ?_)
  refine Wp.srg [] [] ?_
  refine Runs.alln ?_
  refine Wp.fg ⟨[(4, .t (.bool true))], [], []⟩ ?_
  refine Wp.ret ?_
  obtain rfl := Option.some.inj h
  exact RetK [.t (.bool true)] _ [] kr kr (.refl _) .nil
theorem laws_eqNodeS_ok (u : Nat) (p0 : List Node) (p1 : List Node) (r : Bool) (h : laws_eqNodeS u p0 p1 = some r) : CallOK Tryz.prog 47 [.one (.t (.sl 12 (p0.map Node.enc))), .one (.t (.sl 12 (p1.map Node.enc)))] (.one (.t (.bool r))) [] := by
  unfold laws_eqNodeS at h
  refine CallOK.of_bodyK (fn := Tryz.f47) (m := false) [.t (.sl 12 (p0.map Node.enc)), .t (.sl 12 (p1.map Node.enc))] kr rfl kr kr kr kr kr ?_
  refine Wp.srg [] [] ?_
  refine Runs.alln ?_
  refine Wp.fg ⟨[(0, .t (.sl 12 (p0.map Node.enc))), (1, .t (.sl 12 (p1.map Node.enc))), (4, .t (.bool false))], [], []⟩ ?_
  refine Wp.seq ?_
  refine Wp.srg [] [] ?_
  refine Runs.batch 1 kr ?_
  refine Runs.lenT (y := .t (.sl 12 (p0.map Node.enc))) (e := 92) Node.enc p0 12 rfl rfl rfl kr kr kr kr kr ?_
  refine Runs.batch 1 kr ?_
  refine Runs.lenT (y := .t (.sl 12 (p1.map Node.enc))) (e := 92) Node.enc p1 12 rfl rfl rfl kr kr kr kr kr ?_
  refine Runs.alln ?_
  refine Wp.fg ⟨[(0, .t (.sl 12 (p0.map Node.enc))), (1, .t (.sl 12 (p1.map Node.enc))), (4, .t (.bool false)), (10, .t (.bool (((p0.length : Int)) != ((p1.length : Int)))))], [], []⟩ ?_
  refine Wp.cond2 (b := ((p0.length : Int)) != ((p1.length : Int))) kr (fun hc => ?_) (fun hc => ?_)
  · have h := cond_t h hc
    refine Wp.srg [] [] ?_
    refine Runs.alln ?_
    refine Wp.fg ⟨[(0, .t (.sl 12 (p0.map Node.enc))), (1, .t (.sl 12 (p1.map Node.enc))), (4, .t (.bool false))], [], []⟩ ?_
    refine Wp.ret ?_
    refine thenR ?_
    obtain rfl := Option.some.inj h
    exact RetK [.t (.bool false)] _ [] kr kr (.refl _) .nil
  have h := cond_f h hc
  refine Wp.skip (thenN ?_)
  refine Wp.seqJ (α := Unit) (fun a => ⟨[(4, .t (.bool false))], [], []⟩) (fun a => laws_eqNodeS_j1 u = some r) ?_ ?_
  · rintro ⟨⟩ h
    change laws_eqNodeS_j1 u = some r at h
    unfold laws_eqNodeS_j1 at h
    refine Wp.srg [] [] ?_
    refine Runs.alln ?_
    refine Wp.fg ⟨[(4, .t (.bool true))], [], []⟩ ?_
    refine Wp.ret ?_
    obtain rfl := Option.some.inj h
    exact RetK [.t (.bool true)] _ [] kr kr (.refl _) .nil
  · refine Wp.srg [] [] ?_
    refine Runs.alln ?_
    refine Wp.fg ⟨[(0, .t (.sl 12 (p0.map Node.enc))), (1, .t (.sl 12 (p1.map Node.enc))), (4, .t (.bool false)), (5, .t (.int .i64 0))], [], []⟩ ?_
    refine Wp.block ?_
    refine Wp.loopF (α := (List Node) × (List Node) × Int) (fun a => ⟨[(0, .t (.sl 12 (a.1.map Node.enc))), (1, .t (.sl 12 (a.2.1.map Node.enc))), (4, .t (.bool false)), (5, .t (.int .i64 a.2.2))], [], []⟩) (fun k_laws_eqNodeS_l2 a => laws_eqNodeS_l2 u k_laws_eqNodeS_l2 a.1 a.2.1 a.2.2 = some r) ?_ ?_ u (p0, p1, 0) h (Le.of (mo := []) (mr := []) kr kr kr kr)
    · intro a h; unfold laws_eqNodeS_l2 at h; cases h
    · rintro k_laws_eqNodeS_l2 ⟨p0, p1, x2⟩ h
      change laws_eqNodeS_l2 u (k_laws_eqNodeS_l2 + 1) p0 p1 x2 = some r at h
      rw [laws_eqNodeS_l2] at h
      refine Wp.seq ?_
      refine Wp.srg [] [] ?_
      refine Runs.batch 2 kr ?_
      refine Runs.lenT (y := .t (.sl 12 (p0.map Node.enc))) (e := 92) Node.enc p0 12 rfl rfl rfl kr kr kr kr kr ?_
      refine Runs.alln ?_
      refine Wp.fg ⟨[(0, .t (.sl 12 (p0.map Node.enc))), (1, .t (.sl 12 (p1.map Node.enc))), (4, .t (.bool false)), (5, .t (.int .i64 x2)), (14, .t (.bool (decide (x2 < ((p0.length : Int))))))], [], []⟩ ?_
      refine Wp.cond2 (b := decide (x2 < ((p0.length : Int)))) kr (fun hc => ?_) (fun hc => ?_)
      · have h := cond_t h hc
        refine Wp.skip (thenN ?_)
        refine Wp.seq ?_
        refine Wp.block ?_
        refine Wp.seq ?_
        refine Wp.regionA (pOf []) (rhoOf [(0, .frz), (1, .frz), (5, .frz), (17, .frz), (18, .frz), (19, .frz), (20, .frz), (21, .frz), (22, .frz), (23, .frz), (24, .frz), (25, .frz)]) kr kr ?_
        refine Runs.batch 2 kr ?_
        obtain ⟨y4, e_y4, h⟩ := bind_some h
        refine Runs.idxT (e := 92) (kk := .i64) (sz := 12) Node.enc p0 x2 rfl kr kr kr kr kr kr e_y4 ?_
        refine Runs.batch 3 kr ?_
        obtain ⟨y5, e_y5, h⟩ := bind_some h
        refine Runs.idxT (e := 92) (kk := .i64) (sz := 12) Node.enc p1 x2 rfl kr kr kr kr kr kr e_y5 ?_
        refine Runs.batch 1 kr ?_
        obtain ⟨r6, e_r6, h⟩ := bind_some h
        refine Runs.callK false 25 79 [] [.agg ((Node.enc y4).map .t), .agg ((Node.enc y5).map .t)] _ _ _ rfl rfl kr kr kr kr kr (laws_eqNode_ok u y4 y5 r6 e_r6) kr ?_
        refine Runs.alln ?_
        refine Wp.fg ⟨[(0, .t (.sl 12 (p0.map Node.enc))), (1, .t (.sl 12 (p1.map Node.enc))), (4, .t (.bool false)), (5, .t (.int .i64 x2)), (26, .t (.bool (!r6)))], [], []⟩ ?_
        refine Wp.cond2 (b := !r6) kr (fun hc => ?_) (fun hc => ?_)
        · have h := cond_t h hc
          refine Wp.srg [] [] ?_
          refine Runs.alln ?_
          refine Wp.fg ⟨[(0, .t (.sl 12 (p0.map Node.enc))), (1, .t (.sl 12 (p1.map Node.enc))), (4, .t (.bool false)), (5, .t (.int .i64 x2))], [], []⟩ ?_
          refine Wp.ret ?_
          refine blkR ?_
          refine thenR ?_
          refine thenR ?_
          refine blkR ?_
          refine thenR ?_
          obtain rfl := Option.some.inj h
          exact RetK [.t (.bool false)] _ [] kr kr (.refl _) .nil
        have h := cond_f h hc
        refine Wp.skip ?_
        refine blkN ?_
        refine thenN ?_
        refine Wp.rg [] [] ?_
        refine Runs.alln ?_
        exact ⟨(p0, p1, bAdd .i64 x2 1), h, Le.of (mo := []) (mr := []) kr kr kr kr⟩
      have h := cond_f h hc
      refine Wp.exit ?_
      refine thenE ?_
      refine thenE ?_
      refine blkE ?_
      refine thenN ?_
      exact ⟨(), h, Le.of (mo := []) (mr := []) kr kr kr kr⟩
theorem laws_eqRecord_ok (u : Nat) (p0 : Record) (p1 : Record) (r : Bool) (h : laws_eqRecord u p0 p1 = some r) : CallOK Tryz.prog 122 [.agg [.t (.int .i64 p0.fGen), .t (.int .i64 p0.fSlot), .t (.int .i64 p0.fLen)], .agg [.t (.int .i64 p1.fGen), .t (.int .i64 p1.fSlot), .t (.int .i64 p1.fLen)]] (.one (.t (.bool r))) [] := by
  unfold laws_eqRecord at h
  refine CallOK.of_bodyK (fn := Tryz.f122) (m := false) [.agg ((Record.enc p0).map .t), .agg ((Record.enc p1).map .t)] kr rfl kr kr kr kr kr ?_
  refine Wp.srg [] [] ?_
  refine Runs.alln ?_
  refine Wp.fg ⟨[(2, .obj 2 0), (3, .obj 3 0), (4, .t (.bool false))], [(2, ((Record.enc p0).map .t)), (3, ((Record.enc p1).map .t))], []⟩ ?_
  refine Wp.seq ?_
  refine Wp.srg [] [] ?_
  refine Runs.alln ?_
  refine Wp.fg ⟨[(2, .obj 2 0), (3, .obj 3 0), (4, .t (.bool false)), (9, .t (.bool (p0.fGen != p1.fGen)))], [(2, ((Record.enc p0).map .t)), (3, ((Record.enc p1).map .t))], []⟩ ?_
  refine Wp.cond2 (b := p0.fGen != p1.fGen) kr (fun hc => ?_) (fun hc => ?_)
  · have h := cond_t h hc
    refine Wp.srg [] [] ?_
    refine Runs.alln ?_
    refine Wp.fg ⟨[(2, .obj 2 0), (3, .obj 3 0), (4, .t (.bool false))], [(2, ((Record.enc p0).map .t)), (3, ((Record.enc p1).map .t))], []⟩ ?_
    refine Wp.ret ?_
    refine thenR ?_
    obtain rfl := Option.some.inj h
    exact RetK [.t (.bool false)] _ [] kr kr (.refl _) .nil
  have h := cond_f h hc
  refine Wp.skip (thenN ?_)
  refine Wp.seq ?_
  refine Wp.srg [] [] ?_
  refine Runs.alln ?_
  refine Wp.fg ⟨[(2, .obj 2 0), (3, .obj 3 0), (4, .t (.bool false)), (14, .t (.bool (p0.fSlot != p1.fSlot)))], [(2, ((Record.enc p0).map .t)), (3, ((Record.enc p1).map .t))], []⟩ ?_
  refine Wp.cond2 (b := p0.fSlot != p1.fSlot) kr (fun hc => ?_) (fun hc => ?_)
  · have h := cond_t h hc
    refine Wp.srg [] [] ?_
    refine Runs.alln ?_
    refine Wp.fg ⟨[(2, .obj 2 0), (3, .obj 3 0), (4, .t (.bool false))], [(2, ((Record.enc p0).map .t)), (3, ((Record.enc p1).map .t))], []⟩ ?_
    refine Wp.ret ?_
    refine thenR ?_
    obtain rfl := Option.some.inj h
    exact RetK [.t (.bool false)] _ [] kr kr (.refl _) .nil
  have h := cond_f h hc
  refine Wp.skip (thenN ?_)
  refine Wp.seq ?_
  refine Wp.srg [] [] ?_
  refine Runs.alln ?_
  refine Wp.fg ⟨[(4, .t (.bool false)), (19, .t (.bool (p0.fLen != p1.fLen)))], [], []⟩ ?_
  refine Wp.cond2 (b := p0.fLen != p1.fLen) kr (fun hc => ?_) (fun hc => ?_)
  · have h := cond_t h hc
    refine Wp.srg [] [] ?_
    refine Runs.alln ?_
    refine Wp.fg ⟨[(4, .t (.bool false))], [], []⟩ ?_
    refine Wp.ret ?_
    refine thenR ?_
    obtain rfl := Option.some.inj h
    exact RetK [.t (.bool false)] _ [] kr kr (.refl _) .nil
  have h := cond_f h hc
  refine Wp.skip (thenN ?_)
  refine Wp.srg [] [] ?_
  refine Runs.alln ?_
  refine Wp.fg ⟨[(4, .t (.bool true))], [], []⟩ ?_
  refine Wp.ret ?_
  obtain rfl := Option.some.inj h
  exact RetK [.t (.bool true)] _ [] kr kr (.refl _) .nil
theorem laws_eqPut_ok (u : Nat) (p0 : Put) (p1 : Put) (r : Bool) (h : laws_eqPut u p0 p1 = some r) : CallOK Tryz.prog 165 [.agg [.t (.int .i64 p0.fWhat), .t (.int .i64 p0.fAt), .t (.sl 1 (p0.fB.map (eInt .u8))), .t (.int .i64 p0.fR.fGen), .t (.int .i64 p0.fR.fSlot), .t (.int .i64 p0.fR.fLen)], .agg [.t (.int .i64 p1.fWhat), .t (.int .i64 p1.fAt), .t (.sl 1 (p1.fB.map (eInt .u8))), .t (.int .i64 p1.fR.fGen), .t (.int .i64 p1.fR.fSlot), .t (.int .i64 p1.fR.fLen)]] (.one (.t (.bool r))) [] := by
  unfold laws_eqPut at h
  refine CallOK.of_bodyK (fn := Tryz.f165) (m := false) [.agg ((Put.enc p0).map .t), .agg ((Put.enc p1).map .t)] kr rfl kr kr kr kr kr ?_
  refine Wp.srg [] [] ?_
  refine Runs.alln ?_
  refine Wp.fg ⟨[(2, .obj 2 0), (3, .obj 3 0), (4, .t (.bool false))], [(2, ((Put.enc p0).map .t)), (3, ((Put.enc p1).map .t))], []⟩ ?_
  refine Wp.seq ?_
  refine Wp.srg [] [] ?_
  refine Runs.alln ?_
  refine Wp.fg ⟨[(2, .obj 2 0), (3, .obj 3 0), (4, .t (.bool false)), (9, .t (.bool (p0.fWhat != p1.fWhat)))], [(2, ((Put.enc p0).map .t)), (3, ((Put.enc p1).map .t))], []⟩ ?_
  refine Wp.cond2 (b := p0.fWhat != p1.fWhat) kr (fun hc => ?_) (fun hc => ?_)
  · have h := cond_t h hc
    refine Wp.srg [] [] ?_
    refine Runs.alln ?_
    refine Wp.fg ⟨[(2, .obj 2 0), (3, .obj 3 0), (4, .t (.bool false))], [(2, ((Put.enc p0).map .t)), (3, ((Put.enc p1).map .t))], []⟩ ?_
    refine Wp.ret ?_
    refine thenR ?_
    obtain rfl := Option.some.inj h
    exact RetK [.t (.bool false)] _ [] kr kr (.refl _) .nil
  have h := cond_f h hc
  refine Wp.skip (thenN ?_)
  refine Wp.seq ?_
  refine Wp.srg [] [] ?_
  refine Runs.alln ?_
  refine Wp.fg ⟨[(2, .obj 2 0), (3, .obj 3 0), (4, .t (.bool false)), (14, .t (.bool (p0.fAt != p1.fAt)))], [(2, ((Put.enc p0).map .t)), (3, ((Put.enc p1).map .t))], []⟩ ?_
  refine Wp.cond2 (b := p0.fAt != p1.fAt) kr (fun hc => ?_) (fun hc => ?_)
  · have h := cond_t h hc
    refine Wp.srg [] [] ?_
    refine Runs.alln ?_
    refine Wp.fg ⟨[(2, .obj 2 0), (3, .obj 3 0), (4, .t (.bool false))], [(2, ((Put.enc p0).map .t)), (3, ((Put.enc p1).map .t))], []⟩ ?_
    refine Wp.ret ?_
    refine thenR ?_
    obtain rfl := Option.some.inj h
    exact RetK [.t (.bool false)] _ [] kr kr (.refl _) .nil
  have h := cond_f h hc
  refine Wp.skip (thenN ?_)
  refine Wp.seq ?_
  refine Wp.srg [] [] ?_
  refine Runs.batch 4 kr ?_
  obtain ⟨r1, e_r1, h⟩ := bind_some h
  refine Runs.callK false 19 12 [] [.t (.sl 1 (p0.fB.map (eInt .u8))), .t (.sl 1 (p1.fB.map (eInt .u8)))] _ _ _ rfl rfl kr kr kr kr kr (laws_eqByteS_ok u p0.fB p1.fB r1 e_r1) kr ?_
  refine Runs.alln ?_
  refine Wp.fg ⟨[(2, .obj 2 0), (3, .obj 3 0), (4, .t (.bool false)), (20, .t (.bool (!r1)))], [(2, ((Put.enc p0).map .t)), (3, ((Put.enc p1).map .t))], []⟩ ?_
  refine Wp.cond2 (b := !r1) kr (fun hc => ?_) (fun hc => ?_)
  · have h := cond_t h hc
    refine Wp.srg [] [] ?_
    refine Runs.alln ?_
    refine Wp.fg ⟨[(2, .obj 2 0), (3, .obj 3 0), (4, .t (.bool false))], [(2, ((Put.enc p0).map .t)), (3, ((Put.enc p1).map .t))], []⟩ ?_
    refine Wp.ret ?_
    refine thenR ?_
    obtain rfl := Option.some.inj h
    exact RetK [.t (.bool false)] _ [] kr kr (.refl _) .nil
  have h := cond_f h hc
  refine Wp.skip (thenN ?_)
  refine Wp.seq ?_
  refine Wp.srg [] [] ?_
  refine Runs.batch 4 kr ?_
  obtain ⟨r2, e_r2, h⟩ := bind_some h
  refine Runs.callK false 25 122 [] [.agg ((Record.enc p0.fR).map .t), .agg ((Record.enc p1.fR).map .t)] _ _ _ rfl rfl kr kr kr kr kr (laws_eqRecord_ok u p0.fR p1.fR r2 e_r2) kr ?_
  refine Runs.alln ?_
  refine Wp.fg ⟨[(4, .t (.bool false)), (26, .t (.bool (!r2)))], [], []⟩ ?_
  refine Wp.cond2 (b := !r2) kr (fun hc => ?_) (fun hc => ?_)
  · have h := cond_t h hc
    refine Wp.srg [] [] ?_
    refine Runs.alln ?_
    refine Wp.fg ⟨[(4, .t (.bool false))], [], []⟩ ?_
    refine Wp.ret ?_
    refine thenR ?_
    obtain rfl := Option.some.inj h
    exact RetK [.t (.bool false)] _ [] kr kr (.refl _) .nil
  have h := cond_f h hc
  refine Wp.skip (thenN ?_)
  refine Wp.srg [] [] ?_
  refine Runs.alln ?_
  refine Wp.fg ⟨[(4, .t (.bool true))], [], []⟩ ?_
  refine Wp.ret ?_
  obtain rfl := Option.some.inj h
  exact RetK [.t (.bool true)] _ [] kr kr (.refl _) .nil
theorem laws_eqPutS_ok (u : Nat) (p0 : List Put) (p1 : List Put) (r : Bool) (h : laws_eqPutS u p0 p1 = some r) : CallOK Tryz.prog 123 [.one (.t (.sl 6 (p0.map Put.enc))), .one (.t (.sl 6 (p1.map Put.enc)))] (.one (.t (.bool r))) [] := by
  unfold laws_eqPutS at h
  refine CallOK.of_bodyK (fn := Tryz.f123) (m := false) [.t (.sl 6 (p0.map Put.enc)), .t (.sl 6 (p1.map Put.enc))] kr rfl kr kr kr kr kr ?_
  refine Wp.srg [] [] ?_
  refine Runs.alln ?_
  refine Wp.fg ⟨[(0, .t (.sl 6 (p0.map Put.enc))), (1, .t (.sl 6 (p1.map Put.enc))), (4, .t (.bool false))], [], []⟩ ?_
  refine Wp.seq ?_
  refine Wp.srg [] [] ?_
  refine Runs.batch 1 kr ?_
  refine Runs.lenT (y := .t (.sl 6 (p0.map Put.enc))) (e := 204) Put.enc p0 6 rfl rfl rfl kr kr kr kr kr ?_
  refine Runs.batch 1 kr ?_
  refine Runs.lenT (y := .t (.sl 6 (p1.map Put.enc))) (e := 204) Put.enc p1 6 rfl rfl rfl kr kr kr kr kr ?_
  refine Runs.alln ?_
  refine Wp.fg ⟨[(0, .t (.sl 6 (p0.map Put.enc))), (1, .t (.sl 6 (p1.map Put.enc))), (4, .t (.bool false)), (10, .t (.bool (((p0.length : Int)) != ((p1.length : Int)))))], [], []⟩ ?_
  refine Wp.cond2 (b := ((p0.length : Int)) != ((p1.length : Int))) kr (fun hc => ?_) (fun hc => ?_)
  · have h := cond_t h hc
    refine Wp.srg [] [] ?_
    refine Runs.alln ?_
    refine Wp.fg ⟨[(0, .t (.sl 6 (p0.map Put.enc))), (1, .t (.sl 6 (p1.map Put.enc))), (4, .t (.bool false))], [], []⟩ ?_
    refine Wp.ret ?_
    refine thenR ?_
    obtain rfl := Option.some.inj h
    exact RetK [.t (.bool false)] _ [] kr kr (.refl _) .nil
  have h := cond_f h hc
  refine Wp.skip (thenN ?_)
  refine Wp.seqJ (α := Unit) (fun a => ⟨[(4, .t (.bool false))], [], []⟩) (fun a => laws_eqPutS_j1 u = some r) ?_ ?_
  · rintro ⟨⟩ h
    change laws_eqPutS_j1 u = some r at h
    unfold laws_eqPutS_j1 at h
    refine Wp.srg [] [] ?_
    refine Runs.alln ?_
    refine Wp.fg ⟨[(4, .t (.bool true))], [], []⟩ ?_
    refine Wp.ret ?_
    obtain rfl := Option.some.inj h
    exact RetK [.t (.bool true)] _ [] kr kr (.refl _) .nil
  · refine Wp.srg [] [] ?_
    refine Runs.alln ?_
    refine Wp.fg ⟨[(0, .t (.sl 6 (p0.map Put.enc))), (1, .t (.sl 6 (p1.map Put.enc))), (4, .t (.bool false)), (5, .t (.int .i64 0))], [], []⟩ ?_
    refine Wp.block ?_
    refine Wp.loopF (α := (List Put) × (List Put) × Int) (fun a => ⟨[(0, .t (.sl 6 (a.1.map Put.enc))), (1, .t (.sl 6 (a.2.1.map Put.enc))), (4, .t (.bool false)), (5, .t (.int .i64 a.2.2))], [], []⟩) (fun k_laws_eqPutS_l2 a => laws_eqPutS_l2 u k_laws_eqPutS_l2 a.1 a.2.1 a.2.2 = some r) ?_ ?_ u (p0, p1, 0) h (Le.of (mo := []) (mr := []) kr kr kr kr)
    · intro a h; unfold laws_eqPutS_l2 at h; cases h
    · rintro k_laws_eqPutS_l2 ⟨p0, p1, x2⟩ h
      change laws_eqPutS_l2 u (k_laws_eqPutS_l2 + 1) p0 p1 x2 = some r at h
      rw [laws_eqPutS_l2] at h
      refine Wp.seq ?_
      refine Wp.srg [] [] ?_
      refine Runs.batch 2 kr ?_
      refine Runs.lenT (y := .t (.sl 6 (p0.map Put.enc))) (e := 204) Put.enc p0 6 rfl rfl rfl kr kr kr kr kr ?_
      refine Runs.alln ?_
      refine Wp.fg ⟨[(0, .t (.sl 6 (p0.map Put.enc))), (1, .t (.sl 6 (p1.map Put.enc))), (4, .t (.bool false)), (5, .t (.int .i64 x2)), (14, .t (.bool (decide (x2 < ((p0.length : Int))))))], [], []⟩ ?_
      refine Wp.cond2 (b := decide (x2 < ((p0.length : Int)))) kr (fun hc => ?_) (fun hc => ?_)
      · have h := cond_t h hc
        refine Wp.skip (thenN ?_)
        refine Wp.seq ?_
        refine Wp.block ?_
        refine Wp.seq ?_
        refine Wp.regionA (pOf []) (rhoOf [(0, .frz), (1, .frz), (5, .frz), (17, .frz), (18, .frz), (19, .frz), (20, .frz), (21, .frz), (22, .frz), (23, .frz), (24, .frz), (25, .frz)]) kr kr ?_
        refine Runs.batch 2 kr ?_
        obtain ⟨y4, e_y4, h⟩ := bind_some h
        refine Runs.idxT (e := 204) (kk := .i64) (sz := 6) Put.enc p0 x2 rfl kr kr kr kr kr kr e_y4 ?_
        refine Runs.batch 3 kr ?_
        obtain ⟨y5, e_y5, h⟩ := bind_some h
        refine Runs.idxT (e := 204) (kk := .i64) (sz := 6) Put.enc p1 x2 rfl kr kr kr kr kr kr e_y5 ?_
        refine Runs.batch 1 kr ?_
        obtain ⟨r6, e_r6, h⟩ := bind_some h
        refine Runs.callK false 25 165 [] [.agg ((Put.enc y4).map .t), .agg ((Put.enc y5).map .t)] _ _ _ rfl rfl kr kr kr kr kr (laws_eqPut_ok u y4 y5 r6 e_r6) kr ?_
        refine Runs.alln ?_
        refine Wp.fg ⟨[(0, .t (.sl 6 (p0.map Put.enc))), (1, .t (.sl 6 (p1.map Put.enc))), (4, .t (.bool false)), (5, .t (.int .i64 x2)), (26, .t (.bool (!r6)))], [], []⟩ ?_
        refine Wp.cond2 (b := !r6) kr (fun hc => ?_) (fun hc => ?_)
        · have h := cond_t h hc
          refine Wp.srg [] [] ?_
          refine Runs.alln ?_
          refine Wp.fg ⟨[(0, .t (.sl 6 (p0.map Put.enc))), (1, .t (.sl 6 (p1.map Put.enc))), (4, .t (.bool false)), (5, .t (.int .i64 x2))], [], []⟩ ?_
          refine Wp.ret ?_
          refine blkR ?_
          refine thenR ?_
          refine thenR ?_
          refine blkR ?_
          refine thenR ?_
          obtain rfl := Option.some.inj h
          exact RetK [.t (.bool false)] _ [] kr kr (.refl _) .nil
        have h := cond_f h hc
        refine Wp.skip ?_
        refine blkN ?_
        refine thenN ?_
        refine Wp.rg [] [] ?_
        refine Runs.alln ?_
        exact ⟨(p0, p1, bAdd .i64 x2 1), h, Le.of (mo := []) (mr := []) kr kr kr kr⟩
      have h := cond_f h hc
      refine Wp.exit ?_
      refine thenE ?_
      refine thenE ?_
      refine blkE ?_
      refine thenN ?_
      exact ⟨(), h, Le.of (mo := []) (mr := []) kr kr kr kr⟩
theorem laws_eqDisk_ok (u : Nat) (p0 : Disk) (p1 : Disk) (r : Bool) (h : laws_eqDisk u p0 p1 = some r) : CallOK Tryz.prog 80 [.agg [.t (.sl 1 (p0.fA.map (eInt .u8))), .t (.sl 1 (p0.fB.map (eInt .u8))), .t (.int .i64 p0.fR.fGen), .t (.int .i64 p0.fR.fSlot), .t (.int .i64 p0.fR.fLen), .t (.sl 6 (p0.fP.map Put.enc))], .agg [.t (.sl 1 (p1.fA.map (eInt .u8))), .t (.sl 1 (p1.fB.map (eInt .u8))), .t (.int .i64 p1.fR.fGen), .t (.int .i64 p1.fR.fSlot), .t (.int .i64 p1.fR.fLen), .t (.sl 6 (p1.fP.map Put.enc))]] (.one (.t (.bool r))) [] := by
  unfold laws_eqDisk at h
  refine CallOK.of_bodyK (fn := Tryz.f80) (m := false) [.agg ((Disk.enc p0).map .t), .agg ((Disk.enc p1).map .t)] kr rfl kr kr kr kr kr ?_
  refine Wp.srg [] [] ?_
  refine Runs.alln ?_
  refine Wp.fg ⟨[(2, .obj 2 0), (3, .obj 3 0), (4, .t (.bool false))], [(2, ((Disk.enc p0).map .t)), (3, ((Disk.enc p1).map .t))], []⟩ ?_
  refine Wp.seq ?_
  refine Wp.srg [] [] ?_
  refine Runs.batch 4 kr ?_
  obtain ⟨r1, e_r1, h⟩ := bind_some h
  refine Runs.callK false 9 12 [] [.t (.sl 1 (p0.fA.map (eInt .u8))), .t (.sl 1 (p1.fA.map (eInt .u8)))] _ _ _ rfl rfl kr kr kr kr kr (laws_eqByteS_ok u p0.fA p1.fA r1 e_r1) kr ?_
  refine Runs.alln ?_
  refine Wp.fg ⟨[(2, .obj 2 0), (3, .obj 3 0), (4, .t (.bool false)), (10, .t (.bool (!r1)))], [(2, ((Disk.enc p0).map .t)), (3, ((Disk.enc p1).map .t))], []⟩ ?_
  refine Wp.cond2 (b := !r1) kr (fun hc => ?_) (fun hc => ?_)
  · have h := cond_t h hc
    refine Wp.srg [] [] ?_
    refine Runs.alln ?_
    refine Wp.fg ⟨[(2, .obj 2 0), (3, .obj 3 0), (4, .t (.bool false))], [(2, ((Disk.enc p0).map .t)), (3, ((Disk.enc p1).map .t))], []⟩ ?_
    refine Wp.ret ?_
    refine thenR ?_
    obtain rfl := Option.some.inj h
    exact RetK [.t (.bool false)] _ [] kr kr (.refl _) .nil
  have h := cond_f h hc
  refine Wp.skip (thenN ?_)
  refine Wp.seq ?_
  refine Wp.srg [] [] ?_
  refine Runs.batch 4 kr ?_
  obtain ⟨r2, e_r2, h⟩ := bind_some h
  refine Runs.callK false 15 12 [] [.t (.sl 1 (p0.fB.map (eInt .u8))), .t (.sl 1 (p1.fB.map (eInt .u8)))] _ _ _ rfl rfl kr kr kr kr kr (laws_eqByteS_ok u p0.fB p1.fB r2 e_r2) kr ?_
  refine Runs.alln ?_
  refine Wp.fg ⟨[(2, .obj 2 0), (3, .obj 3 0), (4, .t (.bool false)), (16, .t (.bool (!r2)))], [(2, ((Disk.enc p0).map .t)), (3, ((Disk.enc p1).map .t))], []⟩ ?_
  refine Wp.cond2 (b := !r2) kr (fun hc => ?_) (fun hc => ?_)
  · have h := cond_t h hc
    refine Wp.srg [] [] ?_
    refine Runs.alln ?_
    refine Wp.fg ⟨[(2, .obj 2 0), (3, .obj 3 0), (4, .t (.bool false))], [(2, ((Disk.enc p0).map .t)), (3, ((Disk.enc p1).map .t))], []⟩ ?_
    refine Wp.ret ?_
    refine thenR ?_
    obtain rfl := Option.some.inj h
    exact RetK [.t (.bool false)] _ [] kr kr (.refl _) .nil
  have h := cond_f h hc
  refine Wp.skip (thenN ?_)
  refine Wp.seq ?_
  refine Wp.srg [] [] ?_
  refine Runs.batch 4 kr ?_
  obtain ⟨r3, e_r3, h⟩ := bind_some h
  refine Runs.callK false 21 122 [] [.agg ((Record.enc p0.fR).map .t), .agg ((Record.enc p1.fR).map .t)] _ _ _ rfl rfl kr kr kr kr kr (laws_eqRecord_ok u p0.fR p1.fR r3 e_r3) kr ?_
  refine Runs.alln ?_
  refine Wp.fg ⟨[(2, .obj 2 0), (3, .obj 3 0), (4, .t (.bool false)), (22, .t (.bool (!r3)))], [(2, ((Disk.enc p0).map .t)), (3, ((Disk.enc p1).map .t))], []⟩ ?_
  refine Wp.cond2 (b := !r3) kr (fun hc => ?_) (fun hc => ?_)
  · have h := cond_t h hc
    refine Wp.srg [] [] ?_
    refine Runs.alln ?_
    refine Wp.fg ⟨[(2, .obj 2 0), (3, .obj 3 0), (4, .t (.bool false))], [(2, ((Disk.enc p0).map .t)), (3, ((Disk.enc p1).map .t))], []⟩ ?_
    refine Wp.ret ?_
    refine thenR ?_
    obtain rfl := Option.some.inj h
    exact RetK [.t (.bool false)] _ [] kr kr (.refl _) .nil
  have h := cond_f h hc
  refine Wp.skip (thenN ?_)
  refine Wp.seq ?_
  refine Wp.srg [] [] ?_
  refine Runs.batch 4 kr ?_
  obtain ⟨r4, e_r4, h⟩ := bind_some h
  refine Runs.callK false 27 123 [] [.t (.sl 6 (p0.fP.map Put.enc)), .t (.sl 6 (p1.fP.map Put.enc))] _ _ _ rfl rfl kr kr kr kr kr (laws_eqPutS_ok u p0.fP p1.fP r4 e_r4) kr ?_
  refine Runs.alln ?_
  refine Wp.fg ⟨[(4, .t (.bool false)), (28, .t (.bool (!r4)))], [], []⟩ ?_
  refine Wp.cond2 (b := !r4) kr (fun hc => ?_) (fun hc => ?_)
  · have h := cond_t h hc
    refine Wp.srg [] [] ?_
    refine Runs.alln ?_
    refine Wp.fg ⟨[(4, .t (.bool false))], [], []⟩ ?_
    refine Wp.ret ?_
    refine thenR ?_
    obtain rfl := Option.some.inj h
    exact RetK [.t (.bool false)] _ [] kr kr (.refl _) .nil
  have h := cond_f h hc
  refine Wp.skip (thenN ?_)
  refine Wp.srg [] [] ?_
  refine Runs.alln ?_
  refine Wp.fg ⟨[(4, .t (.bool true))], [], []⟩ ?_
  refine Wp.ret ?_
  obtain rfl := Option.some.inj h
  exact RetK [.t (.bool true)] _ [] kr kr (.refl _) .nil
theorem laws_eqDiskS_ok (u : Nat) (p0 : List Disk) (p1 : List Disk) (r : Bool) (h : laws_eqDiskS u p0 p1 = some r) : CallOK Tryz.prog 48 [.one (.t (.sl 6 (p0.map Disk.enc))), .one (.t (.sl 6 (p1.map Disk.enc)))] (.one (.t (.bool r))) [] := by
  unfold laws_eqDiskS at h
  refine CallOK.of_bodyK (fn := Tryz.f48) (m := false) [.t (.sl 6 (p0.map Disk.enc)), .t (.sl 6 (p1.map Disk.enc))] kr rfl kr kr kr kr kr ?_
  refine Wp.srg [] [] ?_
  refine Runs.alln ?_
  refine Wp.fg ⟨[(0, .t (.sl 6 (p0.map Disk.enc))), (1, .t (.sl 6 (p1.map Disk.enc))), (4, .t (.bool false))], [], []⟩ ?_
  refine Wp.seq ?_
  refine Wp.srg [] [] ?_
  refine Runs.batch 1 kr ?_
  refine Runs.lenT (y := .t (.sl 6 (p0.map Disk.enc))) (e := 124) Disk.enc p0 6 rfl rfl rfl kr kr kr kr kr ?_
  refine Runs.batch 1 kr ?_
  refine Runs.lenT (y := .t (.sl 6 (p1.map Disk.enc))) (e := 124) Disk.enc p1 6 rfl rfl rfl kr kr kr kr kr ?_
  refine Runs.alln ?_
  refine Wp.fg ⟨[(0, .t (.sl 6 (p0.map Disk.enc))), (1, .t (.sl 6 (p1.map Disk.enc))), (4, .t (.bool false)), (10, .t (.bool (((p0.length : Int)) != ((p1.length : Int)))))], [], []⟩ ?_
  refine Wp.cond2 (b := ((p0.length : Int)) != ((p1.length : Int))) kr (fun hc => ?_) (fun hc => ?_)
  · have h := cond_t h hc
    refine Wp.srg [] [] ?_
    refine Runs.alln ?_
    refine Wp.fg ⟨[(0, .t (.sl 6 (p0.map Disk.enc))), (1, .t (.sl 6 (p1.map Disk.enc))), (4, .t (.bool false))], [], []⟩ ?_
    refine Wp.ret ?_
    refine thenR ?_
    obtain rfl := Option.some.inj h
    exact RetK [.t (.bool false)] _ [] kr kr (.refl _) .nil
  have h := cond_f h hc
  refine Wp.skip (thenN ?_)
  refine Wp.seqJ (α := Unit) (fun a => ⟨[(4, .t (.bool false))], [], []⟩) (fun a => laws_eqDiskS_j1 u = some r) ?_ ?_
  · rintro ⟨⟩ h
    change laws_eqDiskS_j1 u = some r at h
    unfold laws_eqDiskS_j1 at h
    refine Wp.srg [] [] ?_
    refine Runs.alln ?_
    refine Wp.fg ⟨[(4, .t (.bool true))], [], []⟩ ?_
    refine Wp.ret ?_
    obtain rfl := Option.some.inj h
    exact RetK [.t (.bool true)] _ [] kr kr (.refl _) .nil
  · refine Wp.srg [] [] ?_
    refine Runs.alln ?_
    refine Wp.fg ⟨[(0, .t (.sl 6 (p0.map Disk.enc))), (1, .t (.sl 6 (p1.map Disk.enc))), (4, .t (.bool false)), (5, .t (.int .i64 0))], [], []⟩ ?_
    refine Wp.block ?_
    refine Wp.loopF (α := (List Disk) × (List Disk) × Int) (fun a => ⟨[(0, .t (.sl 6 (a.1.map Disk.enc))), (1, .t (.sl 6 (a.2.1.map Disk.enc))), (4, .t (.bool false)), (5, .t (.int .i64 a.2.2))], [], []⟩) (fun k_laws_eqDiskS_l2 a => laws_eqDiskS_l2 u k_laws_eqDiskS_l2 a.1 a.2.1 a.2.2 = some r) ?_ ?_ u (p0, p1, 0) h (Le.of (mo := []) (mr := []) kr kr kr kr)
    · intro a h; unfold laws_eqDiskS_l2 at h; cases h
    · rintro k_laws_eqDiskS_l2 ⟨p0, p1, x2⟩ h
      change laws_eqDiskS_l2 u (k_laws_eqDiskS_l2 + 1) p0 p1 x2 = some r at h
      rw [laws_eqDiskS_l2] at h
      refine Wp.seq ?_
      refine Wp.srg [] [] ?_
      refine Runs.batch 2 kr ?_
      refine Runs.lenT (y := .t (.sl 6 (p0.map Disk.enc))) (e := 124) Disk.enc p0 6 rfl rfl rfl kr kr kr kr kr ?_
      refine Runs.alln ?_
      refine Wp.fg ⟨[(0, .t (.sl 6 (p0.map Disk.enc))), (1, .t (.sl 6 (p1.map Disk.enc))), (4, .t (.bool false)), (5, .t (.int .i64 x2)), (14, .t (.bool (decide (x2 < ((p0.length : Int))))))], [], []⟩ ?_
      refine Wp.cond2 (b := decide (x2 < ((p0.length : Int)))) kr (fun hc => ?_) (fun hc => ?_)
      · have h := cond_t h hc
        refine Wp.skip (thenN ?_)
        refine Wp.seq ?_
        refine Wp.block ?_
        refine Wp.seq ?_
        refine Wp.regionA (pOf []) (rhoOf [(0, .frz), (1, .frz), (5, .frz), (17, .frz), (18, .frz), (19, .frz), (20, .frz), (21, .frz), (22, .frz), (23, .frz), (24, .frz), (25, .frz)]) kr kr ?_
        refine Runs.batch 2 kr ?_
        obtain ⟨y4, e_y4, h⟩ := bind_some h
        refine Runs.idxT (e := 124) (kk := .i64) (sz := 6) Disk.enc p0 x2 rfl kr kr kr kr kr kr e_y4 ?_
        refine Runs.batch 3 kr ?_
        obtain ⟨y5, e_y5, h⟩ := bind_some h
        refine Runs.idxT (e := 124) (kk := .i64) (sz := 6) Disk.enc p1 x2 rfl kr kr kr kr kr kr e_y5 ?_
        refine Runs.batch 1 kr ?_
        obtain ⟨r6, e_r6, h⟩ := bind_some h
        refine Runs.callK false 25 80 [] [.agg ((Disk.enc y4).map .t), .agg ((Disk.enc y5).map .t)] _ _ _ rfl rfl kr kr kr kr kr (laws_eqDisk_ok u y4 y5 r6 e_r6) kr ?_
        refine Runs.alln ?_
        refine Wp.fg ⟨[(0, .t (.sl 6 (p0.map Disk.enc))), (1, .t (.sl 6 (p1.map Disk.enc))), (4, .t (.bool false)), (5, .t (.int .i64 x2)), (26, .t (.bool (!r6)))], [], []⟩ ?_
        refine Wp.cond2 (b := !r6) kr (fun hc => ?_) (fun hc => ?_)
        · have h := cond_t h hc
          refine Wp.srg [] [] ?_
          refine Runs.alln ?_
          refine Wp.fg ⟨[(0, .t (.sl 6 (p0.map Disk.enc))), (1, .t (.sl 6 (p1.map Disk.enc))), (4, .t (.bool false)), (5, .t (.int .i64 x2))], [], []⟩ ?_
          refine Wp.ret ?_
          refine blkR ?_
          refine thenR ?_
          refine thenR ?_
          refine blkR ?_
          refine thenR ?_
          obtain rfl := Option.some.inj h
          exact RetK [.t (.bool false)] _ [] kr kr (.refl _) .nil
        have h := cond_f h hc
        refine Wp.skip ?_
        refine blkN ?_
        refine thenN ?_
        refine Wp.rg [] [] ?_
        refine Runs.alln ?_
        exact ⟨(p0, p1, bAdd .i64 x2 1), h, Le.of (mo := []) (mr := []) kr kr kr kr⟩
      have h := cond_f h hc
      refine Wp.exit ?_
      refine thenE ?_
      refine thenE ?_
      refine blkE ?_
      refine thenN ?_
      exact ⟨(), h, Le.of (mo := []) (mr := []) kr kr kr kr⟩
theorem laws_eqPacket_ok (u : Nat) (p0 : Packet) (p1 : Packet) (r : Bool) (h : laws_eqPacket u p0 p1 = some r) : CallOK Tryz.prog 81 [.agg [.t (.int .i64 p0.fFrom), .t (.int .i64 p0.fTo), .t (.sl 1 (p0.fB.map (eInt .u8)))], .agg [.t (.int .i64 p1.fFrom), .t (.int .i64 p1.fTo), .t (.sl 1 (p1.fB.map (eInt .u8)))]] (.one (.t (.bool r))) [] := by
  unfold laws_eqPacket at h
  refine CallOK.of_bodyK (fn := Tryz.f81) (m := false) [.agg ((Packet.enc p0).map .t), .agg ((Packet.enc p1).map .t)] kr rfl kr kr kr kr kr ?_
  refine Wp.srg [] [] ?_
  refine Runs.alln ?_
  refine Wp.fg ⟨[(2, .obj 2 0), (3, .obj 3 0), (4, .t (.bool false))], [(2, ((Packet.enc p0).map .t)), (3, ((Packet.enc p1).map .t))], []⟩ ?_
  refine Wp.seq ?_
  refine Wp.srg [] [] ?_
  refine Runs.alln ?_
  refine Wp.fg ⟨[(2, .obj 2 0), (3, .obj 3 0), (4, .t (.bool false)), (9, .t (.bool (p0.fFrom != p1.fFrom)))], [(2, ((Packet.enc p0).map .t)), (3, ((Packet.enc p1).map .t))], []⟩ ?_
  refine Wp.cond2 (b := p0.fFrom != p1.fFrom) kr (fun hc => ?_) (fun hc => ?_)
  · have h := cond_t h hc
    refine Wp.srg [] [] ?_
    refine Runs.alln ?_
    refine Wp.fg ⟨[(2, .obj 2 0), (3, .obj 3 0), (4, .t (.bool false))], [(2, ((Packet.enc p0).map .t)), (3, ((Packet.enc p1).map .t))], []⟩ ?_
    refine Wp.ret ?_
    refine thenR ?_
    obtain rfl := Option.some.inj h
    exact RetK [.t (.bool false)] _ [] kr kr (.refl _) .nil
  have h := cond_f h hc
  refine Wp.skip (thenN ?_)
  refine Wp.seq ?_
  refine Wp.srg [] [] ?_
  refine Runs.alln ?_
  refine Wp.fg ⟨[(2, .obj 2 0), (3, .obj 3 0), (4, .t (.bool false)), (14, .t (.bool (p0.fTo != p1.fTo)))], [(2, ((Packet.enc p0).map .t)), (3, ((Packet.enc p1).map .t))], []⟩ ?_
  refine Wp.cond2 (b := p0.fTo != p1.fTo) kr (fun hc => ?_) (fun hc => ?_)
  · have h := cond_t h hc
    refine Wp.srg [] [] ?_
    refine Runs.alln ?_
    refine Wp.fg ⟨[(2, .obj 2 0), (3, .obj 3 0), (4, .t (.bool false))], [(2, ((Packet.enc p0).map .t)), (3, ((Packet.enc p1).map .t))], []⟩ ?_
    refine Wp.ret ?_
    refine thenR ?_
    obtain rfl := Option.some.inj h
    exact RetK [.t (.bool false)] _ [] kr kr (.refl _) .nil
  have h := cond_f h hc
  refine Wp.skip (thenN ?_)
  refine Wp.seq ?_
  refine Wp.srg [] [] ?_
  refine Runs.batch 4 kr ?_
  obtain ⟨r1, e_r1, h⟩ := bind_some h
  refine Runs.callK false 19 12 [] [.t (.sl 1 (p0.fB.map (eInt .u8))), .t (.sl 1 (p1.fB.map (eInt .u8)))] _ _ _ rfl rfl kr kr kr kr kr (laws_eqByteS_ok u p0.fB p1.fB r1 e_r1) kr ?_
  refine Runs.alln ?_
  refine Wp.fg ⟨[(4, .t (.bool false)), (20, .t (.bool (!r1)))], [], []⟩ ?_
  refine Wp.cond2 (b := !r1) kr (fun hc => ?_) (fun hc => ?_)
  · have h := cond_t h hc
    refine Wp.srg [] [] ?_
    refine Runs.alln ?_
    refine Wp.fg ⟨[(4, .t (.bool false))], [], []⟩ ?_
    refine Wp.ret ?_
    refine thenR ?_
    obtain rfl := Option.some.inj h
    exact RetK [.t (.bool false)] _ [] kr kr (.refl _) .nil
  have h := cond_f h hc
  refine Wp.skip (thenN ?_)
  refine Wp.srg [] [] ?_
  refine Runs.alln ?_
  refine Wp.fg ⟨[(4, .t (.bool true))], [], []⟩ ?_
  refine Wp.ret ?_
  obtain rfl := Option.some.inj h
  exact RetK [.t (.bool true)] _ [] kr kr (.refl _) .nil
theorem laws_eqPacketS_ok (u : Nat) (p0 : List Packet) (p1 : List Packet) (r : Bool) (h : laws_eqPacketS u p0 p1 = some r) : CallOK Tryz.prog 49 [.one (.t (.sl 3 (p0.map Packet.enc))), .one (.t (.sl 3 (p1.map Packet.enc)))] (.one (.t (.bool r))) [] := by
  unfold laws_eqPacketS at h
  refine CallOK.of_bodyK (fn := Tryz.f49) (m := false) [.t (.sl 3 (p0.map Packet.enc)), .t (.sl 3 (p1.map Packet.enc))] kr rfl kr kr kr kr kr ?_
  refine Wp.srg [] [] ?_
  refine Runs.alln ?_
  refine Wp.fg ⟨[(0, .t (.sl 3 (p0.map Packet.enc))), (1, .t (.sl 3 (p1.map Packet.enc))), (4, .t (.bool false))], [], []⟩ ?_
  refine Wp.seq ?_
  refine Wp.srg [] [] ?_
  refine Runs.batch 1 kr ?_
  refine Runs.lenT (y := .t (.sl 3 (p0.map Packet.enc))) (e := 97) Packet.enc p0 3 rfl rfl rfl kr kr kr kr kr ?_
  refine Runs.batch 1 kr ?_
  refine Runs.lenT (y := .t (.sl 3 (p1.map Packet.enc))) (e := 97) Packet.enc p1 3 rfl rfl rfl kr kr kr kr kr ?_
  refine Runs.alln ?_
  refine Wp.fg ⟨[(0, .t (.sl 3 (p0.map Packet.enc))), (1, .t (.sl 3 (p1.map Packet.enc))), (4, .t (.bool false)), (10, .t (.bool (((p0.length : Int)) != ((p1.length : Int)))))], [], []⟩ ?_
  refine Wp.cond2 (b := ((p0.length : Int)) != ((p1.length : Int))) kr (fun hc => ?_) (fun hc => ?_)
  · have h := cond_t h hc
    refine Wp.srg [] [] ?_
    refine Runs.alln ?_
    refine Wp.fg ⟨[(0, .t (.sl 3 (p0.map Packet.enc))), (1, .t (.sl 3 (p1.map Packet.enc))), (4, .t (.bool false))], [], []⟩ ?_
    refine Wp.ret ?_
    refine thenR ?_
    obtain rfl := Option.some.inj h
    exact RetK [.t (.bool false)] _ [] kr kr (.refl _) .nil
  have h := cond_f h hc
  refine Wp.skip (thenN ?_)
  refine Wp.seqJ (α := Unit) (fun a => ⟨[(4, .t (.bool false))], [], []⟩) (fun a => laws_eqPacketS_j1 u = some r) ?_ ?_
  · rintro ⟨⟩ h
    change laws_eqPacketS_j1 u = some r at h
    unfold laws_eqPacketS_j1 at h
    refine Wp.srg [] [] ?_
    refine Runs.alln ?_
    refine Wp.fg ⟨[(4, .t (.bool true))], [], []⟩ ?_
    refine Wp.ret ?_
    obtain rfl := Option.some.inj h
    exact RetK [.t (.bool true)] _ [] kr kr (.refl _) .nil
  · refine Wp.srg [] [] ?_
    refine Runs.alln ?_
    refine Wp.fg ⟨[(0, .t (.sl 3 (p0.map Packet.enc))), (1, .t (.sl 3 (p1.map Packet.enc))), (4, .t (.bool false)), (5, .t (.int .i64 0))], [], []⟩ ?_
    refine Wp.block ?_
    refine Wp.loopF (α := (List Packet) × (List Packet) × Int) (fun a => ⟨[(0, .t (.sl 3 (a.1.map Packet.enc))), (1, .t (.sl 3 (a.2.1.map Packet.enc))), (4, .t (.bool false)), (5, .t (.int .i64 a.2.2))], [], []⟩) (fun k_laws_eqPacketS_l2 a => laws_eqPacketS_l2 u k_laws_eqPacketS_l2 a.1 a.2.1 a.2.2 = some r) ?_ ?_ u (p0, p1, 0) h (Le.of (mo := []) (mr := []) kr kr kr kr)
    · intro a h; unfold laws_eqPacketS_l2 at h; cases h
    · rintro k_laws_eqPacketS_l2 ⟨p0, p1, x2⟩ h
      change laws_eqPacketS_l2 u (k_laws_eqPacketS_l2 + 1) p0 p1 x2 = some r at h
      rw [laws_eqPacketS_l2] at h
      refine Wp.seq ?_
      refine Wp.srg [] [] ?_
      refine Runs.batch 2 kr ?_
      refine Runs.lenT (y := .t (.sl 3 (p0.map Packet.enc))) (e := 97) Packet.enc p0 3 rfl rfl rfl kr kr kr kr kr ?_
      refine Runs.alln ?_
      refine Wp.fg ⟨[(0, .t (.sl 3 (p0.map Packet.enc))), (1, .t (.sl 3 (p1.map Packet.enc))), (4, .t (.bool false)), (5, .t (.int .i64 x2)), (14, .t (.bool (decide (x2 < ((p0.length : Int))))))], [], []⟩ ?_
      refine Wp.cond2 (b := decide (x2 < ((p0.length : Int)))) kr (fun hc => ?_) (fun hc => ?_)
      · have h := cond_t h hc
        refine Wp.skip (thenN ?_)
        refine Wp.seq ?_
        refine Wp.block ?_
        refine Wp.seq ?_
        refine Wp.regionA (pOf []) (rhoOf [(0, .frz), (1, .frz), (5, .frz), (17, .frz), (18, .frz), (19, .frz), (20, .frz), (21, .frz), (22, .frz), (23, .frz), (24, .frz), (25, .frz)]) kr kr ?_
        refine Runs.batch 2 kr ?_
        obtain ⟨y4, e_y4, h⟩ := bind_some h
        refine Runs.idxT (e := 97) (kk := .i64) (sz := 3) Packet.enc p0 x2 rfl kr kr kr kr kr kr e_y4 ?_
        refine Runs.batch 3 kr ?_
        obtain ⟨y5, e_y5, h⟩ := bind_some h
        refine Runs.idxT (e := 97) (kk := .i64) (sz := 3) Packet.enc p1 x2 rfl kr kr kr kr kr kr e_y5 ?_
        refine Runs.batch 1 kr ?_
        obtain ⟨r6, e_r6, h⟩ := bind_some h
        refine Runs.callK false 25 81 [] [.agg ((Packet.enc y4).map .t), .agg ((Packet.enc y5).map .t)] _ _ _ rfl rfl kr kr kr kr kr (laws_eqPacket_ok u y4 y5 r6 e_r6) kr ?_
        refine Runs.alln ?_
        refine Wp.fg ⟨[(0, .t (.sl 3 (p0.map Packet.enc))), (1, .t (.sl 3 (p1.map Packet.enc))), (4, .t (.bool false)), (5, .t (.int .i64 x2)), (26, .t (.bool (!r6)))], [], []⟩ ?_
        refine Wp.cond2 (b := !r6) kr (fun hc => ?_) (fun hc => ?_)
        · have h := cond_t h hc
          refine Wp.srg [] [] ?_
          refine Runs.alln ?_
          refine Wp.fg ⟨[(0, .t (.sl 3 (p0.map Packet.enc))), (1, .t (.sl 3 (p1.map Packet.enc))), (4, .t (.bool false)), (5, .t (.int .i64 x2))], [], []⟩ ?_
          refine Wp.ret ?_
          refine blkR ?_
          refine thenR ?_
          refine thenR ?_
          refine blkR ?_
          refine thenR ?_
          obtain rfl := Option.some.inj h
          exact RetK [.t (.bool false)] _ [] kr kr (.refl _) .nil
        have h := cond_f h hc
        refine Wp.skip ?_
        refine blkN ?_
        refine thenN ?_
        refine Wp.rg [] [] ?_
        refine Runs.alln ?_
        exact ⟨(p0, p1, bAdd .i64 x2 1), h, Le.of (mo := []) (mr := []) kr kr kr kr⟩
      have h := cond_f h hc
      refine Wp.exit ?_
      refine thenE ?_
      refine thenE ?_
      refine blkE ?_
      refine thenN ?_
      exact ⟨(), h, Le.of (mo := []) (mr := []) kr kr kr kr⟩
theorem laws_eqSent_ok (u : Nat) (p0 : Sent) (p1 : Sent) (r : Bool) (h : laws_eqSent u p0 p1 = some r) : CallOK Tryz.prog 82 [.agg [.t (.int .i64 p0.fFrom), .t (.int .i64 p0.fTo), .t (.int .i64 p0.fI)], .agg [.t (.int .i64 p1.fFrom), .t (.int .i64 p1.fTo), .t (.int .i64 p1.fI)]] (.one (.t (.bool r))) [] := by
  unfold laws_eqSent at h
  refine CallOK.of_bodyK (fn := Tryz.f82) (m := false) [.agg ((Sent.enc p0).map .t), .agg ((Sent.enc p1).map .t)] kr rfl kr kr kr kr kr ?_
  refine Wp.srg [] [] ?_
  refine Runs.alln ?_
  refine Wp.fg ⟨[(2, .obj 2 0), (3, .obj 3 0), (4, .t (.bool false))], [(2, ((Sent.enc p0).map .t)), (3, ((Sent.enc p1).map .t))], []⟩ ?_
  refine Wp.seq ?_
  refine Wp.srg [] [] ?_
  refine Runs.alln ?_
  refine Wp.fg ⟨[(2, .obj 2 0), (3, .obj 3 0), (4, .t (.bool false)), (9, .t (.bool (p0.fFrom != p1.fFrom)))], [(2, ((Sent.enc p0).map .t)), (3, ((Sent.enc p1).map .t))], []⟩ ?_
  refine Wp.cond2 (b := p0.fFrom != p1.fFrom) kr (fun hc => ?_) (fun hc => ?_)
  · have h := cond_t h hc
    refine Wp.srg [] [] ?_
    refine Runs.alln ?_
    refine Wp.fg ⟨[(2, .obj 2 0), (3, .obj 3 0), (4, .t (.bool false))], [(2, ((Sent.enc p0).map .t)), (3, ((Sent.enc p1).map .t))], []⟩ ?_
    refine Wp.ret ?_
    refine thenR ?_
    obtain rfl := Option.some.inj h
    exact RetK [.t (.bool false)] _ [] kr kr (.refl _) .nil
  have h := cond_f h hc
  refine Wp.skip (thenN ?_)
  refine Wp.seq ?_
  refine Wp.srg [] [] ?_
  refine Runs.alln ?_
  refine Wp.fg ⟨[(2, .obj 2 0), (3, .obj 3 0), (4, .t (.bool false)), (14, .t (.bool (p0.fTo != p1.fTo)))], [(2, ((Sent.enc p0).map .t)), (3, ((Sent.enc p1).map .t))], []⟩ ?_
  refine Wp.cond2 (b := p0.fTo != p1.fTo) kr (fun hc => ?_) (fun hc => ?_)
  · have h := cond_t h hc
    refine Wp.srg [] [] ?_
    refine Runs.alln ?_
    refine Wp.fg ⟨[(2, .obj 2 0), (3, .obj 3 0), (4, .t (.bool false))], [(2, ((Sent.enc p0).map .t)), (3, ((Sent.enc p1).map .t))], []⟩ ?_
    refine Wp.ret ?_
    refine thenR ?_
    obtain rfl := Option.some.inj h
    exact RetK [.t (.bool false)] _ [] kr kr (.refl _) .nil
  have h := cond_f h hc
  refine Wp.skip (thenN ?_)
  refine Wp.seq ?_
  refine Wp.srg [] [] ?_
  refine Runs.alln ?_
  refine Wp.fg ⟨[(4, .t (.bool false)), (19, .t (.bool (p0.fI != p1.fI)))], [], []⟩ ?_
  refine Wp.cond2 (b := p0.fI != p1.fI) kr (fun hc => ?_) (fun hc => ?_)
  · have h := cond_t h hc
    refine Wp.srg [] [] ?_
    refine Runs.alln ?_
    refine Wp.fg ⟨[(4, .t (.bool false))], [], []⟩ ?_
    refine Wp.ret ?_
    refine thenR ?_
    obtain rfl := Option.some.inj h
    exact RetK [.t (.bool false)] _ [] kr kr (.refl _) .nil
  have h := cond_f h hc
  refine Wp.skip (thenN ?_)
  refine Wp.srg [] [] ?_
  refine Runs.alln ?_
  refine Wp.fg ⟨[(4, .t (.bool true))], [], []⟩ ?_
  refine Wp.ret ?_
  obtain rfl := Option.some.inj h
  exact RetK [.t (.bool true)] _ [] kr kr (.refl _) .nil
theorem laws_eqSentS_ok (u : Nat) (p0 : List Sent) (p1 : List Sent) (r : Bool) (h : laws_eqSentS u p0 p1 = some r) : CallOK Tryz.prog 50 [.one (.t (.sl 3 (p0.map Sent.enc))), .one (.t (.sl 3 (p1.map Sent.enc)))] (.one (.t (.bool r))) [] := by
  unfold laws_eqSentS at h
  refine CallOK.of_bodyK (fn := Tryz.f50) (m := false) [.t (.sl 3 (p0.map Sent.enc)), .t (.sl 3 (p1.map Sent.enc))] kr rfl kr kr kr kr kr ?_
  refine Wp.srg [] [] ?_
  refine Runs.alln ?_
  refine Wp.fg ⟨[(0, .t (.sl 3 (p0.map Sent.enc))), (1, .t (.sl 3 (p1.map Sent.enc))), (4, .t (.bool false))], [], []⟩ ?_
  refine Wp.seq ?_
  refine Wp.srg [] [] ?_
  refine Runs.batch 1 kr ?_
  refine Runs.lenT (y := .t (.sl 3 (p0.map Sent.enc))) (e := 128) Sent.enc p0 3 rfl rfl rfl kr kr kr kr kr ?_
  refine Runs.batch 1 kr ?_
  refine Runs.lenT (y := .t (.sl 3 (p1.map Sent.enc))) (e := 128) Sent.enc p1 3 rfl rfl rfl kr kr kr kr kr ?_
  refine Runs.alln ?_
  refine Wp.fg ⟨[(0, .t (.sl 3 (p0.map Sent.enc))), (1, .t (.sl 3 (p1.map Sent.enc))), (4, .t (.bool false)), (10, .t (.bool (((p0.length : Int)) != ((p1.length : Int)))))], [], []⟩ ?_
  refine Wp.cond2 (b := ((p0.length : Int)) != ((p1.length : Int))) kr (fun hc => ?_) (fun hc => ?_)
  · have h := cond_t h hc
    refine Wp.srg [] [] ?_
    refine Runs.alln ?_
    refine Wp.fg ⟨[(0, .t (.sl 3 (p0.map Sent.enc))), (1, .t (.sl 3 (p1.map Sent.enc))), (4, .t (.bool false))], [], []⟩ ?_
    refine Wp.ret ?_
    refine thenR ?_
    obtain rfl := Option.some.inj h
    exact RetK [.t (.bool false)] _ [] kr kr (.refl _) .nil
  have h := cond_f h hc
  refine Wp.skip (thenN ?_)
  refine Wp.seqJ (α := Unit) (fun a => ⟨[(4, .t (.bool false))], [], []⟩) (fun a => laws_eqSentS_j1 u = some r) ?_ ?_
  · rintro ⟨⟩ h
    change laws_eqSentS_j1 u = some r at h
    unfold laws_eqSentS_j1 at h
    refine Wp.srg [] [] ?_
    refine Runs.alln ?_
    refine Wp.fg ⟨[(4, .t (.bool true))], [], []⟩ ?_
    refine Wp.ret ?_
    obtain rfl := Option.some.inj h
    exact RetK [.t (.bool true)] _ [] kr kr (.refl _) .nil
  · refine Wp.srg [] [] ?_
    refine Runs.alln ?_
    refine Wp.fg ⟨[(0, .t (.sl 3 (p0.map Sent.enc))), (1, .t (.sl 3 (p1.map Sent.enc))), (4, .t (.bool false)), (5, .t (.int .i64 0))], [], []⟩ ?_
    refine Wp.block ?_
    refine Wp.loopF (α := (List Sent) × (List Sent) × Int) (fun a => ⟨[(0, .t (.sl 3 (a.1.map Sent.enc))), (1, .t (.sl 3 (a.2.1.map Sent.enc))), (4, .t (.bool false)), (5, .t (.int .i64 a.2.2))], [], []⟩) (fun k_laws_eqSentS_l2 a => laws_eqSentS_l2 u k_laws_eqSentS_l2 a.1 a.2.1 a.2.2 = some r) ?_ ?_ u (p0, p1, 0) h (Le.of (mo := []) (mr := []) kr kr kr kr)
    · intro a h; unfold laws_eqSentS_l2 at h; cases h
    · rintro k_laws_eqSentS_l2 ⟨p0, p1, x2⟩ h
      change laws_eqSentS_l2 u (k_laws_eqSentS_l2 + 1) p0 p1 x2 = some r at h
      rw [laws_eqSentS_l2] at h
      refine Wp.seq ?_
      refine Wp.srg [] [] ?_
      refine Runs.batch 2 kr ?_
      refine Runs.lenT (y := .t (.sl 3 (p0.map Sent.enc))) (e := 128) Sent.enc p0 3 rfl rfl rfl kr kr kr kr kr ?_
      refine Runs.alln ?_
      refine Wp.fg ⟨[(0, .t (.sl 3 (p0.map Sent.enc))), (1, .t (.sl 3 (p1.map Sent.enc))), (4, .t (.bool false)), (5, .t (.int .i64 x2)), (14, .t (.bool (decide (x2 < ((p0.length : Int))))))], [], []⟩ ?_
      refine Wp.cond2 (b := decide (x2 < ((p0.length : Int)))) kr (fun hc => ?_) (fun hc => ?_)
      · have h := cond_t h hc
        refine Wp.skip (thenN ?_)
        refine Wp.seq ?_
        refine Wp.block ?_
        refine Wp.seq ?_
        refine Wp.regionA (pOf []) (rhoOf [(0, .frz), (1, .frz), (5, .frz), (17, .frz), (18, .frz), (19, .frz), (20, .frz), (21, .frz), (22, .frz), (23, .frz), (24, .frz), (25, .frz)]) kr kr ?_
        refine Runs.batch 2 kr ?_
        obtain ⟨y4, e_y4, h⟩ := bind_some h
        refine Runs.idxT (e := 128) (kk := .i64) (sz := 3) Sent.enc p0 x2 rfl kr kr kr kr kr kr e_y4 ?_
        refine Runs.batch 3 kr ?_
        obtain ⟨y5, e_y5, h⟩ := bind_some h
        refine Runs.idxT (e := 128) (kk := .i64) (sz := 3) Sent.enc p1 x2 rfl kr kr kr kr kr kr e_y5 ?_
        refine Runs.batch 1 kr ?_
        obtain ⟨r6, e_r6, h⟩ := bind_some h
        refine Runs.callK false 25 82 [] [.agg ((Sent.enc y4).map .t), .agg ((Sent.enc y5).map .t)] _ _ _ rfl rfl kr kr kr kr kr (laws_eqSent_ok u y4 y5 r6 e_r6) kr ?_
        refine Runs.alln ?_
        refine Wp.fg ⟨[(0, .t (.sl 3 (p0.map Sent.enc))), (1, .t (.sl 3 (p1.map Sent.enc))), (4, .t (.bool false)), (5, .t (.int .i64 x2)), (26, .t (.bool (!r6)))], [], []⟩ ?_
        refine Wp.cond2 (b := !r6) kr (fun hc => ?_) (fun hc => ?_)
        · have h := cond_t h hc
          refine Wp.srg [] [] ?_
          refine Runs.alln ?_
          refine Wp.fg ⟨[(0, .t (.sl 3 (p0.map Sent.enc))), (1, .t (.sl 3 (p1.map Sent.enc))), (4, .t (.bool false)), (5, .t (.int .i64 x2))], [], []⟩ ?_
          refine Wp.ret ?_
          refine blkR ?_
          refine thenR ?_
          refine thenR ?_
          refine blkR ?_
          refine thenR ?_
          obtain rfl := Option.some.inj h
          exact RetK [.t (.bool false)] _ [] kr kr (.refl _) .nil
        have h := cond_f h hc
        refine Wp.skip ?_
        refine blkN ?_
        refine thenN ?_
        refine Wp.rg [] [] ?_
        refine Runs.alln ?_
        exact ⟨(p0, p1, bAdd .i64 x2 1), h, Le.of (mo := []) (mr := []) kr kr kr kr⟩
      have h := cond_f h hc
      refine Wp.exit ?_
      refine thenE ?_
      refine thenE ?_
      refine blkE ?_
      refine thenN ?_
      exact ⟨(), h, Le.of (mo := []) (mr := []) kr kr kr kr⟩
theorem laws_eqWorld_ok (u : Nat) (p0 : World) (p1 : World) (r : Bool) (h : laws_eqWorld u p0 p1 = some r) : CallOK Tryz.prog 18 [.agg [.t (.int .i64 p0.fC.fSize), .t (.int .i64 p0.fC.fWindow), .t (.int .i64 p0.fC.fSuspect), .t (.int .i64 p0.fC.fForget), .t (.sl 1 (p0.fT.fUp.map (eInt .i64))), .t (.sl 1 (p0.fNew.map (eInt .u8))), .t (.sl 1 (p0.fOld.map Image.enc)), .t (.sl 12 (p0.fN.map Node.enc)), .t (.sl 6 (p0.fD.map Disk.enc)), .t (.sl 3 (p0.fNet.map Packet.enc)), .t (.sl 3 (p0.fLog.map Sent.enc)), .t (.int .i64 p0.fLost)], .agg [.t (.int .i64 p1.fC.fSize), .t (.int .i64 p1.fC.fWindow), .t (.int .i64 p1.fC.fSuspect), .t (.int .i64 p1.fC.fForget), .t (.sl 1 (p1.fT.fUp.map (eInt .i64))), .t (.sl 1 (p1.fNew.map (eInt .u8))), .t (.sl 1 (p1.fOld.map Image.enc)), .t (.sl 12 (p1.fN.map Node.enc)), .t (.sl 6 (p1.fD.map Disk.enc)), .t (.sl 3 (p1.fNet.map Packet.enc)), .t (.sl 3 (p1.fLog.map Sent.enc)), .t (.int .i64 p1.fLost)]] (.one (.t (.bool r))) [] := by
  unfold laws_eqWorld at h
  refine CallOK.of_bodyK (fn := Tryz.f18) (m := false) [.agg ((World.enc p0).map .t), .agg ((World.enc p1).map .t)] kr rfl kr kr kr kr kr ?_
  refine Wp.srg [] [] ?_
  refine Runs.alln ?_
  refine Wp.fg ⟨[(2, .obj 2 0), (3, .obj 3 0), (4, .t (.bool false))], [(2, ((World.enc p0).map .t)), (3, ((World.enc p1).map .t))], []⟩ ?_
  refine Wp.seq ?_
  refine Wp.srg [] [] ?_
  refine Runs.batch 4 kr ?_
  obtain ⟨r1, e_r1, h⟩ := bind_some h
  refine Runs.callK false 9 45 [] [.agg ((Conf.enc p0.fC).map .t), .agg ((Conf.enc p1.fC).map .t)] _ _ _ rfl rfl kr kr kr kr kr (laws_eqConf_ok u p0.fC p1.fC r1 e_r1) kr ?_
  refine Runs.alln ?_
  refine Wp.fg ⟨[(2, .obj 2 0), (3, .obj 3 0), (4, .t (.bool false)), (10, .t (.bool (!r1)))], [(2, ((World.enc p0).map .t)), (3, ((World.enc p1).map .t))], []⟩ ?_
  refine Wp.cond2 (b := !r1) kr (fun hc => ?_) (fun hc => ?_)
  · have h := cond_t h hc
    refine Wp.srg [] [] ?_
    refine Runs.alln ?_
    refine Wp.fg ⟨[(2, .obj 2 0), (3, .obj 3 0), (4, .t (.bool false))], [(2, ((World.enc p0).map .t)), (3, ((World.enc p1).map .t))], []⟩ ?_
    refine Wp.ret ?_
    refine thenR ?_
    obtain rfl := Option.some.inj h
    exact RetK [.t (.bool false)] _ [] kr kr (.refl _) .nil
  have h := cond_f h hc
  refine Wp.skip (thenN ?_)
  refine Wp.seq ?_
  refine Wp.srg [] [] ?_
  refine Runs.batch 4 kr ?_
  obtain ⟨r2, e_r2, h⟩ := bind_some h
  refine Runs.callK false 15 46 [] [.agg [.t (.sl 1 (p0.fT.fUp.map (eInt .i64)))], .agg [.t (.sl 1 (p1.fT.fUp.map (eInt .i64)))]] _ _ _ rfl rfl kr kr kr kr kr (laws_eqTree_ok u p0.fT p1.fT r2 e_r2) kr ?_
  refine Runs.alln ?_
  refine Wp.fg ⟨[(2, .obj 2 0), (3, .obj 3 0), (4, .t (.bool false)), (16, .t (.bool (!r2)))], [(2, ((World.enc p0).map .t)), (3, ((World.enc p1).map .t))], []⟩ ?_
  refine Wp.cond2 (b := !r2) kr (fun hc => ?_) (fun hc => ?_)
  · have h := cond_t h hc
    refine Wp.srg [] [] ?_
    refine Runs.alln ?_
    refine Wp.fg ⟨[(2, .obj 2 0), (3, .obj 3 0), (4, .t (.bool false))], [(2, ((World.enc p0).map .t)), (3, ((World.enc p1).map .t))], []⟩ ?_
    refine Wp.ret ?_
    refine thenR ?_
    obtain rfl := Option.some.inj h
    exact RetK [.t (.bool false)] _ [] kr kr (.refl _) .nil
  have h := cond_f h hc
  refine Wp.skip (thenN ?_)
  refine Wp.seq ?_
  refine Wp.srg [] [] ?_
  refine Runs.batch 4 kr ?_
  obtain ⟨r3, e_r3, h⟩ := bind_some h
  refine Runs.callK false 21 12 [] [.t (.sl 1 (p0.fNew.map (eInt .u8))), .t (.sl 1 (p1.fNew.map (eInt .u8)))] _ _ _ rfl rfl kr kr kr kr kr (laws_eqByteS_ok u p0.fNew p1.fNew r3 e_r3) kr ?_
  refine Runs.alln ?_
  refine Wp.fg ⟨[(2, .obj 2 0), (3, .obj 3 0), (4, .t (.bool false)), (22, .t (.bool (!r3)))], [(2, ((World.enc p0).map .t)), (3, ((World.enc p1).map .t))], []⟩ ?_
  refine Wp.cond2 (b := !r3) kr (fun hc => ?_) (fun hc => ?_)
  · have h := cond_t h hc
    refine Wp.srg [] [] ?_
    refine Runs.alln ?_
    refine Wp.fg ⟨[(2, .obj 2 0), (3, .obj 3 0), (4, .t (.bool false))], [(2, ((World.enc p0).map .t)), (3, ((World.enc p1).map .t))], []⟩ ?_
    refine Wp.ret ?_
    refine thenR ?_
    obtain rfl := Option.some.inj h
    exact RetK [.t (.bool false)] _ [] kr kr (.refl _) .nil
  have h := cond_f h hc
  refine Wp.skip (thenN ?_)
  refine Wp.seq ?_
  refine Wp.srg [] [] ?_
  refine Runs.batch 4 kr ?_
  obtain ⟨r4, e_r4, h⟩ := bind_some h
  refine Runs.callK false 27 13 [] [.t (.sl 1 (p0.fOld.map Image.enc)), .t (.sl 1 (p1.fOld.map Image.enc))] _ _ _ rfl rfl kr kr kr kr kr (laws_eqImageS_ok u p0.fOld p1.fOld r4 e_r4) kr ?_
  refine Runs.alln ?_
  refine Wp.fg ⟨[(2, .obj 2 0), (3, .obj 3 0), (4, .t (.bool false)), (28, .t (.bool (!r4)))], [(2, ((World.enc p0).map .t)), (3, ((World.enc p1).map .t))], []⟩ ?_
  refine Wp.cond2 (b := !r4) kr (fun hc => ?_) (fun hc => ?_)
  · have h := cond_t h hc
    refine Wp.srg [] [] ?_
    refine Runs.alln ?_
    refine Wp.fg ⟨[(2, .obj 2 0), (3, .obj 3 0), (4, .t (.bool false))], [(2, ((World.enc p0).map .t)), (3, ((World.enc p1).map .t))], []⟩ ?_
    refine Wp.ret ?_
    refine thenR ?_
    obtain rfl := Option.some.inj h
    exact RetK [.t (.bool false)] _ [] kr kr (.refl _) .nil
  have h := cond_f h hc
  refine Wp.skip (thenN ?_)
  refine Wp.seq ?_
  refine Wp.srg [] [] ?_
  refine Runs.batch 4 kr ?_
  obtain ⟨r5, e_r5, h⟩ := bind_some h
  refine Runs.callK false 33 47 [] [.t (.sl 12 (p0.fN.map Node.enc)), .t (.sl 12 (p1.fN.map Node.enc))] _ _ _ rfl rfl kr kr kr kr kr (laws_eqNodeS_ok u p0.fN p1.fN r5 e_r5) kr ?_
  refine Runs.alln ?_
  refine Wp.fg ⟨[(2, .obj 2 0), (3, .obj 3 0), (4, .t (.bool false)), (34, .t (.bool (!r5)))], [(2, ((World.enc p0).map .t)), (3, ((World.enc p1).map .t))], []⟩ ?_
  refine Wp.cond2 (b := !r5) kr (fun hc => ?_) (fun hc => ?_)
  · have h := cond_t h hc
    refine Wp.srg [] [] ?_
    refine Runs.alln ?_
    refine Wp.fg ⟨[(2, .obj 2 0), (3, .obj 3 0), (4, .t (.bool false))], [(2, ((World.enc p0).map .t)), (3, ((World.enc p1).map .t))], []⟩ ?_
    refine Wp.ret ?_
    refine thenR ?_
    obtain rfl := Option.some.inj h
    exact RetK [.t (.bool false)] _ [] kr kr (.refl _) .nil
  have h := cond_f h hc
  refine Wp.skip (thenN ?_)
  refine Wp.seq ?_
  refine Wp.srg [] [] ?_
  refine Runs.batch 4 kr ?_
  obtain ⟨r6, e_r6, h⟩ := bind_some h
  refine Runs.callK false 39 48 [] [.t (.sl 6 (p0.fD.map Disk.enc)), .t (.sl 6 (p1.fD.map Disk.enc))] _ _ _ rfl rfl kr kr kr kr kr (laws_eqDiskS_ok u p0.fD p1.fD r6 e_r6) kr ?_
  refine Runs.alln ?_
  refine Wp.fg ⟨[(2, .obj 2 0), (3, .obj 3 0), (4, .t (.bool false)), (40, .t (.bool (!r6)))], [(2, ((World.enc p0).map .t)), (3, ((World.enc p1).map .t))], []⟩ ?_
  refine Wp.cond2 (b := !r6) kr (fun hc => ?_) (fun hc => ?_)
  · have h := cond_t h hc
    refine Wp.srg [] [] ?_
    refine Runs.alln ?_
    refine Wp.fg ⟨[(2, .obj 2 0), (3, .obj 3 0), (4, .t (.bool false))], [(2, ((World.enc p0).map .t)), (3, ((World.enc p1).map .t))], []⟩ ?_
    refine Wp.ret ?_
    refine thenR ?_
    obtain rfl := Option.some.inj h
    exact RetK [.t (.bool false)] _ [] kr kr (.refl _) .nil
  have h := cond_f h hc
  refine Wp.skip (thenN ?_)
  refine Wp.seq ?_
  refine Wp.srg [] [] ?_
  refine Runs.batch 4 kr ?_
  obtain ⟨r7, e_r7, h⟩ := bind_some h
  refine Runs.callK false 45 49 [] [.t (.sl 3 (p0.fNet.map Packet.enc)), .t (.sl 3 (p1.fNet.map Packet.enc))] _ _ _ rfl rfl kr kr kr kr kr (laws_eqPacketS_ok u p0.fNet p1.fNet r7 e_r7) kr ?_
  refine Runs.alln ?_
  refine Wp.fg ⟨[(2, .obj 2 0), (3, .obj 3 0), (4, .t (.bool false)), (46, .t (.bool (!r7)))], [(2, ((World.enc p0).map .t)), (3, ((World.enc p1).map .t))], []⟩ ?_
  refine Wp.cond2 (b := !r7) kr (fun hc => ?_) (fun hc => ?_)
  · have h := cond_t h hc
    refine Wp.srg [] [] ?_
    refine Runs.alln ?_
    refine Wp.fg ⟨[(2, .obj 2 0), (3, .obj 3 0), (4, .t (.bool false))], [(2, ((World.enc p0).map .t)), (3, ((World.enc p1).map .t))], []⟩ ?_
    refine Wp.ret ?_
    refine thenR ?_
    obtain rfl := Option.some.inj h
    exact RetK [.t (.bool false)] _ [] kr kr (.refl _) .nil
  have h := cond_f h hc
  refine Wp.skip (thenN ?_)
  refine Wp.seq ?_
  refine Wp.srg [] [] ?_
  refine Runs.batch 4 kr ?_
  obtain ⟨r8, e_r8, h⟩ := bind_some h
  refine Runs.callK false 51 50 [] [.t (.sl 3 (p0.fLog.map Sent.enc)), .t (.sl 3 (p1.fLog.map Sent.enc))] _ _ _ rfl rfl kr kr kr kr kr (laws_eqSentS_ok u p0.fLog p1.fLog r8 e_r8) kr ?_
  refine Runs.alln ?_
  refine Wp.fg ⟨[(2, .obj 2 0), (3, .obj 3 0), (4, .t (.bool false)), (52, .t (.bool (!r8)))], [(2, ((World.enc p0).map .t)), (3, ((World.enc p1).map .t))], []⟩ ?_
  refine Wp.cond2 (b := !r8) kr (fun hc => ?_) (fun hc => ?_)
  · have h := cond_t h hc
    refine Wp.srg [] [] ?_
    refine Runs.alln ?_
    refine Wp.fg ⟨[(2, .obj 2 0), (3, .obj 3 0), (4, .t (.bool false))], [(2, ((World.enc p0).map .t)), (3, ((World.enc p1).map .t))], []⟩ ?_
    refine Wp.ret ?_
    refine thenR ?_
    obtain rfl := Option.some.inj h
    exact RetK [.t (.bool false)] _ [] kr kr (.refl _) .nil
  have h := cond_f h hc
  refine Wp.skip (thenN ?_)
  refine Wp.seq ?_
  refine Wp.srg [] [] ?_
  refine Runs.alln ?_
  refine Wp.fg ⟨[(4, .t (.bool false)), (57, .t (.bool (p0.fLost != p1.fLost)))], [], []⟩ ?_
  refine Wp.cond2 (b := p0.fLost != p1.fLost) kr (fun hc => ?_) (fun hc => ?_)
  · have h := cond_t h hc
    refine Wp.srg [] [] ?_
    refine Runs.alln ?_
    refine Wp.fg ⟨[(4, .t (.bool false))], [], []⟩ ?_
    refine Wp.ret ?_
    refine thenR ?_
    obtain rfl := Option.some.inj h
    exact RetK [.t (.bool false)] _ [] kr kr (.refl _) .nil
  have h := cond_f h hc
  refine Wp.skip (thenN ?_)
  refine Wp.srg [] [] ?_
  refine Runs.alln ?_
  refine Wp.fg ⟨[(4, .t (.bool true))], [], []⟩ ?_
  refine Wp.ret ?_
  obtain rfl := Option.some.inj h
  exact RetK [.t (.bool true)] _ [] kr kr (.refl _) .nil
theorem laws_FnExactWorldText_ok (u : Nat) (p0 : World) (r : Bool) (h : laws_FnExactWorldText u p0 = some r) : CallOK Tryz.prog 5 [.agg [.t (.int .i64 p0.fC.fSize), .t (.int .i64 p0.fC.fWindow), .t (.int .i64 p0.fC.fSuspect), .t (.int .i64 p0.fC.fForget), .t (.sl 1 (p0.fT.fUp.map (eInt .i64))), .t (.sl 1 (p0.fNew.map (eInt .u8))), .t (.sl 1 (p0.fOld.map Image.enc)), .t (.sl 12 (p0.fN.map Node.enc)), .t (.sl 6 (p0.fD.map Disk.enc)), .t (.sl 3 (p0.fNet.map Packet.enc)), .t (.sl 3 (p0.fLog.map Sent.enc)), .t (.int .i64 p0.fLost)]] (.one (.t (.bool r))) [] := by
  unfold laws_FnExactWorldText at h
  refine CallOK.of_bodyK (fn := Tryz.f5) (m := false) [.agg ((World.enc p0).map .t)] kr rfl kr kr kr kr kr ?_
  refine Wp.srg [] [] ?_
  refine Runs.alln ?_
  refine Wp.fg ⟨[(1, .obj 1 0), (2, .t (.bool false))], [(1, ((World.enc p0).map .t))], []⟩ ?_
  refine Wp.srg [] [] ?_
  refine Runs.alln ?_
  refine Wp.fg ⟨[(1, .obj 1 0), (2, .t (.bool false)), (3, .t (.int .i64 1048576))], [(1, ((World.enc p0).map .t))], []⟩ ?_
  refine Wp.srg [] [] ?_
  refine Runs.batch 2 kr ?_
  obtain ⟨r1, e_r1, h⟩ := bind_some h
  refine Runs.callK false 9 14 [] [.agg ((World.enc p0).map .t), .t (.int .i64 1048576)] _ _ _ rfl rfl kr kr kr kr kr (laws_szWorld_ok u p0 1048576 r1 e_r1) kr ?_
  refine Runs.alln ?_
  refine Wp.fg ⟨[(1, .obj 1 0), (2, .t (.bool false)), (3, .t (.int .i64 r1))], [(1, ((World.enc p0).map .t))], []⟩ ?_
  refine Wp.seq ?_
  refine Wp.srg [] [] ?_
  refine Runs.alln ?_
  refine Wp.fg ⟨[(1, .obj 1 0), (2, .t (.bool false)), (11, .t (.bool (decide (r1 < 0))))], [(1, ((World.enc p0).map .t))], []⟩ ?_
  refine Wp.cond2 (b := decide (r1 < 0)) kr (fun hc => ?_) (fun hc => ?_)
  · have h := cond_t h hc
    refine Wp.srg [] [] ?_
    refine Runs.alln ?_
    refine Wp.fg ⟨[(1, .obj 1 0), (2, .t (.bool true))], [(1, ((World.enc p0).map .t))], []⟩ ?_
    refine Wp.ret ?_
    refine thenR ?_
    obtain rfl := Option.some.inj h
    exact RetK [.t (.bool true)] _ [] kr kr (.refl _) .nil
  have h := cond_f h hc
  refine Wp.skip (thenN ?_)
  refine Wp.srg [] [] ?_
  refine Runs.batch 1 kr ?_
  obtain ⟨r2, e_r2, h⟩ := bind_some h
  refine Runs.callK false 13 16 [] [.agg ((World.enc p0).map .t)] _ _ _ rfl rfl kr kr kr kr kr (laws_toWorld_ok u p0 r2 e_r2) kr ?_
  obtain ⟨r3, e_r3, h⟩ := bind_some h
  refine Runs.callBK 14 19 [] [.agg [.t (.int .i64 r2.fC.fSize), .t (.int .i64 r2.fC.fWindow), .t (.int .i64 r2.fC.fSuspect), .t (.int .i64 r2.fC.fForget), .own 851972, .own 851973, .own 851974, .own 851975, .own 851976, .own 851977, .own 851978, .t (.int .i64 r2.fLost)]] [.agg ((World.enc r2).map .t)] (.one (.t (.str r3))) rfl rfl kr kr kr kr kr (spec_WorldText_ok u r2 r3 e_r3) (by simp [V.plain, V.plains, C.plain, T.sc]) kr ?_
  refine Runs.alln ?_
  refine Wp.fg ⟨[(1, .obj 1 0), (2, .t (.bool false)), (4, .t (.str r3))], [(1, ((World.enc p0).map .t))], []⟩ ?_
  refine Wp.srg [] [] ?_
  refine Runs.batch 1 kr ?_
  obtain ⟨r4, e_r4, h⟩ := bind_some h
  refine Runs.callK false 16 16 [] [.agg ((World.enc p0).map .t)] _ _ _ rfl rfl kr kr kr kr kr (laws_toWorld_ok u p0 r4 e_r4) kr ?_
  refine Runs.alln ?_
  refine Wp.fg ⟨[(1, .obj 1 0), (2, .t (.bool false)), (4, .t (.str r3)), (5, .obj 5 0)], [(1, ((World.enc p0).map .t)), (5, [.t (.int .i64 r4.fC.fSize), .t (.int .i64 r4.fC.fWindow), .t (.int .i64 r4.fC.fSuspect), .t (.int .i64 r4.fC.fForget), .own 1048580, .own 1048581, .own 1048582, .own 1048583, .own 1048584, .own 1048585, .own 1048586, .t (.int .i64 r4.fLost)])], [(1048580, .live 3 1 (r4.fT.fUp.map (eInt .i64))), (1048581, .live 5 1 (r4.fNew.map (eInt .u8))), (1048582, .live 61 1 (r4.fOld.map Image.enc)), (1048583, .live 92 12 (r4.fN.map Node.enc)), (1048584, .live 124 6 (r4.fD.map Disk.enc)), (1048585, .live 97 3 (r4.fNet.map Packet.enc)), (1048586, .live 128 3 (r4.fLog.map Sent.enc))]⟩ ?_
  refine Wp.srg [] [] ?_
  refine Runs.batch 1 kr ?_
  obtain ⟨r5, e_r5, h⟩ := bind_some h
  refine Runs.callBK 18 20 [] [.agg [.t (.int .i64 r4.fC.fSize), .t (.int .i64 r4.fC.fWindow), .t (.int .i64 r4.fC.fSuspect), .t (.int .i64 r4.fC.fForget), .own 1048580, .own 1048581, .own 1048582, .own 1048583, .own 1048584, .own 1048585, .own 1048586, .t (.int .i64 r4.fLost)]] [.agg ((World.enc r4).map .t)] (.one (.t (.str r5))) rfl rfl kr kr kr kr kr (impl_WorldText_ok u r4 r5 e_r5) (by simp [V.plain, V.plains, C.plain, T.sc]) kr ?_
  refine Runs.alln ?_
  refine Wp.fg ⟨[(1, .obj 1 0), (2, .t (.bool false)), (4, .t (.str r3)), (5, .obj 5 0), (6, .t (.str r5))], [(1, ((World.enc p0).map .t)), (5, [.t (.int .i64 r4.fC.fSize), .t (.int .i64 r4.fC.fWindow), .t (.int .i64 r4.fC.fSuspect), .t (.int .i64 r4.fC.fForget), .own 1048580, .own 1048581, .own 1048582, .own 1048583, .own 1048584, .own 1048585, .own 1048586, .t (.int .i64 r4.fLost)])], [(1048580, .live 3 1 (r4.fT.fUp.map (eInt .i64))), (1048581, .live 5 1 (r4.fNew.map (eInt .u8))), (1048582, .live 61 1 (r4.fOld.map Image.enc)), (1048583, .live 92 12 (r4.fN.map Node.enc)), (1048584, .live 124 6 (r4.fD.map Disk.enc)), (1048585, .live 97 3 (r4.fNet.map Packet.enc)), (1048586, .live 128 3 (r4.fLog.map Sent.enc))]⟩ ?_
  refine Wp.seq ?_
  refine Wp.srg [] [] ?_
  refine Runs.alln ?_
  refine Wp.fg ⟨[(1, .obj 1 0), (2, .t (.bool false)), (5, .obj 5 0), (21, .t (.bool (!(r5.toList == r3.toList))))], [(1, ((World.enc p0).map .t)), (5, [.t (.int .i64 r4.fC.fSize), .t (.int .i64 r4.fC.fWindow), .t (.int .i64 r4.fC.fSuspect), .t (.int .i64 r4.fC.fForget), .own 1048580, .own 1048581, .own 1048582, .own 1048583, .own 1048584, .own 1048585, .own 1048586, .t (.int .i64 r4.fLost)])], [(1048580, .live 3 1 (r4.fT.fUp.map (eInt .i64))), (1048581, .live 5 1 (r4.fNew.map (eInt .u8))), (1048582, .live 61 1 (r4.fOld.map Image.enc)), (1048583, .live 92 12 (r4.fN.map Node.enc)), (1048584, .live 124 6 (r4.fD.map Disk.enc)), (1048585, .live 97 3 (r4.fNet.map Packet.enc)), (1048586, .live 128 3 (r4.fLog.map Sent.enc))]⟩ ?_
  refine Wp.cond2 (b := !(r5.toList == r3.toList)) kr (fun hc => ?_) (fun hc => ?_)
  · have h := cond_t h hc
    refine Wp.srg [] [] ?_
    refine Runs.alln ?_
    refine Wp.fg ⟨[(1, .obj 1 0), (2, .t (.bool false)), (5, .obj 5 0)], [(1, ((World.enc p0).map .t)), (5, [.t (.int .i64 r4.fC.fSize), .t (.int .i64 r4.fC.fWindow), .t (.int .i64 r4.fC.fSuspect), .t (.int .i64 r4.fC.fForget), .own 1048580, .own 1048581, .own 1048582, .own 1048583, .own 1048584, .own 1048585, .own 1048586, .t (.int .i64 r4.fLost)])], [(1048580, .live 3 1 (r4.fT.fUp.map (eInt .i64))), (1048581, .live 5 1 (r4.fNew.map (eInt .u8))), (1048582, .live 61 1 (r4.fOld.map Image.enc)), (1048583, .live 92 12 (r4.fN.map Node.enc)), (1048584, .live 124 6 (r4.fD.map Disk.enc)), (1048585, .live 97 3 (r4.fNet.map Packet.enc)), (1048586, .live 128 3 (r4.fLog.map Sent.enc))]⟩ ?_
    refine Wp.ret ?_
    refine thenR ?_
    obtain rfl := Option.some.inj h
    exact RetK [.t (.bool false)] _ [] kr kr (.refl _) .nil
  have h := cond_f h hc
  refine Wp.skip (thenN ?_)
  refine Wp.seq ?_
  refine Wp.seq ?_
  refine Wp.le (Le.trans (Le.frzO 5 4 1048580 3 1 [.t (.int .i64 r4.fC.fSize), .t (.int .i64 r4.fC.fWindow), .t (.int .i64 r4.fC.fSuspect), .t (.int .i64 r4.fC.fForget), .own 1048580, .own 1048581, .own 1048582, .own 1048583, .own 1048584, .own 1048585, .own 1048586, .t (.int .i64 r4.fLost)] (r4.fT.fUp.map (eInt .i64)) kr kr kr) (Le.trans (Le.frzO 5 5 1048581 5 1 [.t (.int .i64 r4.fC.fSize), .t (.int .i64 r4.fC.fWindow), .t (.int .i64 r4.fC.fSuspect), .t (.int .i64 r4.fC.fForget), .t (.sl 1 (r4.fT.fUp.map (eInt .i64))), .own 1048581, .own 1048582, .own 1048583, .own 1048584, .own 1048585, .own 1048586, .t (.int .i64 r4.fLost)] (r4.fNew.map (eInt .u8)) kr kr kr) (Le.trans (Le.frzO 5 6 1048582 61 1 [.t (.int .i64 r4.fC.fSize), .t (.int .i64 r4.fC.fWindow), .t (.int .i64 r4.fC.fSuspect), .t (.int .i64 r4.fC.fForget), .t (.sl 1 (r4.fT.fUp.map (eInt .i64))), .t (.sl 1 (r4.fNew.map (eInt .u8))), .own 1048582, .own 1048583, .own 1048584, .own 1048585, .own 1048586, .t (.int .i64 r4.fLost)] (r4.fOld.map Image.enc) kr kr kr) (Le.trans (Le.frzO 5 7 1048583 92 12 [.t (.int .i64 r4.fC.fSize), .t (.int .i64 r4.fC.fWindow), .t (.int .i64 r4.fC.fSuspect), .t (.int .i64 r4.fC.fForget), .t (.sl 1 (r4.fT.fUp.map (eInt .i64))), .t (.sl 1 (r4.fNew.map (eInt .u8))), .t (.sl 1 (r4.fOld.map Image.enc)), .own 1048583, .own 1048584, .own 1048585, .own 1048586, .t (.int .i64 r4.fLost)] (r4.fN.map Node.enc) kr kr kr) (Le.trans (Le.frzO 5 8 1048584 124 6 [.t (.int .i64 r4.fC.fSize), .t (.int .i64 r4.fC.fWindow), .t (.int .i64 r4.fC.fSuspect), .t (.int .i64 r4.fC.fForget), .t (.sl 1 (r4.fT.fUp.map (eInt .i64))), .t (.sl 1 (r4.fNew.map (eInt .u8))), .t (.sl 1 (r4.fOld.map Image.enc)), .t (.sl 12 (r4.fN.map Node.enc)), .own 1048584, .own 1048585, .own 1048586, .t (.int .i64 r4.fLost)] (r4.fD.map Disk.enc) kr kr kr) (Le.trans (Le.frzO 5 9 1048585 97 3 [.t (.int .i64 r4.fC.fSize), .t (.int .i64 r4.fC.fWindow), .t (.int .i64 r4.fC.fSuspect), .t (.int .i64 r4.fC.fForget), .t (.sl 1 (r4.fT.fUp.map (eInt .i64))), .t (.sl 1 (r4.fNew.map (eInt .u8))), .t (.sl 1 (r4.fOld.map Image.enc)), .t (.sl 12 (r4.fN.map Node.enc)), .t (.sl 6 (r4.fD.map Disk.enc)), .own 1048585, .own 1048586, .t (.int .i64 r4.fLost)] (r4.fNet.map Packet.enc) kr kr kr) (Le.trans (Le.frzO 5 10 1048586 128 3 [.t (.int .i64 r4.fC.fSize), .t (.int .i64 r4.fC.fWindow), .t (.int .i64 r4.fC.fSuspect), .t (.int .i64 r4.fC.fForget), .t (.sl 1 (r4.fT.fUp.map (eInt .i64))), .t (.sl 1 (r4.fNew.map (eInt .u8))), .t (.sl 1 (r4.fOld.map Image.enc)), .t (.sl 12 (r4.fN.map Node.enc)), .t (.sl 6 (r4.fD.map Disk.enc)), .t (.sl 3 (r4.fNet.map Packet.enc)), .own 1048586, .t (.int .i64 r4.fLost)] (r4.fLog.map Sent.enc) kr kr kr) (Le.of (s := ⟨[(1, .obj 1 0), (2, .t (.bool false)), (5, .obj 5 0)], [(1, ((World.enc p0).map .t)), (5, ((World.enc r4).map .t))], []⟩) (mo := []) (mr := []) kr kr kr kr)))))))) ?_
  refine Wp.regionA (pOf []) (rhoOf [(1, .obj 1), (5, .obj 5), (22, .frz), (23, .frz), (25, .frz)]) kr kr ?_
  refine Runs.batch 2 kr ?_
  obtain ⟨r6, e_r6, h⟩ := bind_some h
  refine Runs.callK false 24 16 [] [.agg ((World.enc p0).map .t)] _ _ _ rfl rfl kr kr kr kr kr (laws_toWorld_ok u p0 r6 e_r6) kr ?_
  obtain ⟨r7, e_r7, h⟩ := bind_some h
  refine Runs.callBK 25 18 [] [.agg ((World.enc r4).map .t), .agg [.t (.int .i64 r6.fC.fSize), .t (.int .i64 r6.fC.fWindow), .t (.int .i64 r6.fC.fSuspect), .t (.int .i64 r6.fC.fForget), .own 1572868, .own 1572869, .own 1572870, .own 1572871, .own 1572872, .own 1572873, .own 1572874, .t (.int .i64 r6.fLost)]] [.agg ((World.enc r4).map .t), .agg ((World.enc r6).map .t)] (.one (.t (.bool r7))) rfl rfl kr kr kr kr kr (laws_eqWorld_ok u r4 r6 r7 e_r7) (by simp [V.plain, V.plains, C.plain, T.sc]) kr ?_
  refine Runs.alln ?_
  refine Wp.fg ⟨[(2, .t (.bool false)), (26, .t (.bool (!r7)))], [], []⟩ ?_
  refine Wp.cond2 (b := !r7) kr (fun hc => ?_) (fun hc => ?_)
  · have h := cond_t h hc
    refine Wp.srg [] [] ?_
    refine Runs.alln ?_
    refine Wp.fg ⟨[(2, .t (.bool false))], [], []⟩ ?_
    refine Wp.ret ?_
    refine thenR ?_
    obtain rfl := Option.some.inj h
    exact RetK [.t (.bool false)] _ [] kr kr (.refl _) .nil
  have h := cond_f h hc
  refine Wp.skip (thenN ?_)
  refine Wp.srg [] [] ?_
  refine Runs.alln ?_
  refine Wp.fg ⟨[(2, .t (.bool true))], [], []⟩ ?_
  refine Wp.ret ?_
  obtain rfl := Option.some.inj h
  exact RetK [.t (.bool true)] _ [] kr kr (.refl _) .nil
end Go.Tm
