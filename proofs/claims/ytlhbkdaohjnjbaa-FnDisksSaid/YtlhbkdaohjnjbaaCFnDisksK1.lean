/- The functions as they are translated do what the pure functions say (printed). -/
import Derived.Test.YtlhbkdaohjnjbaaCFnDisksD
import Derived.Test.YtlhbkdaohjnjbaaTm43
import Derived.Test.YtlhbkdaohjnjbaaProg
set_option maxRecDepth 100000
set_option maxHeartbeats 20000000
set_option linter.unusedVariables false
set_option linter.unusedSimpArgs false
namespace Go.Tm
open Go.Proofs
theorem laws_big_ok (u : Nat) (p0 : List Int) (r : Bool) (h : laws_big u p0 = some r) : CallOK Try.prog 17 [.one (.t (.sl 1 (p0.map (eInt .u8))))] (.one (.t (.bool r))) [] := by
  unfold laws_big at h
  refine CallOK.of_bodyK (fn := Try.f17) (m := false) [.t (.sl 1 (p0.map (eInt .u8)))] kr rfl kr kr kr kr kr ?_
  refine Wp.srg [] [] ?_
  refine Runs.alln ?_
  refine Wp.fg ⟨[(0, .t (.sl 1 (p0.map (eInt .u8)))), (2, .t (.bool false))], [], []⟩ ?_
  refine Wp.srg [] [] ?_
  refine Runs.batch 1 kr ?_
  refine Runs.lenT (y := .t (.sl 1 (p0.map (eInt .u8)))) (e := 5) (eInt .u8) p0 1 rfl rfl rfl kr kr kr kr kr ?_
  refine Runs.alln ?_
  refine Wp.fg ⟨[(2, .t (.bool (decide (((p0.length : Int)) > 1048576))))], [], []⟩ ?_
  refine Wp.ret ?_
  obtain rfl := Option.some.inj h
  exact RetK [.t (.bool (decide (((p0.length : Int)) > 1048576)))] _ [] kr kr (.refl _) .nil
theorem spec_l1New_ok (u : Nat) (p0 : List Int) (r : l1Cur) (h : spec_l1New u p0 = some r) : CallOK Try.prog 75 [.one (.t (.sl 1 (p0.map (eInt .u8))))] (.ptr [.t (.sl 1 (r.fB.map (eInt .u8))), .t (.int .i64 r.fI), .t (.int .i64 r.fH)]) [] := by
  unfold spec_l1New at h
  refine CallOK.of_bodyK (fn := Try.f75) (m := false) [.t (.sl 1 (p0.map (eInt .u8)))] kr rfl kr kr kr kr kr ?_
  refine Wp.srg [] [] ?_
  refine Runs.alln ?_
  refine Wp.fg ⟨[(0, .t (.sl 1 (p0.map (eInt .u8))))], [], []⟩ ?_
  refine Wp.srg [] [] ?_
  refine Runs.batch 1 kr ?_
  refine Runs.lenT (y := .t (.sl 1 (p0.map (eInt .u8)))) (e := 5) (eInt .u8) p0 1 rfl rfl rfl kr kr kr kr kr ?_
  refine Runs.alln ?_
  refine Wp.fg ⟨[(0, .t (.sl 1 (p0.map (eInt .u8)))), (3, .t (.int .i64 (bAdd .i64 162416 ((p0.length : Int)))))], [], []⟩ ?_
  refine Wp.seqJ (α := (List Int) × Int) (fun a => ⟨[(0, .t (.sl 1 (a.1.map (eInt .u8)))), (3, .t (.int .i64 a.2))], [], []⟩) (fun a => spec_l1New_j1 u a.1 a.2 = some r) ?_ ?_
  · rintro ⟨p0, x9⟩ h
    change spec_l1New_j1 u p0 x9 = some r at h
    unfold spec_l1New_j1 at h
    refine Wp.srg [] [] ?_
    refine Runs.alln ?_
    refine Wp.fg ⟨[(2, .obj 31 0)], [(31, [.t (.sl 1 (p0.map (eInt .u8))), .t (.int .i64 0), .t (.int .i64 x9)])], []⟩ ?_
    refine Wp.ret ?_
    obtain rfl := Option.some.inj h
    exact RetK [.obj 31 0] _ [] kr kr (.refl _) .nil
  · refine Wp.srg [] [] ?_
    refine Runs.alln ?_
    refine Wp.fg ⟨[(0, .t (.sl 1 (p0.map (eInt .u8)))), (3, .t (.int .i64 (bAdd .i64 162416 ((p0.length : Int))))), (4, .t (.int .i64 0))], [], []⟩ ?_
    refine Wp.block ?_
    refine Wp.loopF (α := (List Int) × Int × Int) (fun a => ⟨[(0, .t (.sl 1 (a.1.map (eInt .u8)))), (3, .t (.int .i64 a.2.1)), (4, .t (.int .i64 a.2.2))], [], []⟩) (fun k_spec_l1New_l2 a => spec_l1New_l2 u k_spec_l1New_l2 a.1 a.2.1 a.2.2 = some r) ?_ ?_ u (p0, bAdd .i64 162416 ((p0.length : Int)), 0) h (Le.of (mo := []) (mr := []) kr kr kr kr)
    · intro a h; unfold spec_l1New_l2 at h; cases h
    · rintro k_spec_l1New_l2 ⟨p0, x3, x4⟩ h
      change spec_l1New_l2 u (k_spec_l1New_l2 + 1) p0 x3 x4 = some r at h
      rw [spec_l1New_l2] at h
      refine Wp.seq ?_
      refine Wp.seqJ (α := (List Int) × Int × Int × Bool) (fun a => ⟨[(0, .t (.sl 1 (a.1.map (eInt .u8)))), (3, .t (.int .i64 a.2.1)), (4, .t (.int .i64 a.2.2.1)), (15, .t (.bool a.2.2.2))], [], []⟩) (fun a => spec_l1New_j3 u (fun z0 z1 z2 => spec_l1New_l2 u k_spec_l1New_l2 z0 z1 z2) a.1 a.2.1 a.2.2.1 a.2.2.2 = some r) ?_ ?_
      · rintro ⟨p0, x3, x4, x7⟩ h
        change spec_l1New_j3 u (fun z0 z1 z2 => spec_l1New_l2 u k_spec_l1New_l2 z0 z1 z2) p0 x3 x4 x7 = some r at h
        unfold spec_l1New_j3 at h
        refine Wp.cond2 (b := x7) kr (fun hc => ?_) (fun hc => ?_)
        · have h := cond_t h hc
          refine Wp.skip (thenN ?_)
          refine Wp.seq ?_
          refine Wp.block ?_
          refine Wp.rg [] [] ?_
          refine Runs.batch 4 kr ?_
          obtain ⟨y8, e_y8, h⟩ := bind_some h
          refine Runs.idxT (e := 5) (kk := .i64) (sz := 1) (eInt .u8) p0 x4 rfl kr kr kr kr kr kr e_y8 ?_
          refine Runs.all kr ?_
          refine blkN ?_
          refine thenN ?_
          refine Wp.rg [] [] ?_
          refine Runs.alln ?_
          exact ⟨(p0, bAnd .i64 (bAdd .i64 (bAdd .i64 (bMul .i64 x3 137) (IntKind.wrap .i64 y8)) 11) 1073741823, bAdd .i64 x4 1), h, Le.of (mo := []) (mr := []) kr kr kr kr⟩
        have h := cond_f h hc
        refine Wp.exit ?_
        refine thenE ?_
        refine thenE ?_
        refine blkE ?_
        refine thenN ?_
        exact ⟨(p0, x3), h, Le.of (mo := []) (mr := []) kr kr kr kr⟩
      · refine Wp.rg [] [] ?_
        refine Runs.batch 2 kr ?_
        refine Runs.lenT (y := .t (.sl 1 (p0.map (eInt .u8)))) (e := 5) (eInt .u8) p0 1 rfl rfl rfl kr kr kr kr kr ?_
        refine Runs.batch 2 kr ?_
        rcases tf (decide (x4 < ((p0.length : Int)))) with hc | hc
        · have h := cond_t h hc
          refine Runs.known 12 (v := true) kr hc ?_
          refine Runs.alln ?_
          exact ⟨(p0, x3, x4, decide (x4 < 4000)), h, Le.of (mo := []) (mr := []) kr kr kr kr⟩
        have h := cond_f h hc
        refine Runs.known 12 (v := false) kr hc ?_
        refine Runs.alln ?_
        exact ⟨(p0, x3, x4, false), h, Le.of (mo := []) (mr := []) kr kr kr kr⟩
theorem spec_l1Byte_ok (u : Nat) (p0 : l1Cur) (r : Int × l1Cur) (h : spec_l1Byte u p0 = some r) : CallOK Try.prog 137 [.ptr [.t (.sl 1 (p0.fB.map (eInt .u8))), .t (.int .i64 p0.fI), .t (.int .i64 p0.fH)]] (.one (.t (.int .i64 r.1))) [[.t (.sl 1 (r.2.fB.map (eInt .u8))), .t (.int .i64 r.2.fI), .t (.int .i64 r.2.fH)]] := by
  unfold spec_l1Byte at h
  refine CallOK.of_bodyK (fn := Try.f137) (m := false) [.obj 900 0] kr rfl kr kr kr kr kr ?_
  refine Wp.srg [] [] ?_
  refine Runs.alln ?_
  refine Wp.fg ⟨[(0, .obj 900 0), (2, .t (.int .i64 0))], [(900, ((l1Cur.enc p0).map .t))], []⟩ ?_
  refine Wp.srg [] [] ?_
  refine Runs.alln ?_
  refine Wp.fg ⟨[(0, .obj 900 0), (2, .t (.int .i64 0))], [(900, [.t (.sl 1 (p0.fB.map (eInt .u8))), .t (.int .i64 p0.fI), .t (.int .i64 (bAdd .i64 (bMul .i64 p0.fH 6364136223846793005) 1442695040888963407))])], []⟩ ?_
  refine Wp.seq ?_
  refine Wp.regionA (pOf []) (rhoOf [(0, .obj 900), (13, .obj 900), (14, .obj 900), (15, .obj 900), (16, .frz), (17, .frz), (18, .obj 900), (19, .obj 900), (20, .obj 900), (21, .frz), (22, .frz), (23, .frz), (24, .frz)]) kr kr ?_
  refine Runs.alln ?_
  refine Wp.fg ⟨[(0, .obj 900 0), (2, .t (.int .i64 0)), (3, .t (.int .i64 (bAnd .i64 (bXor .i64 (bShr .i64 (bAdd .i64 (bMul .i64 p0.fH 6364136223846793005) 1442695040888963407) 33) (bShr .i64 (bAdd .i64 (bMul .i64 p0.fH 6364136223846793005) 1442695040888963407) 47)) 255)))], [(900, [.t (.sl 1 (p0.fB.map (eInt .u8))), .t (.int .i64 p0.fI), .t (.int .i64 (bAdd .i64 (bMul .i64 p0.fH 6364136223846793005) 1442695040888963407))])], []⟩ ?_
  refine Wp.seqJ (α := Int × l1Cur × Int) (fun a => ⟨[(2, .t (.int .i64 0)), (3, .t (.int .i64 a.1))], [(900, [.t (.sl 1 (a.2.1.fB.map (eInt .u8))), .t (.int .i64 a.2.2), .t (.int .i64 (bAdd .i64 (bMul .i64 a.2.1.fH 6364136223846793005) 1442695040888963407))])], []⟩) (fun a => spec_l1Byte_j1 u a.1 a.2.1 a.2.2 = some r) ?_ ?_
  · rintro ⟨x2, p0, x3⟩ h
    change spec_l1Byte_j1 u x2 p0 x3 = some r at h
    unfold spec_l1Byte_j1 at h
    refine Wp.srg [] [] ?_
    refine Runs.alln ?_
    refine Wp.fg ⟨[(2, .t (.int .i64 x2))], [(900, [.t (.sl 1 (p0.fB.map (eInt .u8))), .t (.int .i64 x3), .t (.int .i64 (bAdd .i64 (bMul .i64 p0.fH 6364136223846793005) 1442695040888963407))])], []⟩ ?_
    refine Wp.ret ?_
    obtain rfl := Option.some.inj h
    exact RetK [.t (.int .i64 x2)] _ [[.t (.sl 1 (p0.fB.map (eInt .u8))), .t (.int .i64 x3), .t (.int .i64 (bAdd .i64 (bMul .i64 p0.fH 6364136223846793005) 1442695040888963407))]] kr kr (.refl _) (.cons ((.cons (.refl _) (.cons (.refl _) (.cons (.refl _) .nil)))) .nil)
  · refine Wp.seq ?_
    refine Wp.regionA (pOf []) (rhoOf [(0, .obj 900), (25, .obj 900), (26, .obj 900), (27, .obj 900), (28, .frz), (29, .obj 900), (30, .obj 900), (31, .obj 900), (32, .frz), (33, .frz)]) kr kr ?_
    refine Runs.batch 8 kr ?_
    refine Runs.lenT (y := .t (.sl 1 (p0.fB.map (eInt .u8)))) (e := 5) (eInt .u8) p0.fB 1 rfl rfl rfl kr kr kr kr kr ?_
    refine Runs.alln ?_
    refine Wp.fg ⟨[(0, .obj 900 0), (2, .t (.int .i64 0)), (3, .t (.int .i64 (bAnd .i64 (bXor .i64 (bShr .i64 (bAdd .i64 (bMul .i64 p0.fH 6364136223846793005) 1442695040888963407) 33) (bShr .i64 (bAdd .i64 (bMul .i64 p0.fH 6364136223846793005) 1442695040888963407) 47)) 255))), (34, .t (.bool (decide (p0.fI < ((p0.fB.length : Int))))))], [(900, [.t (.sl 1 (p0.fB.map (eInt .u8))), .t (.int .i64 p0.fI), .t (.int .i64 (bAdd .i64 (bMul .i64 p0.fH 6364136223846793005) 1442695040888963407))])], []⟩ ?_
    refine Wp.cond2 (b := decide (p0.fI < ((p0.fB.length : Int)))) kr (fun hc => ?_) (fun hc => ?_)
    · have h := cond_t h hc
      refine Wp.seq ?_
      refine Wp.regionA (pOf []) (rhoOf [(0, .obj 900), (3, .frz), (35, .frz), (36, .obj 900), (37, .obj 900), (38, .obj 900), (39, .frz), (40, .obj 900), (41, .obj 900), (42, .obj 900), (43, .frz), (44, .frz), (45, .frz), (46, .frz), (47, .frz), (48, .frz)]) kr kr ?_
      refine Runs.batch 9 kr ?_
      obtain ⟨y1, e_y1, h⟩ := bind_some h
      refine Runs.idxT (e := 5) (kk := .i64) (sz := 1) (eInt .u8) p0.fB p0.fI rfl kr kr kr kr kr kr e_y1 ?_
      refine Runs.alln ?_
      refine Wp.fg ⟨[(0, .obj 900 0), (2, .t (.int .i64 0)), (3, .t (.int .i64 (bAnd .i64 (bAdd .i64 (bAnd .i64 (bXor .i64 (bShr .i64 (bAdd .i64 (bMul .i64 p0.fH 6364136223846793005) 1442695040888963407) 33) (bShr .i64 (bAdd .i64 (bMul .i64 p0.fH 6364136223846793005) 1442695040888963407) 47)) 255) (IntKind.wrap .i64 y1)) 255)))], [(900, [.t (.sl 1 (p0.fB.map (eInt .u8))), .t (.int .i64 p0.fI), .t (.int .i64 (bAdd .i64 (bMul .i64 p0.fH 6364136223846793005) 1442695040888963407))])], []⟩ ?_
      refine Wp.rg [] [] ?_
      refine Runs.alln ?_
      exact ⟨(bAnd .i64 (bAdd .i64 (bAnd .i64 (bXor .i64 (bShr .i64 (bAdd .i64 (bMul .i64 p0.fH 6364136223846793005) 1442695040888963407) 33) (bShr .i64 (bAdd .i64 (bMul .i64 p0.fH 6364136223846793005) 1442695040888963407) 47)) 255) (IntKind.wrap .i64 y1)) 255, p0, bAdd .i64 p0.fI 1), h, Le.of (mo := []) (mr := []) kr kr kr kr⟩
    have h := cond_f h hc
    refine Wp.skip (thenN ?_)
    exact ⟨(bAnd .i64 (bXor .i64 (bShr .i64 (bAdd .i64 (bMul .i64 p0.fH 6364136223846793005) 1442695040888963407) 33) (bShr .i64 (bAdd .i64 (bMul .i64 p0.fH 6364136223846793005) 1442695040888963407) 47)) 255, p0, p0.fI), h, Le.of (mo := []) (mr := []) kr kr kr kr⟩
theorem spec_l1Below_ok (u : Nat) (p0 : l1Cur) (p1 : Int) (r : Int × l1Cur) (h : spec_l1Below u p0 p1 = some r) : CallOK Try.prog 81 [.ptr [.t (.sl 1 (p0.fB.map (eInt .u8))), .t (.int .i64 p0.fI), .t (.int .i64 p0.fH)], .one (.t (.int .i64 p1))] (.one (.t (.int .i64 r.1))) [[.t (.sl 1 (r.2.fB.map (eInt .u8))), .t (.int .i64 r.2.fI), .t (.int .i64 r.2.fH)]] := by
  unfold spec_l1Below at h
  refine CallOK.of_bodyK (fn := Try.f81) (m := false) [.obj 900 0, .t (.int .i64 p1)] kr rfl kr kr kr kr kr ?_
  refine Wp.srg [] [] ?_
  refine Runs.alln ?_
  refine Wp.fg ⟨[(0, .obj 900 0), (1, .t (.int .i64 p1)), (4, .t (.int .i64 0))], [(900, ((l1Cur.enc p0).map .t))], []⟩ ?_
  refine Wp.seq ?_
  refine Wp.srg [] [] ?_
  refine Runs.alln ?_
  refine Wp.fg ⟨[(0, .obj 900 0), (1, .t (.int .i64 p1)), (4, .t (.int .i64 0)), (9, .t (.bool (decide (p1 ≤ 0))))], [(900, ((l1Cur.enc p0).map .t))], []⟩ ?_
  refine Wp.cond2 (b := decide (p1 ≤ 0)) kr (fun hc => ?_) (fun hc => ?_)
  · have h := cond_t h hc
    refine Wp.srg [] [] ?_
    refine Runs.alln ?_
    refine Wp.fg ⟨[(0, .obj 900 0), (1, .t (.int .i64 p1)), (4, .t (.int .i64 0))], [(900, ((l1Cur.enc p0).map .t))], []⟩ ?_
    refine Wp.ret ?_
    refine thenR ?_
    obtain rfl := Option.some.inj h
    exact RetK [.t (.int .i64 0)] _ [((l1Cur.enc p0).map .t)] kr kr (.refl _) (.cons ((.cons (.refl _) (.cons (.refl _) (.cons (.refl _) .nil)))) .nil)
  have h := cond_f h hc
  refine Wp.skip (thenN ?_)
  refine Wp.seq ?_
  refine Wp.srg [] [] ?_
  refine Runs.alln ?_
  refine Wp.fg ⟨[(0, .obj 900 0), (1, .t (.int .i64 p1)), (4, .t (.int .i64 0)), (11, .t (.bool (decide (p1 ≤ 256))))], [(900, ((l1Cur.enc p0).map .t))], []⟩ ?_
  refine Wp.cond2 (b := decide (p1 ≤ 256)) kr (fun hc => ?_) (fun hc => ?_)
  · have h := cond_t h hc
    refine Wp.srg [] [] ?_
    refine Runs.batch 1 kr ?_
    obtain ⟨r1, e_r1, h⟩ := bind_some h
    refine Runs.callK false 13 137 [] [.obj 900 0] _ _ _ rfl rfl kr kr kr kr kr (spec_l1Byte_ok u p0 r1 e_r1) kr ?_
    refine Runs.batch 1 kr ?_
    obtain ⟨_, e_2, h⟩ := bind_some h
    refine Runs.num .rem (.int .i64 r1.1) (.int .i64 p1) (.int .i64 (bRem .i64 r1.1 p1)) rfl kr kr kr kr (bin_rem _ _ _ _ (by simpa using chk_some e_2)) ?_
    refine Runs.alln ?_
    refine Wp.fg ⟨[(0, .obj 900 0), (1, .t (.int .i64 p1)), (4, .t (.int .i64 (bRem .i64 r1.1 p1)))], [(900, ((l1Cur.enc r1.2).map .t))], []⟩ ?_
    refine Wp.ret ?_
    refine thenR ?_
    obtain rfl := Option.some.inj h
    exact RetK [.t (.int .i64 (bRem .i64 r1.1 p1))] _ [((l1Cur.enc r1.2).map .t)] kr kr (.refl _) (.cons ((.cons (.refl _) (.cons (.refl _) (.cons (.refl _) .nil)))) .nil)
  have h := cond_f h hc
  refine Wp.skip (thenN ?_)
  refine Wp.srg [] [] ?_
  refine Runs.batch 1 kr ?_
  obtain ⟨r3, e_r3, h⟩ := bind_some h
  refine Runs.callK false 17 137 [] [.obj 900 0] _ _ _ rfl rfl kr kr kr kr kr (spec_l1Byte_ok u p0 r3 e_r3) kr ?_
  refine Runs.alln ?_
  refine Wp.fg ⟨[(0, .obj 900 0), (1, .t (.int .i64 p1)), (4, .t (.int .i64 0)), (5, .t (.int .i64 r3.1))], [(900, ((l1Cur.enc r3.2).map .t))], []⟩ ?_
  refine Wp.srg [] [] ?_
  refine Runs.batch 1 kr ?_
  obtain ⟨r4, e_r4, h⟩ := bind_some h
  refine Runs.callK false 19 137 [] [.obj 900 0] _ _ _ rfl rfl kr kr kr kr kr (spec_l1Byte_ok u r3.2 r4 e_r4) kr ?_
  refine Runs.alln ?_
  refine Wp.fg ⟨[(0, .obj 900 0), (1, .t (.int .i64 p1)), (4, .t (.int .i64 0)), (5, .t (.int .i64 r3.1)), (6, .t (.int .i64 r4.1))], [(900, ((l1Cur.enc r4.2).map .t))], []⟩ ?_
  refine Wp.srg [] [] ?_
  refine Runs.batch 1 kr ?_
  obtain ⟨r5, e_r5, h⟩ := bind_some h
  refine Runs.callK false 21 137 [] [.obj 900 0] _ _ _ rfl rfl kr kr kr kr kr (spec_l1Byte_ok u r4.2 r5 e_r5) kr ?_
  refine Runs.alln ?_
  refine Wp.fg ⟨[(1, .t (.int .i64 p1)), (4, .t (.int .i64 0)), (5, .t (.int .i64 r3.1)), (6, .t (.int .i64 r4.1)), (7, .t (.int .i64 r5.1))], [(900, ((l1Cur.enc r5.2).map .t))], []⟩ ?_
  refine Wp.srg [] [] ?_
  refine Runs.batch 8 kr ?_
  obtain ⟨_, e_6, h⟩ := bind_some h
  refine Runs.num .rem (.int .i64 (bAdd .i64 (bAdd .i64 (bMul .i64 r3.1 65536) (bMul .i64 r4.1 256)) r5.1)) (.int .i64 p1) (.int .i64 (bRem .i64 (bAdd .i64 (bAdd .i64 (bMul .i64 r3.1 65536) (bMul .i64 r4.1 256)) r5.1) p1)) rfl kr kr kr kr (bin_rem _ _ _ _ (by simpa using chk_some e_6)) ?_
  refine Runs.alln ?_
  refine Wp.fg ⟨[(4, .t (.int .i64 (bRem .i64 (bAdd .i64 (bAdd .i64 (bMul .i64 r3.1 65536) (bMul .i64 r4.1 256)) r5.1) p1)))], [(900, ((l1Cur.enc r5.2).map .t))], []⟩ ?_
  refine Wp.ret ?_
  obtain rfl := Option.some.inj h
  exact RetK [.t (.int .i64 (bRem .i64 (bAdd .i64 (bAdd .i64 (bMul .i64 r3.1 65536) (bMul .i64 r4.1 256)) r5.1) p1))] _ [((l1Cur.enc r5.2).map .t)] kr kr (.refl _) (.cons ((.cons (.refl _) (.cons (.refl _) (.cons (.refl _) .nil)))) .nil)
theorem spec_l1Int_ok (u : Nat) (p0 : l1Cur) (p1 : List Int) (r : Int × l1Cur) (h : spec_l1Int u p0 p1 = some r) : CallOK Try.prog 78 [.ptr [.t (.sl 1 (p0.fB.map (eInt .u8))), .t (.int .i64 p0.fI), .t (.int .i64 p0.fH)], .one (.t (.sl 1 (p1.map (eInt .i64))))] (.one (.t (.int .i64 r.1))) [[.t (.sl 1 (r.2.fB.map (eInt .u8))), .t (.int .i64 r.2.fI), .t (.int .i64 r.2.fH)]] := by
  unfold spec_l1Int at h
  refine CallOK.of_bodyK (fn := Try.f78) (m := false) [.obj 900 0, .t (.sl 1 (p1.map (eInt .i64)))] kr rfl kr kr kr kr kr ?_
  refine Wp.srg [] [] ?_
  refine Runs.alln ?_
  refine Wp.fg ⟨[(0, .obj 900 0), (1, .t (.sl 1 (p1.map (eInt .i64)))), (4, .t (.int .i64 0))], [(900, ((l1Cur.enc p0).map .t))], []⟩ ?_
  refine Wp.srg [] [] ?_
  refine Runs.batch 3 kr ?_
  refine Runs.lenT (y := .t (.sl 1 (p1.map (eInt .i64)))) (e := 3) (eInt .i64) p1 1 rfl rfl rfl kr kr kr kr kr ?_
  obtain ⟨r1, e_r1, h⟩ := bind_some h
  refine Runs.callK false 9 81 [] [.obj 900 0, .t (.int .i64 ((p1.length : Int)))] _ _ _ rfl rfl kr kr kr kr kr (spec_l1Below_ok u p0 ((p1.length : Int)) r1 e_r1) kr ?_
  obtain ⟨y2, e_y2, h⟩ := bind_some h
  refine Runs.idxT (e := 3) (kk := .i64) (sz := 1) (eInt .i64) p1 r1.1 rfl kr kr kr kr kr kr e_y2 ?_
  refine Runs.alln ?_
  refine Wp.fg ⟨[(4, .t (.int .i64 y2))], [(900, ((l1Cur.enc r1.2).map .t))], []⟩ ?_
  refine Wp.ret ?_
  obtain rfl := Option.some.inj h
  exact RetK [.t (.int .i64 y2)] _ [((l1Cur.enc r1.2).map .t)] kr kr (.refl _) (.cons ((.cons (.refl _) (.cons (.refl _) (.cons (.refl _) .nil)))) .nil)
theorem spec_l3Bytes_ok (u : Nat) (p0 : l1Cur) (p1 : Int) (r : (List Int) × l1Cur) (h : spec_l3Bytes u p0 p1 = some r) : CallOK Try.prog 82 [.ptr [.t (.sl 1 (p0.fB.map (eInt .u8))), .t (.int .i64 p0.fI), .t (.int .i64 p0.fH)], .one (.t (.int .i64 p1))] (.one (.ow 5 1 (r.1.map (eInt .u8)))) [[.t (.sl 1 (r.2.fB.map (eInt .u8))), .t (.int .i64 r.2.fI), .t (.int .i64 r.2.fH)]] := by
  unfold spec_l3Bytes at h
  refine CallOK.of_bodyK (fn := Try.f82) (m := true) [.obj 900 0, .t (.int .i64 p1)] kr rfl kr kr kr kr kr ?_
  refine Wp.srg [] [] ?_
  refine Runs.alln ?_
  refine Wp.fg ⟨[(0, .obj 900 0), (1, .t (.int .i64 p1)), (4, .nil)], [(900, ((l1Cur.enc p0).map .t))], []⟩ ?_
  refine Wp.srg [] [] ?_
  refine Runs.alln ?_
  refine Wp.fg ⟨[(0, .obj 900 0), (1, .t (.int .i64 p1)), (4, .nil), (5, .own 458752)], [(900, ((l1Cur.enc p0).map .t))], [(458752, .live 5 1 ((([] : List Int)).map (eInt .u8)))]⟩ ?_
  refine Wp.seqJ (α := (List Int) × (List Int) × Int × Int) (fun a => ⟨[(4, .nil), (5, .own 327681)], [(900, [.t (.sl 1 (a.2.1.map (eInt .u8))), .t (.int .i64 a.2.2.1), .t (.int .i64 a.2.2.2)])], [(327681, .live 5 1 (a.1.map (eInt .u8)))]⟩) (fun a => spec_l3Bytes_j1 u a.1 a.2.1 a.2.2.1 a.2.2.2 = some r) ?_ ?_
  · rintro ⟨x18, x19, x20, x21⟩ h
    change spec_l3Bytes_j1 u x18 x19 x20 x21 = some r at h
    unfold spec_l3Bytes_j1 at h
    refine Wp.srg [] [] ?_
    refine Runs.alln ?_
    refine Wp.fg ⟨[(4, .own 327681)], [(900, [.t (.sl 1 (x19.map (eInt .u8))), .t (.int .i64 x20), .t (.int .i64 x21)])], [(327681, .live 5 1 (x18.map (eInt .u8)))]⟩ ?_
    refine Wp.ret ?_
    obtain rfl := Option.some.inj h
    exact RetK [.own 327681] _ [[.t (.sl 1 (x19.map (eInt .u8))), .t (.int .i64 x20), .t (.int .i64 x21)]] kr kr (.refl _) (.cons ((.cons (.refl _) (.cons (.refl _) (.cons (.refl _) .nil)))) .nil)
  · refine Wp.srg [] [] ?_
    refine Runs.batch 3 kr ?_
    obtain ⟨r1, e_r1, h⟩ := bind_some h
    refine Runs.callK false 11 81 [] [.obj 900 0, .t (.int .i64 (bAdd .i64 p1 1))] _ _ _ rfl rfl kr kr kr kr kr (spec_l1Below_ok u p0 (bAdd .i64 p1 1) r1 e_r1) kr ?_
    refine Runs.alln ?_
    refine Wp.fg ⟨[(0, .obj 900 0), (4, .nil), (5, .own 458752), (6, .t (.int .i64 r1.1))], [(900, ((l1Cur.enc r1.2).map .t))], [(458752, .live 5 1 ((([] : List Int)).map (eInt .u8)))]⟩ ?_
    refine Wp.block ?_
    refine Wp.loopF (α := (List Int) × Int × (List Int) × Int × Int) (fun a => ⟨[(0, .obj 900 0), (4, .nil), (5, .own 327681), (6, .t (.int .i64 a.2.1))], [(900, [.t (.sl 1 (a.2.2.1.map (eInt .u8))), .t (.int .i64 a.2.2.2.1), .t (.int .i64 a.2.2.2.2)])], [(327681, .live 5 1 (a.1.map (eInt .u8)))]⟩) (fun k_spec_l3Bytes_l2 a => spec_l3Bytes_l2 u k_spec_l3Bytes_l2 a.1 a.2.1 a.2.2.1 a.2.2.2.1 a.2.2.2.2 = some r) ?_ ?_ u (([] : List Int), r1.1, r1.2.fB, r1.2.fI, r1.2.fH) h (Le.of (mo := []) (mr := [(327681, 458752)]) kr kr kr kr)
    · intro a h; unfold spec_l3Bytes_l2 at h; cases h
    · rintro k_spec_l3Bytes_l2 ⟨x7, x8, x9, x10, x11⟩ h
      change spec_l3Bytes_l2 u (k_spec_l3Bytes_l2 + 1) x7 x8 x9 x10 x11 = some r at h
      rw [spec_l3Bytes_l2] at h
      refine Wp.seq ?_
      refine Wp.srg [] [] ?_
      refine Runs.alln ?_
      refine Wp.fg ⟨[(0, .obj 900 0), (4, .nil), (5, .own 327681), (6, .t (.int .i64 x8)), (13, .t (.bool (decide (x8 > 0))))], [(900, [.t (.sl 1 (x9.map (eInt .u8))), .t (.int .i64 x10), .t (.int .i64 x11)])], [(327681, .live 5 1 (x7.map (eInt .u8)))]⟩ ?_
      refine Wp.cond2 (b := decide (x8 > 0)) kr (fun hc => ?_) (fun hc => ?_)
      · have h := cond_t h hc
        refine Wp.skip (thenN ?_)
        refine Wp.seq ?_
        refine Wp.block ?_
        refine Wp.rg [] [] ?_
        refine Runs.batch 3 kr ?_
        obtain ⟨r17, e_r17, h⟩ := bind_some h
        refine Runs.callK false 19 78 [] [.obj 900 0, .own 1179648] _ _ _ rfl rfl kr kr kr kr kr (spec_l1Int_ok u ((l1Cur.mk x9 x10 x11)) ([97, 98, 99, 0, 255]) r17 e_r17) kr ?_
        refine Runs.batch 2 kr ?_
        obtain ⟨_, e_18, h⟩ := bind_some h
        refine Runs.appT (y := .own 1376256) (eInt .u8) 22 1 5 1 1 327681 x7 ([IntKind.wrap .u8 r17.1]) rfl rfl rfl rfl kr kr kr kr kr kr (.inl rfl) kr (of_decide_eq_true (chk_some e_18)) kr kr ?_
        refine Runs.all kr ?_
        refine blkN ?_
        refine thenN ?_
        refine Wp.rg [] [] ?_
        refine Runs.alln ?_
        exact ⟨(x7 ++ ([IntKind.wrap .u8 r17.1]), bSub .i64 x8 1, r17.2.fB, r17.2.fI, r17.2.fH), h, Le.of (mo := []) (mr := [(327681, 1441792)]) kr kr kr kr⟩
      have h := cond_f h hc
      refine Wp.exit ?_
      refine thenE ?_
      refine thenE ?_
      refine blkE ?_
      refine thenN ?_
      exact ⟨(x7, x9, x10, x11), h, Le.of (mo := []) (mr := []) kr kr kr kr⟩
theorem spec_l1In_ok (u : Nat) (p0 : Int) (p1 : Int) (p2 : Int) (r : Bool) (h : spec_l1In u p0 p1 p2 = some r) : CallOK Try.prog 86 [.one (.t (.int .i64 p0)), .one (.t (.int .i64 p1)), .one (.t (.int .i64 p2))] (.one (.t (.bool r))) [] := by
  unfold spec_l1In at h
  refine CallOK.of_bodyK (fn := Try.f86) (m := false) [.t (.int .i64 p0), .t (.int .i64 p1), .t (.int .i64 p2)] kr rfl kr kr kr kr kr ?_
  refine Wp.srg [] [] ?_
  refine Runs.alln ?_
  refine Wp.fg ⟨[(0, .t (.int .i64 p0)), (1, .t (.int .i64 p1)), (2, .t (.int .i64 p2)), (6, .t (.bool false))], [], []⟩ ?_
  refine Wp.srg [] [] ?_
  refine Runs.batch 4 kr ?_
  rcases tf (decide (p0 ≥ p1)) with hc | hc
  · have h := cond_t h hc
    refine Runs.known 10 (v := true) kr hc ?_
    refine Runs.alln ?_
    refine Wp.fg ⟨[(6, .t (.bool (decide (p0 ≤ p2))))], [], []⟩ ?_
    refine Wp.ret ?_
    obtain rfl := Option.some.inj h
    exact RetK [.t (.bool (decide (p0 ≤ p2)))] _ [] kr kr (.refl _) .nil
  have h := cond_f h hc
  refine Runs.known 10 (v := false) kr hc ?_
  refine Runs.alln ?_
  refine Wp.fg ⟨[(6, .t (.bool false))], [], []⟩ ?_
  refine Wp.ret ?_
  obtain rfl := Option.some.inj h
  exact RetK [.t (.bool false)] _ [] kr kr (.refl _) .nil
theorem spec_DiskNew_okd (u : Nat) (p0 : Int) (p1 : List Int) (r : Disk) (h : spec_DiskNew u p0 p1 = some r) : DOK Try.prog 37 [.one (.t (.int .i64 p0)), .one (.t (.sl 1 (p1.map (eInt .u8))))] (.agg [.ow 5 1 (r.fA.map (eInt .u8)), .ow 5 1 (r.fB.map (eInt .u8)), .t (.int .i64 r.fR.fGen), .t (.int .i64 r.fR.fSlot), .t (.int .i64 r.fR.fLen), .ow 48 6 (r.fP.map Put.enc)]) := by
  unfold spec_DiskNew at h
  refine DOK.of_bodyK (fn := Try.f37) (m := true) kr rfl kr kr kr ?_
  refine Wp.srg [] [] ?_
  refine Runs.alln ?_
  refine Wp.fg ⟨[(0, .t (.int .i64 p0)), (1, .ext false (.sl 1 (p1.map (eInt .u8)))), (4, .obj 4 0)], [(4, [.nil, .nil, .t (.int .i64 0), .t (.int .i64 0), .t (.int .i64 0), .nil])], []⟩ ?_
  refine Wp.seq ?_
  refine Wp.seqJ (α := Int × (List Int) × Bool) (fun a => ⟨[(0, .t (.int .i64 a.1)), (1, .ext false (.sl 1 (a.2.1.map (eInt .u8)))), (4, .obj 4 0), (12, .t (.bool a.2.2))], [(4, [.nil, .nil, .t (.int .i64 0), .t (.int .i64 0), .t (.int .i64 0), .nil])], []⟩) (fun a => spec_DiskNew_j1 u a.1 a.2.1 a.2.2 = some r) ?_ ?_
  · rintro ⟨p0, p1, x2⟩ h
    change spec_DiskNew_j1 u p0 p1 x2 = some r at h
    unfold spec_DiskNew_j1 at h
    refine Wp.cond2 (b := x2) kr (fun hc => ?_) (fun hc => ?_)
    · have h := cond_t h hc
      refine Wp.srg [] [] ?_
      refine Runs.alln ?_
      refine Wp.fg ⟨[(0, .t (.int .i64 p0)), (1, .ext false (.sl 1 (p1.map (eInt .u8)))), (4, .obj 4 0)], [(4, [.nil, .nil, .t (.int .i64 0), .t (.int .i64 0), .t (.int .i64 0), .nil])], []⟩ ?_
      refine Wp.ret ?_
      refine thenR ?_
      obtain rfl := Option.some.inj h
      exact RetK [.agg [.nil, .nil, .t (.int .i64 0), .t (.int .i64 0), .t (.int .i64 0), .nil]] (.agg [.nil, .nil, .t (.int .i64 0), .t (.int .i64 0), .t (.int .i64 0), .nil]) [] kr kr (.agg (.cons (.nilO _ _) (.cons (.nilO _ _) (.cons (.refl _) (.cons (.refl _) (.cons (.refl _) (.cons (.nilO _ _) .nil))))))) .nil
    have h := cond_f h hc
    refine Wp.skip (thenN ?_)
    refine Wp.srg [] [] ?_
    refine Runs.batch 2 kr ?_
    obtain ⟨_, e_3, h⟩ := bind_some h
    refine Runs.appT (y := .ext false (.sl 1 (p1.map (eInt .u8)))) (eInt .u8) 16 1 5 1 1 917504 (([] : List Int)) p1 rfl rfl rfl rfl kr kr kr kr kr (rows_extI _ _ _) (.inl rfl) kr (of_decide_eq_true (chk_some e_3)) kr kr ?_
    refine Runs.batch 2 kr ?_
    refine Runs.lenX (e := 5) (eInt .u8) p1 false 1 rfl rfl rfl kr kr kr kr ?_
    refine Runs.alln ?_
    refine Wp.fg ⟨[(4, .obj 4 0)], [(4, [.own 1048576, .nil, .t (.int .i64 p0), .t (.int .i64 0), .t (.int .i64 ((p1.length : Int))), .nil])], [(1048576, .live 5 1 (((([] : List Int)) ++ p1).map (eInt .u8)))]⟩ ?_
    refine Wp.ret ?_
    obtain rfl := Option.some.inj h
    exact RetK [.agg [.own 1048576, .nil, .t (.int .i64 p0), .t (.int .i64 0), .t (.int .i64 ((p1.length : Int))), .nil]] (.agg [.ow 5 1 (((([] : List Int)) ++ p1).map (eInt .u8)), .nil, .t (.int .i64 p0), .t (.int .i64 0), .t (.int .i64 ((p1.length : Int))), .nil]) [] kr kr (.agg (.cons (.refl _) (.cons (.nilO _ _) (.cons (.refl _) (.cons (.refl _) (.cons (.refl _) (.cons (.nilO _ _) .nil))))))) .nil
  · refine Wp.rg [] [] ?_
    refine Runs.batch 1 kr ?_
    obtain ⟨r1, e_r1, h⟩ := bind_some h
    refine Runs.callK false 6 86 [] [.t (.int .i64 p0), .t (.int .i64 0), .t (.int .i64 1000000)] _ _ _ rfl rfl kr kr kr kr kr (spec_l1In_ok u p0 0 1000000 r1 e_r1) kr ?_
    refine Runs.batch 2 kr ?_
    rcases tf (!r1) with hc | hc
    · have h := cond_t h hc
      refine Runs.known 8 (v := true) kr hc ?_
      refine Runs.alln ?_
      exact ⟨(p0, p1, true), h, Le.of (mo := []) (mr := []) kr kr kr kr⟩
    have h := cond_f h hc
    refine Runs.known 8 (v := false) kr hc ?_
    refine Runs.batch 1 kr ?_
    refine Runs.lenX (e := 5) (eInt .u8) p1 false 1 rfl rfl rfl kr kr kr kr ?_
    refine Runs.alln ?_
    exact ⟨(p0, p1, decide (((p1.length : Int)) > 240)), h, Le.of (mo := []) (mr := []) kr kr kr kr⟩
theorem spec_l1Once_ok (u : Nat) (p0 : l1Cur) (p1 : Int) (r : Bool × l1Cur) (h : spec_l1Once u p0 p1 = some r) : CallOK Try.prog 80 [.ptr [.t (.sl 1 (p0.fB.map (eInt .u8))), .t (.int .i64 p0.fI), .t (.int .i64 p0.fH)], .one (.t (.int .i64 p1))] (.one (.t (.bool r.1))) [[.t (.sl 1 (r.2.fB.map (eInt .u8))), .t (.int .i64 r.2.fI), .t (.int .i64 r.2.fH)]] := by
  unfold spec_l1Once at h
  refine CallOK.of_bodyK (fn := Try.f80) (m := false) [.obj 900 0, .t (.int .i64 p1)] kr rfl kr kr kr kr kr ?_
  refine Wp.srg [] [] ?_
  refine Runs.alln ?_
  refine Wp.fg ⟨[(0, .obj 900 0), (1, .t (.int .i64 p1)), (4, .t (.bool false))], [(900, ((l1Cur.enc p0).map .t))], []⟩ ?_
  refine Wp.srg [] [] ?_
  refine Runs.batch 2 kr ?_
  obtain ⟨r1, e_r1, h⟩ := bind_some h
  refine Runs.callK false 7 81 [] [.obj 900 0, .t (.int .i64 p1)] _ _ _ rfl rfl kr kr kr kr kr (spec_l1Below_ok u p0 p1 r1 e_r1) kr ?_
  refine Runs.alln ?_
  refine Wp.fg ⟨[(4, .t (.bool (r1.1 == 0)))], [(900, ((l1Cur.enc r1.2).map .t))], []⟩ ?_
  refine Wp.ret ?_
  obtain rfl := Option.some.inj h
  exact RetK [.t (.bool (r1.1 == 0))] _ [((l1Cur.enc r1.2).map .t)] kr kr (.refl _) (.cons ((.cons (.refl _) (.cons (.refl _) (.cons (.refl _) .nil)))) .nil)
theorem spec_l9OnePut_ok (u : Nat) (p0 : l1Cur) (r : Put × l1Cur) (h : spec_l9OnePut u p0 = some r) : CallOK Try.prog 79 [.ptr [.t (.sl 1 (p0.fB.map (eInt .u8))), .t (.int .i64 p0.fI), .t (.int .i64 p0.fH)]] (.agg [.t (.int .i64 r.1.fWhat), .t (.int .i64 r.1.fAt), .ow 5 1 (r.1.fB.map (eInt .u8)), .t (.int .i64 r.1.fR.fGen), .t (.int .i64 r.1.fR.fSlot), .t (.int .i64 r.1.fR.fLen)]) [[.t (.sl 1 (r.2.fB.map (eInt .u8))), .t (.int .i64 r.2.fI), .t (.int .i64 r.2.fH)]] := by
  unfold spec_l9OnePut at h
  refine CallOK.of_bodyK (fn := Try.f79) (m := true) [.obj 900 0] kr rfl kr kr kr kr kr ?_
  refine Wp.srg [] [] ?_
  refine Runs.alln ?_
  refine Wp.fg ⟨[(0, .obj 900 0), (2, .obj 2 0)], [(2, [.t (.int .i64 0), .t (.int .i64 0), .nil, .t (.int .i64 0), .t (.int .i64 0), .t (.int .i64 0)]), (900, ((l1Cur.enc p0).map .t))], []⟩ ?_
  refine Wp.seq ?_
  refine Wp.srg [] [] ?_
  refine Runs.batch 1 kr ?_
  obtain ⟨r1, e_r1, h⟩ := bind_some h
  refine Runs.callK false 4 80 [] [.obj 900 0, .t (.int .i64 4)] _ _ _ rfl rfl kr kr kr kr kr (spec_l1Once_ok u p0 4 r1 e_r1) kr ?_
  refine Runs.done ?_
  refine thenN ?_
  refine Wp.fg ⟨[(0, .obj 900 0), (2, .obj 2 0), (4, .t (.bool r1.1))], [(2, [.t (.int .i64 0), .t (.int .i64 0), .nil, .t (.int .i64 0), .t (.int .i64 0), .t (.int .i64 0)]), (900, ((l1Cur.enc r1.2).map .t))], []⟩ ?_
  refine Wp.cond2 (b := r1.1) kr (fun hc => ?_) (fun hc => ?_)
  · have h := cond_t h hc
    refine Wp.srg [] [] ?_
    refine Runs.batch 1 kr ?_
    obtain ⟨r2, e_r2, h⟩ := bind_some h
    refine Runs.callK false 6 81 [] [.obj 900 0, .t (.int .i64 4)] _ _ _ rfl rfl kr kr kr kr kr (spec_l1Below_ok u r1.2 4 r2 e_r2) kr ?_
    refine Runs.batch 1 kr ?_
    obtain ⟨r3, e_r3, h⟩ := bind_some h
    refine Runs.callK false 8 81 [] [.obj 900 0, .t (.int .i64 2)] _ _ _ rfl rfl kr kr kr kr kr (spec_l1Below_ok u r2.2 2 r3 e_r3) kr ?_
    refine Runs.batch 1 kr ?_
    obtain ⟨r4, e_r4, h⟩ := bind_some h
    refine Runs.callK false 10 81 [] [.obj 900 0, .t (.int .i64 6)] _ _ _ rfl rfl kr kr kr kr kr (spec_l1Below_ok u r3.2 6 r4 e_r4) kr ?_
    refine Runs.alln ?_
    refine Wp.fg ⟨[(0, .obj 900 0), (2, .obj 2 0)], [(2, [.t (.int .i64 2), .t (.int .i64 0), .nil, .t (.int .i64 r2.1), .t (.int .i64 r3.1), .t (.int .i64 r4.1)]), (900, ((l1Cur.enc r4.2).map .t))], []⟩ ?_
    refine Wp.ret ?_
    refine thenR ?_
    obtain rfl := Option.some.inj h
    exact RetK [.agg [.t (.int .i64 2), .t (.int .i64 0), .nil, .t (.int .i64 r2.1), .t (.int .i64 r3.1), .t (.int .i64 r4.1)]] (.agg [.t (.int .i64 2), .t (.int .i64 0), .nil, .t (.int .i64 r2.1), .t (.int .i64 r3.1), .t (.int .i64 r4.1)]) [((l1Cur.enc r4.2).map .t)] kr kr (.agg (.cons (.refl _) (.cons (.refl _) (.cons (.nilO _ _) (.cons (.refl _) (.cons (.refl _) (.cons (.refl _) .nil))))))) (.cons ((.cons (.refl _) (.cons (.refl _) (.cons (.refl _) .nil)))) .nil)
  have h := cond_f h hc
  refine Wp.skip (thenN ?_)
  refine Wp.srg [] [] ?_
  refine Runs.batch 1 kr ?_
  obtain ⟨r5, e_r5, h⟩ := bind_some h
  refine Runs.callK false 14 81 [] [.obj 900 0, .t (.int .i64 2)] _ _ _ rfl rfl kr kr kr kr kr (spec_l1Below_ok u r1.2 2 r5 e_r5) kr ?_
  refine Runs.batch 1 kr ?_
  obtain ⟨r6, e_r6, h⟩ := bind_some h
  refine Runs.callK false 16 81 [] [.obj 900 0, .t (.int .i64 9)] _ _ _ rfl rfl kr kr kr kr kr (spec_l1Below_ok u r5.2 9 r6 e_r6) kr ?_
  refine Runs.batch 1 kr ?_
  obtain ⟨r7, e_r7, h⟩ := bind_some h
  refine Runs.callK false 18 82 [] [.obj 900 0, .t (.int .i64 5)] _ _ _ rfl rfl kr kr kr kr kr (spec_l3Bytes_ok u r6.2 5 r7 e_r7) kr ?_
  refine Runs.alln ?_
  refine Wp.fg ⟨[(2, .obj 2 0)], [(2, [.t (.int .i64 r5.1), .t (.int .i64 r6.1), .own 1179648, .t (.int .i64 0), .t (.int .i64 0), .t (.int .i64 0)]), (900, ((l1Cur.enc r7.2).map .t))], [(1179648, .live 5 1 (r7.1.map (eInt .u8)))]⟩ ?_
  refine Wp.ret ?_
  obtain rfl := Option.some.inj h
  exact RetK [.agg [.t (.int .i64 r5.1), .t (.int .i64 r6.1), .own 1179648, .t (.int .i64 0), .t (.int .i64 0), .t (.int .i64 0)]] _ [((l1Cur.enc r7.2).map .t)] kr kr (.refl _) (.cons ((.cons (.refl _) (.cons (.refl _) (.cons (.refl _) .nil)))) .nil)
theorem spec_l9CopyPut_okd (u : Nat) (p0 : Put) (r : Put) (h : spec_l9CopyPut u p0 = some r) : DOK Try.prog 139 [.agg [.t (.int .i64 p0.fWhat), .t (.int .i64 p0.fAt), .t (.sl 1 (p0.fB.map (eInt .u8))), .t (.int .i64 p0.fR.fGen), .t (.int .i64 p0.fR.fSlot), .t (.int .i64 p0.fR.fLen)]] (.agg [.t (.int .i64 r.fWhat), .t (.int .i64 r.fAt), .ow 5 1 (r.fB.map (eInt .u8)), .t (.int .i64 r.fR.fGen), .t (.int .i64 r.fR.fSlot), .t (.int .i64 r.fR.fLen)]) := by
  unfold spec_l9CopyPut at h
  refine DOK.of_bodyK (fn := Try.f139) (m := true) kr rfl kr kr kr ?_
  refine Wp.srg [] [] ?_
  refine Runs.alln ?_
  refine Wp.fg ⟨[(1, .obj 1 0), (2, .obj 2 0)], [(1, [.t (.int .i64 p0.fWhat), .t (.int .i64 p0.fAt), .ext false (.sl 1 (p0.fB.map (eInt .u8))), .t (.int .i64 p0.fR.fGen), .t (.int .i64 p0.fR.fSlot), .t (.int .i64 p0.fR.fLen)]), (2, [.t (.int .i64 0), .t (.int .i64 0), .nil, .t (.int .i64 0), .t (.int .i64 0), .t (.int .i64 0)])], []⟩ ?_
  refine Wp.srg [] [] ?_
  refine Runs.alln ?_
  refine Wp.fg ⟨[(1, .obj 1 0), (2, .obj 2 0), (3, .obj 3 0)], [(1, [.t (.int .i64 p0.fWhat), .t (.int .i64 p0.fAt), .ext false (.sl 1 (p0.fB.map (eInt .u8))), .t (.int .i64 p0.fR.fGen), .t (.int .i64 p0.fR.fSlot), .t (.int .i64 p0.fR.fLen)]), (2, [.t (.int .i64 0), .t (.int .i64 0), .nil, .t (.int .i64 0), .t (.int .i64 0), .t (.int .i64 0)]), (3, [.t (.int .i64 p0.fWhat), .t (.int .i64 p0.fAt), .ext false (.sl 1 (p0.fB.map (eInt .u8))), .t (.int .i64 p0.fR.fGen), .t (.int .i64 p0.fR.fSlot), .t (.int .i64 p0.fR.fLen)])], []⟩ ?_
  refine Wp.srg [] [] ?_
  refine Runs.batch 3 kr ?_
  obtain ⟨_, e_1, h⟩ := bind_some h
  refine Runs.appT (y := .ext false (.sl 1 (p0.fB.map (eInt .u8)))) (eInt .u8) 8 1 5 1 1 327680 (([] : List Int)) p0.fB rfl rfl rfl rfl kr kr kr kr kr (rows_extI _ _ _) (.inl rfl) kr (of_decide_eq_true (chk_some e_1)) kr kr ?_
  refine Runs.alln ?_
  refine Wp.fg ⟨[(2, .obj 2 0), (3, .obj 3 0)], [(2, [.t (.int .i64 0), .t (.int .i64 0), .nil, .t (.int .i64 0), .t (.int .i64 0), .t (.int .i64 0)]), (3, [.t (.int .i64 p0.fWhat), .t (.int .i64 p0.fAt), .own 524288, .t (.int .i64 p0.fR.fGen), .t (.int .i64 p0.fR.fSlot), .t (.int .i64 p0.fR.fLen)])], [(524288, .live 5 1 (((([] : List Int)) ++ p0.fB).map (eInt .u8)))]⟩ ?_
  refine Wp.srg [] [] ?_
  refine Runs.alln ?_
  refine Wp.fg ⟨[(2, .obj 2 0)], [(2, [.t (.int .i64 p0.fWhat), .t (.int .i64 p0.fAt), .own 524288, .t (.int .i64 p0.fR.fGen), .t (.int .i64 p0.fR.fSlot), .t (.int .i64 p0.fR.fLen)])], [(524288, .live 5 1 (((([] : List Int)) ++ p0.fB).map (eInt .u8)))]⟩ ?_
  refine Wp.ret ?_
  obtain rfl := Option.some.inj h
  exact RetK [.agg [.t (.int .i64 p0.fWhat), .t (.int .i64 p0.fAt), .own 524288, .t (.int .i64 p0.fR.fGen), .t (.int .i64 p0.fR.fSlot), .t (.int .i64 p0.fR.fLen)]] _ [] kr kr (.refl _) .nil
theorem spec_l9Copy_okd (u : Nat) (p0 : Disk) (r : Disk) (h : spec_l9Copy u p0 = some r) : DOK Try.prog 87 [.agg [.t (.sl 1 (p0.fA.map (eInt .u8))), .t (.sl 1 (p0.fB.map (eInt .u8))), .t (.int .i64 p0.fR.fGen), .t (.int .i64 p0.fR.fSlot), .t (.int .i64 p0.fR.fLen), .t (.sl 6 (p0.fP.map Put.enc))]] (.agg [.ow 5 1 (r.fA.map (eInt .u8)), .ow 5 1 (r.fB.map (eInt .u8)), .t (.int .i64 r.fR.fGen), .t (.int .i64 r.fR.fSlot), .t (.int .i64 r.fR.fLen), .ow 48 6 (r.fP.map Put.enc)]) := by
  unfold spec_l9Copy at h
  refine DOK.of_bodyK (fn := Try.f87) (m := true) kr rfl kr kr kr ?_
  refine Wp.srg [] [] ?_
  refine Runs.alln ?_
  refine Wp.fg ⟨[(1, .obj 1 0), (2, .obj 2 0)], [(1, [.ext false (.sl 1 (p0.fA.map (eInt .u8))), .ext false (.sl 1 (p0.fB.map (eInt .u8))), .t (.int .i64 p0.fR.fGen), .t (.int .i64 p0.fR.fSlot), .t (.int .i64 p0.fR.fLen), .ext false (.sl 6 (p0.fP.map Put.enc))]), (2, [.nil, .nil, .t (.int .i64 0), .t (.int .i64 0), .t (.int .i64 0), .nil])], []⟩ ?_
  refine Wp.seq ?_
  refine Wp.regionA (pOf []) (rhoOf [(1, .obj 1), (3, .obj 3), (6, .own 6), (7, .obj 1), (8, .frz), (9, .own 9), (10, .own 10), (11, .obj 1), (12, .frz), (13, .own 13), (14, .obj 1), (15, .frz), (16, .own 16)]) kr kr ?_
  refine Runs.batch 3 kr ?_
  obtain ⟨_, e_1, h⟩ := bind_some h
  refine Runs.appT (y := .ext false (.sl 1 (p0.fA.map (eInt .u8)))) (eInt .u8) 9 1 5 1 1 393216 (([] : List Int)) p0.fA rfl rfl rfl rfl kr kr kr kr kr (rows_extI _ _ _) (.inl rfl) kr (of_decide_eq_true (chk_some e_1)) kr kr ?_
  refine Runs.batch 3 kr ?_
  obtain ⟨_, e_2, h⟩ := bind_some h
  refine Runs.appT (y := .ext false (.sl 1 (p0.fB.map (eInt .u8)))) (eInt .u8) 13 1 5 1 1 655360 (([] : List Int)) p0.fB rfl rfl rfl rfl kr kr kr kr kr (rows_extI _ _ _) (.inl rfl) kr (of_decide_eq_true (chk_some e_2)) kr kr ?_
  refine Runs.alln ?_
  refine Wp.fg ⟨[(1, .obj 1 0), (2, .obj 2 0), (3, .obj 3 0)], [(1, [.ext false (.sl 1 (p0.fA.map (eInt .u8))), .ext false (.sl 1 (p0.fB.map (eInt .u8))), .t (.int .i64 p0.fR.fGen), .t (.int .i64 p0.fR.fSlot), .t (.int .i64 p0.fR.fLen), .ext false (.sl 6 (p0.fP.map Put.enc))]), (2, [.nil, .nil, .t (.int .i64 0), .t (.int .i64 0), .t (.int .i64 0), .nil]), (3, [.own 589824, .own 851968, .t (.int .i64 p0.fR.fGen), .t (.int .i64 p0.fR.fSlot), .t (.int .i64 p0.fR.fLen), .own 1048576])], [(589824, .live 5 1 (((([] : List Int)) ++ p0.fA).map (eInt .u8))), (851968, .live 5 1 (((([] : List Int)) ++ p0.fB).map (eInt .u8))), (1048576, .live 48 6 ((([] : List Put)).map Put.enc))]⟩ ?_
  refine Wp.seqJ (α := Disk × (List Put)) (fun a => ⟨[(2, .obj 2 0), (3, .obj 3 0)], [(2, [.nil, .nil, .t (.int .i64 0), .t (.int .i64 0), .t (.int .i64 0), .nil]), (3, [.own 197120, .own 197121, .t (.int .i64 a.1.fR.fGen), .t (.int .i64 a.1.fR.fSlot), .t (.int .i64 a.1.fR.fLen), .own 197125])], [(197120, .live 5 1 (((([] : List Int)) ++ a.1.fA).map (eInt .u8))), (197121, .live 5 1 (((([] : List Int)) ++ a.1.fB).map (eInt .u8))), (197125, .live 48 6 (a.2.map Put.enc))]⟩) (fun a => spec_l9Copy_j1 u a.1 a.2 = some r) ?_ ?_
  · rintro ⟨p0, x11⟩ h
    change spec_l9Copy_j1 u p0 x11 = some r at h
    unfold spec_l9Copy_j1 at h
    refine Wp.srg [] [] ?_
    refine Runs.alln ?_
    refine Wp.fg ⟨[(2, .obj 2 0)], [(2, [.own 197120, .own 197121, .t (.int .i64 p0.fR.fGen), .t (.int .i64 p0.fR.fSlot), .t (.int .i64 p0.fR.fLen), .own 197125])], [(197120, .live 5 1 (((([] : List Int)) ++ p0.fA).map (eInt .u8))), (197121, .live 5 1 (((([] : List Int)) ++ p0.fB).map (eInt .u8))), (197125, .live 48 6 (x11.map Put.enc))]⟩ ?_
    refine Wp.ret ?_
    obtain rfl := Option.some.inj h
    exact RetK [.agg [.own 197120, .own 197121, .t (.int .i64 p0.fR.fGen), .t (.int .i64 p0.fR.fSlot), .t (.int .i64 p0.fR.fLen), .own 197125]] _ [] kr kr (.refl _) .nil
  · refine Wp.srg [] [] ?_
    refine Runs.alln ?_
    refine Wp.fg ⟨[(1, .obj 1 0), (2, .obj 2 0), (3, .obj 3 0), (4, .t (.int .i64 0))], [(1, [.ext false (.sl 1 (p0.fA.map (eInt .u8))), .ext false (.sl 1 (p0.fB.map (eInt .u8))), .t (.int .i64 p0.fR.fGen), .t (.int .i64 p0.fR.fSlot), .t (.int .i64 p0.fR.fLen), .ext false (.sl 6 (p0.fP.map Put.enc))]), (2, [.nil, .nil, .t (.int .i64 0), .t (.int .i64 0), .t (.int .i64 0), .nil]), (3, [.own 589824, .own 851968, .t (.int .i64 p0.fR.fGen), .t (.int .i64 p0.fR.fSlot), .t (.int .i64 p0.fR.fLen), .own 1048576])], [(589824, .live 5 1 (((([] : List Int)) ++ p0.fA).map (eInt .u8))), (851968, .live 5 1 (((([] : List Int)) ++ p0.fB).map (eInt .u8))), (1048576, .live 48 6 ((([] : List Put)).map Put.enc))]⟩ ?_
    refine Wp.block ?_
    refine Wp.loopF (α := Int × Disk × (List Put)) (fun a => ⟨[(1, .obj 1 0), (2, .obj 2 0), (3, .obj 3 0), (4, .t (.int .i64 a.1))], [(1, [.ext false (.sl 1 (a.2.1.fA.map (eInt .u8))), .ext false (.sl 1 (a.2.1.fB.map (eInt .u8))), .t (.int .i64 a.2.1.fR.fGen), .t (.int .i64 a.2.1.fR.fSlot), .t (.int .i64 a.2.1.fR.fLen), .ext false (.sl 6 (a.2.1.fP.map Put.enc))]), (2, [.nil, .nil, .t (.int .i64 0), .t (.int .i64 0), .t (.int .i64 0), .nil]), (3, [.own 197120, .own 197121, .t (.int .i64 a.2.1.fR.fGen), .t (.int .i64 a.2.1.fR.fSlot), .t (.int .i64 a.2.1.fR.fLen), .own 197125])], [(197120, .live 5 1 (((([] : List Int)) ++ a.2.1.fA).map (eInt .u8))), (197121, .live 5 1 (((([] : List Int)) ++ a.2.1.fB).map (eInt .u8))), (197125, .live 48 6 (a.2.2.map Put.enc))]⟩) (fun k_spec_l9Copy_l2 a => spec_l9Copy_l2 u k_spec_l9Copy_l2 a.1 a.2.1 a.2.2 = some r) ?_ ?_ u (0, p0, ([] : List Put)) h (Le.of (mo := []) (mr := [(197120, 589824), (197121, 851968), (197125, 1048576)]) kr kr kr kr)
    · intro a h; unfold spec_l9Copy_l2 at h; cases h
    · rintro k_spec_l9Copy_l2 ⟨x5, p0, x6⟩ h
      change spec_l9Copy_l2 u (k_spec_l9Copy_l2 + 1) x5 p0 x6 = some r at h
      rw [spec_l9Copy_l2] at h
      refine Wp.seq ?_
      refine Wp.srg [] [] ?_
      refine Runs.batch 3 kr ?_
      refine Runs.lenX (e := 48) Put.enc p0.fP false 6 rfl rfl rfl kr kr kr kr ?_
      refine Runs.alln ?_
      refine Wp.fg ⟨[(1, .obj 1 0), (2, .obj 2 0), (3, .obj 3 0), (4, .t (.int .i64 x5)), (22, .t (.bool (decide (x5 < ((p0.fP.length : Int))))))], [(1, [.ext false (.sl 1 (p0.fA.map (eInt .u8))), .ext false (.sl 1 (p0.fB.map (eInt .u8))), .t (.int .i64 p0.fR.fGen), .t (.int .i64 p0.fR.fSlot), .t (.int .i64 p0.fR.fLen), .ext false (.sl 6 (p0.fP.map Put.enc))]), (2, [.nil, .nil, .t (.int .i64 0), .t (.int .i64 0), .t (.int .i64 0), .nil]), (3, [.own 197120, .own 197121, .t (.int .i64 p0.fR.fGen), .t (.int .i64 p0.fR.fSlot), .t (.int .i64 p0.fR.fLen), .own 197125])], [(197120, .live 5 1 (((([] : List Int)) ++ p0.fA).map (eInt .u8))), (197121, .live 5 1 (((([] : List Int)) ++ p0.fB).map (eInt .u8))), (197125, .live 48 6 (x6.map Put.enc))]⟩ ?_
      refine Wp.cond2 (b := decide (x5 < ((p0.fP.length : Int)))) kr (fun hc => ?_) (fun hc => ?_)
      · have h := cond_t h hc
        refine Wp.skip (thenN ?_)
        refine Wp.seq ?_
        refine Wp.block ?_
        refine Wp.srg [] [] ?_
        refine Runs.batch 3 kr ?_
        obtain ⟨y9, e_y9, h⟩ := bind_some h
        refine Runs.idxX (e := 48) (kk := .i64) (sz := 6) Put.enc p0.fP x5 false rfl kr kr kr kr kr kr e_y9 ?_
        refine Runs.batch 1 kr ?_
        obtain ⟨r10, e_r10, h⟩ := bind_some h
        refine Runs.callDK 30 139 [] [.agg [.t (.int .i64 y9.fWhat), .t (.int .i64 y9.fAt), .ext false (.sl 1 (y9.fB.map (eInt .u8))), .t (.int .i64 y9.fR.fGen), .t (.int .i64 y9.fR.fSlot), .t (.int .i64 y9.fR.fLen)]] [.agg ((Put.enc y9).map .t)] (.agg [.t (.int .i64 r10.fWhat), .t (.int .i64 r10.fAt), .ow 5 1 (r10.fB.map (eInt .u8)), .t (.int .i64 r10.fR.fGen), .t (.int .i64 r10.fR.fSlot), .t (.int .i64 r10.fR.fLen)]) rfl rfl kr kr kr kr kr (spec_l9CopyPut_okd u y9 r10 e_r10) kr ?_
        refine Runs.alln ?_
        refine Wp.fg ⟨[(1, .obj 1 0), (2, .obj 2 0), (3, .obj 3 0), (4, .t (.int .i64 x5)), (5, .obj 5 0)], [(1, [.ext false (.sl 1 (p0.fA.map (eInt .u8))), .ext false (.sl 1 (p0.fB.map (eInt .u8))), .t (.int .i64 p0.fR.fGen), .t (.int .i64 p0.fR.fSlot), .t (.int .i64 p0.fR.fLen), .ext false (.sl 6 (p0.fP.map Put.enc))]), (2, [.nil, .nil, .t (.int .i64 0), .t (.int .i64 0), .t (.int .i64 0), .nil]), (3, [.own 197120, .own 197121, .t (.int .i64 p0.fR.fGen), .t (.int .i64 p0.fR.fSlot), .t (.int .i64 p0.fR.fLen), .own 197125]), (5, [.t (.int .i64 r10.fWhat), .t (.int .i64 r10.fAt), .own 1966082, .t (.int .i64 r10.fR.fGen), .t (.int .i64 r10.fR.fSlot), .t (.int .i64 r10.fR.fLen)])], [(197120, .live 5 1 (((([] : List Int)) ++ p0.fA).map (eInt .u8))), (197121, .live 5 1 (((([] : List Int)) ++ p0.fB).map (eInt .u8))), (197125, .live 48 6 (x6.map Put.enc)), (1966082, .live 5 1 (r10.fB.map (eInt .u8)))]⟩ ?_
        refine Wp.rg [] [] ?_
        refine Runs.batch 4 kr ?_
        obtain ⟨_, e_11, h⟩ := bind_some h
        refine Runs.appT (y := .own 2228224) Put.enc 35 6 48 6 64 197125 x6 ([r10]) rfl rfl rfl rfl kr kr kr kr kr kr (.inl rfl) kr (of_decide_eq_true (chk_some e_11)) kr kr ?_
        refine Runs.all kr ?_
        refine blkN ?_
        refine thenN ?_
        refine Wp.rg [] [] ?_
        refine Runs.alln ?_
        exact ⟨(bAdd .i64 x5 1, p0, x6 ++ ([r10])), h, Le.of (mo := []) (mr := [(197125, 2293760)]) kr kr kr kr⟩
      have h := cond_f h hc
      refine Wp.exit ?_
      refine thenE ?_
      refine thenE ?_
      refine blkE ?_
      refine thenN ?_
      exact ⟨(p0, x6), h, Le.of (mo := []) (mr := []) kr kr kr kr⟩
theorem spec_l9Record_ok (u : Nat) (p0 : Record) (r : Bool) (h : spec_l9Record u p0 = some r) : CallOK Try.prog 104 [.agg [.t (.int .i64 p0.fGen), .t (.int .i64 p0.fSlot), .t (.int .i64 p0.fLen)]] (.one (.t (.bool r))) [] := by
  unfold spec_l9Record at h
  refine CallOK.of_bodyK (fn := Try.f104) (m := false) [.agg ((Record.enc p0).map .t)] kr rfl kr kr kr kr kr ?_
  refine Wp.srg [] [] ?_
  refine Runs.alln ?_
  refine Wp.fg ⟨[(1, .obj 1 0), (2, .t (.bool false))], [(1, ((Record.enc p0).map .t))], []⟩ ?_
  refine Wp.srg [] [] ?_
  refine Runs.batch 2 kr ?_
  obtain ⟨r1, e_r1, h⟩ := bind_some h
  refine Runs.callK false 5 86 [] [.t (.int .i64 p0.fGen), .t (.int .i64 0), .t (.int .i64 1000000)] _ _ _ rfl rfl kr kr kr kr kr (spec_l1In_ok u p0.fGen 0 1000000 r1 e_r1) kr ?_
  refine Runs.batch 1 kr ?_
  rcases tf (r1) with hc | hc
  · have h := cond_t h hc
    refine Runs.known 6 (v := true) kr hc ?_
    refine Runs.batch 2 kr ?_
    obtain ⟨r2, e_r2, h⟩ := bind_some h
    refine Runs.callK false 9 86 [] [.t (.int .i64 p0.fSlot), .t (.int .i64 0), .t (.int .i64 1)] _ _ _ rfl rfl kr kr kr kr kr (spec_l1In_ok u p0.fSlot 0 1 r2 e_r2) kr ?_
    refine Runs.batch 2 kr ?_
    rcases tf (r2) with hc | hc
    · have h := cond_t h hc
      refine Runs.known 11 (v := true) kr hc ?_
      refine Runs.batch 2 kr ?_
      obtain ⟨r3, e_r3, h⟩ := bind_some h
      refine Runs.callK false 14 86 [] [.t (.int .i64 p0.fLen), .t (.int .i64 0), .t (.int .i64 240)] _ _ _ rfl rfl kr kr kr kr kr (spec_l1In_ok u p0.fLen 0 240 r3 e_r3) kr ?_
      refine Runs.alln ?_
      refine Wp.fg ⟨[(2, .t (.bool r3))], [], []⟩ ?_
      refine Wp.ret ?_
      obtain rfl := Option.some.inj h
      exact RetK [.t (.bool r3)] _ [] kr kr (.refl _) .nil
    have h := cond_f h hc
    refine Runs.known 11 (v := false) kr hc ?_
    refine Runs.alln ?_
    refine Wp.fg ⟨[(2, .t (.bool false))], [], []⟩ ?_
    refine Wp.ret ?_
    obtain rfl := Option.some.inj h
    exact RetK [.t (.bool false)] _ [] kr kr (.refl _) .nil
  have h := cond_f h hc
  refine Runs.known 6 (v := false) kr hc ?_
  refine Runs.alln ?_
  refine Wp.fg ⟨[(2, .t (.bool false))], [], []⟩ ?_
  refine Wp.ret ?_
  obtain rfl := Option.some.inj h
  exact RetK [.t (.bool false)] _ [] kr kr (.refl _) .nil
theorem spec_l9Slot_ok (u : Nat) (p0 : Disk) (p1 : Int) (r : (List Int)) (h : spec_l9Slot u p0 p1 = some r) : CallOK Try.prog 105 [.agg [.t (.sl 1 (p0.fA.map (eInt .u8))), .t (.sl 1 (p0.fB.map (eInt .u8))), .t (.int .i64 p0.fR.fGen), .t (.int .i64 p0.fR.fSlot), .t (.int .i64 p0.fR.fLen), .t (.sl 6 (p0.fP.map Put.enc))], .one (.t (.int .i64 p1))] (.one (.t (.sl 1 (r.map (eInt .u8))))) [] := by
  unfold spec_l9Slot at h
  refine CallOK.of_bodyK (fn := Try.f105) (m := false) [.agg ((Disk.enc p0).map .t), .t (.int .i64 p1)] kr rfl kr kr kr kr kr ?_
  refine Wp.srg [] [] ?_
  refine Runs.alln ?_
  refine Wp.fg ⟨[(1, .t (.int .i64 p1)), (2, .obj 2 0), (4, .nil)], [(2, ((Disk.enc p0).map .t))], []⟩ ?_
  refine Wp.seq ?_
  refine Wp.srg [] [] ?_
  refine Runs.alln ?_
  refine Wp.fg ⟨[(2, .obj 2 0), (4, .nil), (6, .t (.bool (p1 == 1)))], [(2, ((Disk.enc p0).map .t))], []⟩ ?_
  refine Wp.cond2 (b := p1 == 1) kr (fun hc => ?_) (fun hc => ?_)
  · have h := cond_t h hc
    refine Wp.srg [] [] ?_
    refine Runs.alln ?_
    refine Wp.fg ⟨[(2, .obj 2 0), (4, .t (.sl 1 (p0.fB.map (eInt .u8))))], [(2, ((Disk.enc p0).map .t))], []⟩ ?_
    refine Wp.ret ?_
    refine thenR ?_
    obtain rfl := Option.some.inj h
    exact RetK [.t (.sl 1 (p0.fB.map (eInt .u8)))] _ [] kr kr (.refl _) .nil
  have h := cond_f h hc
  refine Wp.skip (thenN ?_)
  refine Wp.srg [] [] ?_
  refine Runs.alln ?_
  refine Wp.fg ⟨[(4, .t (.sl 1 (p0.fA.map (eInt .u8))))], [], []⟩ ?_
  refine Wp.ret ?_
  obtain rfl := Option.some.inj h
  exact RetK [.t (.sl 1 (p0.fA.map (eInt .u8)))] _ [] kr kr (.refl _) .nil
theorem spec_l9Put_ok (u : Nat) (p0 : Put) (r : Bool) (h : spec_l9Put u p0 = some r) : CallOK Try.prog 95 [.agg [.t (.int .i64 p0.fWhat), .t (.int .i64 p0.fAt), .t (.sl 1 (p0.fB.map (eInt .u8))), .t (.int .i64 p0.fR.fGen), .t (.int .i64 p0.fR.fSlot), .t (.int .i64 p0.fR.fLen)]] (.one (.t (.bool r))) [] := by
  unfold spec_l9Put at h
  refine CallOK.of_bodyK (fn := Try.f95) (m := false) [.agg ((Put.enc p0).map .t)] kr rfl kr kr kr kr kr ?_
  refine Wp.srg [] [] ?_
  refine Runs.alln ?_
  refine Wp.fg ⟨[(1, .obj 1 0), (2, .t (.bool false))], [(1, ((Put.enc p0).map .t))], []⟩ ?_
  refine Wp.srg [] [] ?_
  refine Runs.alln ?_
  refine Wp.fg ⟨[(1, .obj 1 0), (2, .t (.bool false)), (3, .obj 3 0)], [(1, ((Put.enc p0).map .t)), (3, [.t (.int .i64 0), .t (.int .i64 0), .t (.int .i64 0)])], []⟩ ?_
  refine Wp.seq ?_
  refine Wp.srg [] [] ?_
  refine Runs.alln ?_
  refine Wp.fg ⟨[(1, .obj 1 0), (2, .t (.bool false)), (3, .obj 3 0), (7, .t (.bool (p0.fWhat == 2)))], [(1, ((Put.enc p0).map .t)), (3, [.t (.int .i64 0), .t (.int .i64 0), .t (.int .i64 0)])], []⟩ ?_
  refine Wp.cond2 (b := p0.fWhat == 2) kr (fun hc => ?_) (fun hc => ?_)
  · have h := cond_t h hc
    refine Wp.srg [] [] ?_
    refine Runs.batch 4 kr ?_
    rcases tf (p0.fAt == 0) with hc | hc
    · have h := cond_t h hc
      refine Runs.known 11 (v := true) kr hc ?_
      refine Runs.batch 2 kr ?_
      refine Runs.lenT (y := .t (.sl 1 (p0.fB.map (eInt .u8)))) (e := 5) (eInt .u8) p0.fB 1 rfl rfl rfl kr kr kr kr kr ?_
      refine Runs.batch 3 kr ?_
      rcases tf (((p0.fB.length : Int)) == 0) with hc | hc
      · have h := cond_t h hc
        refine Runs.known 17 (v := true) kr hc ?_
        refine Runs.batch 2 kr ?_
        obtain ⟨r1, e_r1, h⟩ := bind_some h
        refine Runs.callK false 20 104 [] [.agg ((Record.enc p0.fR).map .t)] _ _ _ rfl rfl kr kr kr kr kr (spec_l9Record_ok u p0.fR r1 e_r1) kr ?_
        refine Runs.alln ?_
        refine Wp.fg ⟨[(1, .obj 1 0), (2, .t (.bool r1)), (3, .obj 3 0)], [(1, ((Put.enc p0).map .t)), (3, [.t (.int .i64 0), .t (.int .i64 0), .t (.int .i64 0)])], []⟩ ?_
        refine Wp.ret ?_
        refine thenR ?_
        obtain rfl := Option.some.inj h
        exact RetK [.t (.bool r1)] _ [] kr kr (.refl _) .nil
      have h := cond_f h hc
      refine Runs.known 17 (v := false) kr hc ?_
      refine Runs.alln ?_
      refine Wp.fg ⟨[(1, .obj 1 0), (2, .t (.bool false)), (3, .obj 3 0)], [(1, ((Put.enc p0).map .t)), (3, [.t (.int .i64 0), .t (.int .i64 0), .t (.int .i64 0)])], []⟩ ?_
      refine Wp.ret ?_
      refine thenR ?_
      obtain rfl := Option.some.inj h
      exact RetK [.t (.bool false)] _ [] kr kr (.refl _) .nil
    have h := cond_f h hc
    refine Runs.known 11 (v := false) kr hc ?_
    refine Runs.alln ?_
    refine Wp.fg ⟨[(1, .obj 1 0), (2, .t (.bool false)), (3, .obj 3 0)], [(1, ((Put.enc p0).map .t)), (3, [.t (.int .i64 0), .t (.int .i64 0), .t (.int .i64 0)])], []⟩ ?_
    refine Wp.ret ?_
    refine thenR ?_
    obtain rfl := Option.some.inj h
    exact RetK [.t (.bool false)] _ [] kr kr (.refl _) .nil
  have h := cond_f h hc
  refine Wp.skip (thenN ?_)
  refine Wp.srg [] [] ?_
  refine Runs.batch 2 kr ?_
  obtain ⟨r2, e_r2, h⟩ := bind_some h
  refine Runs.callK false 24 86 [] [.t (.int .i64 p0.fWhat), .t (.int .i64 0), .t (.int .i64 1)] _ _ _ rfl rfl kr kr kr kr kr (spec_l1In_ok u p0.fWhat 0 1 r2 e_r2) kr ?_
  refine Runs.batch 1 kr ?_
  rcases tf (r2) with hc | hc
  · have h := cond_t h hc
    refine Runs.known 25 (v := true) kr hc ?_
    refine Runs.batch 2 kr ?_
    obtain ⟨r3, e_r3, h⟩ := bind_some h
    refine Runs.callK false 28 86 [] [.t (.int .i64 p0.fAt), .t (.int .i64 0), .t (.int .i64 240)] _ _ _ rfl rfl kr kr kr kr kr (spec_l1In_ok u p0.fAt 0 240 r3 e_r3) kr ?_
    refine Runs.batch 2 kr ?_
    rcases tf (r3) with hc | hc
    · have h := cond_t h hc
      refine Runs.known 30 (v := true) kr hc ?_
      refine Runs.batch 2 kr ?_
      refine Runs.lenT (y := .t (.sl 1 (p0.fB.map (eInt .u8)))) (e := 5) (eInt .u8) p0.fB 1 rfl rfl rfl kr kr kr kr kr ?_
      refine Runs.batch 6 kr ?_
      rcases tf (decide (((p0.fB.length : Int)) ≤ (bSub .i64 240 p0.fAt))) with hc | hc
      · have h := cond_t h hc
        refine Runs.known 39 (v := true) kr hc ?_
        refine Runs.alln ?_
        refine Wp.fg ⟨[(2, .t (.bool ([p0.fR.fGen, p0.fR.fSlot, p0.fR.fLen] == [0, 0, 0])))], [], []⟩ ?_
        refine Wp.ret ?_
        obtain rfl := Option.some.inj h
        exact RetK [.t (.bool ([p0.fR.fGen, p0.fR.fSlot, p0.fR.fLen] == [0, 0, 0]))] _ [] kr kr (.refl _) .nil
      have h := cond_f h hc
      refine Runs.known 39 (v := false) kr hc ?_
      refine Runs.alln ?_
      refine Wp.fg ⟨[(2, .t (.bool false))], [], []⟩ ?_
      refine Wp.ret ?_
      obtain rfl := Option.some.inj h
      exact RetK [.t (.bool false)] _ [] kr kr (.refl _) .nil
    have h := cond_f h hc
    refine Runs.known 30 (v := false) kr hc ?_
    refine Runs.alln ?_
    refine Wp.fg ⟨[(2, .t (.bool false))], [], []⟩ ?_
    refine Wp.ret ?_
    obtain rfl := Option.some.inj h
    exact RetK [.t (.bool false)] _ [] kr kr (.refl _) .nil
  have h := cond_f h hc
  refine Runs.known 25 (v := false) kr hc ?_
  refine Runs.alln ?_
  refine Wp.fg ⟨[(2, .t (.bool false))], [], []⟩ ?_
  refine Wp.ret ?_
  obtain rfl := Option.some.inj h
  exact RetK [.t (.bool false)] _ [] kr kr (.refl _) .nil
theorem spec_DiskOk_ok (u : Nat) (p0 : Disk) (r : Bool) (h : spec_DiskOk u p0 = some r) : CallOK Try.prog 39 [.agg [.t (.sl 1 (p0.fA.map (eInt .u8))), .t (.sl 1 (p0.fB.map (eInt .u8))), .t (.int .i64 p0.fR.fGen), .t (.int .i64 p0.fR.fSlot), .t (.int .i64 p0.fR.fLen), .t (.sl 6 (p0.fP.map Put.enc))]] (.one (.t (.bool r))) [] := by
  unfold spec_DiskOk at h
  refine CallOK.of_bodyK (fn := Try.f39) (m := false) [.agg ((Disk.enc p0).map .t)] kr rfl kr kr kr kr kr ?_
  refine Wp.srg [] [] ?_
  refine Runs.alln ?_
  refine Wp.fg ⟨[(1, .obj 1 0), (2, .t (.bool false))], [(1, ((Disk.enc p0).map .t))], []⟩ ?_
  refine Wp.seq ?_
  refine Wp.seqJ (α := Bool × Disk) (fun a => ⟨[(1, .obj 1 0), (2, .t (.bool false)), (37, .t (.bool a.1))], [(1, ((Disk.enc a.2).map .t))], []⟩) (fun a => spec_DiskOk_j1 u a.1 a.2 = some r) ?_ ?_
  · rintro ⟨x3, p0⟩ h
    change spec_DiskOk_j1 u x3 p0 = some r at h
    unfold spec_DiskOk_j1 at h
    refine Wp.cond2 (b := x3) kr (fun hc => ?_) (fun hc => ?_)
    · have h := cond_t h hc
      refine Wp.srg [] [] ?_
      refine Runs.alln ?_
      refine Wp.fg ⟨[(1, .obj 1 0), (2, .t (.bool false))], [(1, ((Disk.enc p0).map .t))], []⟩ ?_
      refine Wp.ret ?_
      refine thenR ?_
      obtain rfl := Option.some.inj h
      exact RetK [.t (.bool false)] _ [] kr kr (.refl _) .nil
    have h := cond_f h hc
    refine Wp.skip (thenN ?_)
    refine Wp.seqJ (α := Unit) (fun a => ⟨[(2, .t (.bool false))], [], []⟩) (fun a => spec_DiskOk_j2 u = some r) ?_ ?_
    · rintro ⟨⟩ h
      change spec_DiskOk_j2 u = some r at h
      unfold spec_DiskOk_j2 at h
      refine Wp.srg [] [] ?_
      refine Runs.alln ?_
      refine Wp.fg ⟨[(2, .t (.bool true))], [], []⟩ ?_
      refine Wp.ret ?_
      obtain rfl := Option.some.inj h
      exact RetK [.t (.bool true)] _ [] kr kr (.refl _) .nil
    · refine Wp.srg [] [] ?_
      refine Runs.alln ?_
      refine Wp.fg ⟨[(1, .obj 1 0), (2, .t (.bool false)), (3, .t (.int .i64 0))], [(1, ((Disk.enc p0).map .t))], []⟩ ?_
      refine Wp.block ?_
      refine Wp.loopF (α := Int × Disk) (fun a => ⟨[(1, .obj 1 0), (2, .t (.bool false)), (3, .t (.int .i64 a.1))], [(1, ((Disk.enc a.2).map .t))], []⟩) (fun k_spec_DiskOk_l3 a => spec_DiskOk_l3 u k_spec_DiskOk_l3 a.1 a.2 = some r) ?_ ?_ u (0, p0) h (Le.of (mo := []) (mr := []) kr kr kr kr)
      · intro a h; unfold spec_DiskOk_l3 at h; cases h
      · rintro k_spec_DiskOk_l3 ⟨x5, p0⟩ h
        change spec_DiskOk_l3 u (k_spec_DiskOk_l3 + 1) x5 p0 = some r at h
        rw [spec_DiskOk_l3] at h
        refine Wp.seq ?_
        refine Wp.srg [] [] ?_
        refine Runs.batch 3 kr ?_
        refine Runs.lenT (y := .t (.sl 6 (p0.fP.map Put.enc))) (e := 48) Put.enc p0.fP 6 rfl rfl rfl kr kr kr kr kr ?_
        refine Runs.alln ?_
        refine Wp.fg ⟨[(1, .obj 1 0), (2, .t (.bool false)), (3, .t (.int .i64 x5)), (42, .t (.bool (decide (x5 < ((p0.fP.length : Int))))))], [(1, ((Disk.enc p0).map .t))], []⟩ ?_
        refine Wp.cond2 (b := decide (x5 < ((p0.fP.length : Int)))) kr (fun hc => ?_) (fun hc => ?_)
        · have h := cond_t h hc
          refine Wp.skip (thenN ?_)
          refine Wp.seq ?_
          refine Wp.block ?_
          refine Wp.srg [] [] ?_
          refine Runs.batch 3 kr ?_
          obtain ⟨y7, e_y7, h⟩ := bind_some h
          refine Runs.idxT (e := 48) (kk := .i64) (sz := 6) Put.enc p0.fP x5 rfl kr kr kr kr kr kr e_y7 ?_
          refine Runs.batch 1 kr ?_
          obtain ⟨r8, e_r8, h⟩ := bind_some h
          refine Runs.callK false 50 95 [] [.agg ((Put.enc y7).map .t)] _ _ _ rfl rfl kr kr kr kr kr (spec_l9Put_ok u y7 r8 e_r8) kr ?_
          refine Runs.alln ?_
          refine Wp.fg ⟨[(1, .obj 1 0), (2, .t (.bool false)), (3, .t (.int .i64 x5)), (51, .t (.bool (!r8)))], [(1, ((Disk.enc p0).map .t))], []⟩ ?_
          refine Wp.cond2 (b := !r8) kr (fun hc => ?_) (fun hc => ?_)
          · have h := cond_t h hc
            refine Wp.srg [] [] ?_
            refine Runs.alln ?_
            refine Wp.fg ⟨[(1, .obj 1 0), (2, .t (.bool false)), (3, .t (.int .i64 x5))], [(1, ((Disk.enc p0).map .t))], []⟩ ?_
            refine Wp.ret ?_
            refine blkR ?_
            refine thenR ?_
            refine thenR ?_
            refine blkR ?_
            refine thenR ?_
            obtain rfl := Option.some.inj h
            exact RetK [.t (.bool false)] _ [] kr kr (.refl _) .nil
          have h := cond_f h hc
          refine Wp.skip ?_
          refine blkN ?_
          refine thenN ?_
          refine Wp.rg [] [] ?_
          refine Runs.alln ?_
          exact ⟨(bAdd .i64 x5 1, p0), h, Le.of (mo := []) (mr := []) kr kr kr kr⟩
        have h := cond_f h hc
        refine Wp.exit ?_
        refine thenE ?_
        refine thenE ?_
        refine blkE ?_
        refine thenN ?_
        exact ⟨(), h, Le.of (mo := []) (mr := []) kr kr kr kr⟩
  · refine Wp.regionA (pOf []) (rhoOf [(1, .obj 1), (4, .obj 1), (5, .frz), (6, .frz), (7, .frz), (8, .frz), (9, .obj 1), (10, .frz), (11, .frz), (13, .frz), (14, .frz), (15, .obj 1), (16, .frz), (17, .frz), (19, .frz), (20, .frz), (21, .obj 1), (22, .obj 1), (23, .frz), (24, .frz), (25, .obj 1), (26, .obj 1), (27, .frz), (28, .frz), (29, .frz), (31, .frz), (32, .frz), (33, .obj 1), (34, .frz), (35, .frz)]) kr kr ?_
    refine Runs.batch 2 kr ?_
    refine Runs.lenT (y := .t (.sl 1 (p0.fA.map (eInt .u8)))) (e := 5) (eInt .u8) p0.fA 1 rfl rfl rfl kr kr kr kr kr ?_
    refine Runs.batch 2 kr ?_
    rcases tf (decide (((p0.fA.length : Int)) > 240)) with hc | hc
    · have h := cond_t h hc
      refine Runs.known 8 (v := true) kr hc ?_
      refine Runs.alln ?_
      exact ⟨(true, p0), h, Le.of (mo := []) (mr := []) kr kr kr kr⟩
    have h := cond_f h hc
    refine Runs.known 8 (v := false) kr hc ?_
    refine Runs.batch 2 kr ?_
    refine Runs.lenT (y := .t (.sl 1 (p0.fB.map (eInt .u8)))) (e := 5) (eInt .u8) p0.fB 1 rfl rfl rfl kr kr kr kr kr ?_
    refine Runs.batch 3 kr ?_
    rcases tf (decide (((p0.fB.length : Int)) > 240)) with hc | hc
    · have h := cond_t h hc
      refine Runs.known 14 (v := true) kr hc ?_
      refine Runs.alln ?_
      exact ⟨(true, p0), h, Le.of (mo := []) (mr := []) kr kr kr kr⟩
    have h := cond_f h hc
    refine Runs.known 14 (v := false) kr hc ?_
    refine Runs.batch 2 kr ?_
    obtain ⟨r1, e_r1, h⟩ := bind_some h
    refine Runs.callK false 17 104 [] [.agg ((Record.enc p0.fR).map .t)] _ _ _ rfl rfl kr kr kr kr kr (spec_l9Record_ok u p0.fR r1 e_r1) kr ?_
    refine Runs.batch 3 kr ?_
    rcases tf (!r1) with hc | hc
    · have h := cond_t h hc
      refine Runs.known 20 (v := true) kr hc ?_
      refine Runs.alln ?_
      exact ⟨(true, p0), h, Le.of (mo := []) (mr := []) kr kr kr kr⟩
    have h := cond_f h hc
    refine Runs.known 20 (v := false) kr hc ?_
    refine Runs.batch 7 kr ?_
    obtain ⟨r2, e_r2, h⟩ := bind_some h
    refine Runs.callK false 28 105 [] [.agg ((Disk.enc p0).map .t), .t (.int .i64 p0.fR.fSlot)] _ _ _ rfl rfl kr kr kr kr kr (spec_l9Slot_ok u p0 p0.fR.fSlot r2 e_r2) kr ?_
    refine Runs.lenT (y := .t (.sl 1 (r2.map (eInt .u8)))) (e := 5) (eInt .u8) r2 1 rfl rfl rfl kr kr kr kr kr ?_
    refine Runs.batch 3 kr ?_
    rcases tf (decide (p0.fR.fLen > ((r2.length : Int)))) with hc | hc
    · have h := cond_t h hc
      refine Runs.known 32 (v := true) kr hc ?_
      refine Runs.alln ?_
      exact ⟨(true, p0), h, Le.of (mo := []) (mr := []) kr kr kr kr⟩
    have h := cond_f h hc
    refine Runs.known 32 (v := false) kr hc ?_
    refine Runs.batch 2 kr ?_
    refine Runs.lenT (y := .t (.sl 6 (p0.fP.map Put.enc))) (e := 48) Put.enc p0.fP 6 rfl rfl rfl kr kr kr kr kr ?_
    refine Runs.alln ?_
    exact ⟨(decide (((p0.fP.length : Int)) > 200), p0), h, Le.of (mo := []) (mr := []) kr kr kr kr⟩
theorem spec_l9Add_okd (u : Nat) (p0 : Disk) (p1 : Put) (r : Disk × Bool) (h : spec_l9Add u p0 p1 = some r) : DOK Try.prog 88 [.agg [.t (.sl 1 (p0.fA.map (eInt .u8))), .t (.sl 1 (p0.fB.map (eInt .u8))), .t (.int .i64 p0.fR.fGen), .t (.int .i64 p0.fR.fSlot), .t (.int .i64 p0.fR.fLen), .t (.sl 6 (p0.fP.map Put.enc))], .agg [.t (.int .i64 p1.fWhat), .t (.int .i64 p1.fAt), .t (.sl 1 (p1.fB.map (eInt .u8))), .t (.int .i64 p1.fR.fGen), .t (.int .i64 p1.fR.fSlot), .t (.int .i64 p1.fR.fLen)]] (.tup [.agg [.ow 5 1 (r.1.fA.map (eInt .u8)), .ow 5 1 (r.1.fB.map (eInt .u8)), .t (.int .i64 r.1.fR.fGen), .t (.int .i64 r.1.fR.fSlot), .t (.int .i64 r.1.fR.fLen), .ow 48 6 (r.1.fP.map Put.enc)], .one (.t (.bool r.2))]) := by
  unfold spec_l9Add at h
  refine DOK.of_bodyK (fn := Try.f88) (m := true) kr rfl kr kr kr ?_
  refine Wp.srg [] [] ?_
  refine Runs.alln ?_
  refine Wp.fg ⟨[(2, .obj 2 0), (3, .obj 3 0), (4, .obj 4 0), (5, .t (.bool false))], [(2, [.ext false (.sl 1 (p0.fA.map (eInt .u8))), .ext false (.sl 1 (p0.fB.map (eInt .u8))), .t (.int .i64 p0.fR.fGen), .t (.int .i64 p0.fR.fSlot), .t (.int .i64 p0.fR.fLen), .ext false (.sl 6 (p0.fP.map Put.enc))]), (3, [.t (.int .i64 p1.fWhat), .t (.int .i64 p1.fAt), .ext false (.sl 1 (p1.fB.map (eInt .u8))), .t (.int .i64 p1.fR.fGen), .t (.int .i64 p1.fR.fSlot), .t (.int .i64 p1.fR.fLen)]), (4, [.nil, .nil, .t (.int .i64 0), .t (.int .i64 0), .t (.int .i64 0), .nil])], []⟩ ?_
  refine Wp.srg [] [] ?_
  refine Runs.batch 1 kr ?_
  obtain ⟨r1, e_r1, h⟩ := bind_some h
  refine Runs.callDK 8 87 [] [.agg [.ext false (.sl 1 (p0.fA.map (eInt .u8))), .ext false (.sl 1 (p0.fB.map (eInt .u8))), .t (.int .i64 p0.fR.fGen), .t (.int .i64 p0.fR.fSlot), .t (.int .i64 p0.fR.fLen), .ext false (.sl 6 (p0.fP.map Put.enc))]] [.agg ((Disk.enc p0).map .t)] (.agg [.ow 5 1 (r1.fA.map (eInt .u8)), .ow 5 1 (r1.fB.map (eInt .u8)), .t (.int .i64 r1.fR.fGen), .t (.int .i64 r1.fR.fSlot), .t (.int .i64 r1.fR.fLen), .ow 48 6 (r1.fP.map Put.enc)]) rfl rfl kr kr kr kr kr (spec_l9Copy_okd u p0 r1 e_r1) kr ?_
  refine Runs.alln ?_
  refine Wp.fg ⟨[(2, .obj 2 0), (3, .obj 3 0), (4, .obj 4 0), (5, .t (.bool false)), (6, .obj 6 0)], [(2, [.ext false (.sl 1 (p0.fA.map (eInt .u8))), .ext false (.sl 1 (p0.fB.map (eInt .u8))), .t (.int .i64 p0.fR.fGen), .t (.int .i64 p0.fR.fSlot), .t (.int .i64 p0.fR.fLen), .ext false (.sl 6 (p0.fP.map Put.enc))]), (3, [.t (.int .i64 p1.fWhat), .t (.int .i64 p1.fAt), .ext false (.sl 1 (p1.fB.map (eInt .u8))), .t (.int .i64 p1.fR.fGen), .t (.int .i64 p1.fR.fSlot), .t (.int .i64 p1.fR.fLen)]), (4, [.nil, .nil, .t (.int .i64 0), .t (.int .i64 0), .t (.int .i64 0), .nil]), (6, [.own 524288, .own 524289, .t (.int .i64 r1.fR.fGen), .t (.int .i64 r1.fR.fSlot), .t (.int .i64 r1.fR.fLen), .own 524293])], [(524288, .live 5 1 (r1.fA.map (eInt .u8))), (524289, .live 5 1 (r1.fB.map (eInt .u8))), (524293, .live 48 6 (r1.fP.map Put.enc))]⟩ ?_
  refine Wp.seq ?_
  refine Wp.regionA (pOf []) (rhoOf [(3, .obj 3), (6, .obj 6), (9, .obj 6), (10, .own 8), (11, .frz), (12, .own 12), (13, .own 13), (14, .own 14), (15, .obj 6)]) kr kr ?_
  refine Runs.batch 3 kr ?_
  obtain ⟨r2, e_r2, h⟩ := bind_some h
  refine Runs.callDK 12 139 [] [.agg [.t (.int .i64 p1.fWhat), .t (.int .i64 p1.fAt), .ext false (.sl 1 (p1.fB.map (eInt .u8))), .t (.int .i64 p1.fR.fGen), .t (.int .i64 p1.fR.fSlot), .t (.int .i64 p1.fR.fLen)]] [.agg ((Put.enc p1).map .t)] (.agg [.t (.int .i64 r2.fWhat), .t (.int .i64 r2.fAt), .ow 5 1 (r2.fB.map (eInt .u8)), .t (.int .i64 r2.fR.fGen), .t (.int .i64 r2.fR.fSlot), .t (.int .i64 r2.fR.fLen)]) rfl rfl kr kr kr kr kr (spec_l9CopyPut_okd u p1 r2 e_r2) kr ?_
  refine Runs.batch 1 kr ?_
  obtain ⟨_, e_3, h⟩ := bind_some h
  refine Runs.appT (y := .own 851968) Put.enc 14 6 48 6 64 524293 r1.fP ([r2]) rfl rfl rfl rfl kr kr kr kr kr kr (.inl rfl) kr (of_decide_eq_true (chk_some e_3)) kr kr ?_
  refine Runs.alln ?_
  refine Wp.fg ⟨[(2, .obj 2 0), (4, .obj 4 0), (5, .t (.bool false)), (6, .obj 6 0)], [(2, [.ext false (.sl 1 (p0.fA.map (eInt .u8))), .ext false (.sl 1 (p0.fB.map (eInt .u8))), .t (.int .i64 p0.fR.fGen), .t (.int .i64 p0.fR.fSlot), .t (.int .i64 p0.fR.fLen), .ext false (.sl 6 (p0.fP.map Put.enc))]), (4, [.nil, .nil, .t (.int .i64 0), .t (.int .i64 0), .t (.int .i64 0), .nil]), (6, [.own 524288, .own 524289, .t (.int .i64 r1.fR.fGen), .t (.int .i64 r1.fR.fSlot), .t (.int .i64 r1.fR.fLen), .own 917504])], [(524288, .live 5 1 (r1.fA.map (eInt .u8))), (524289, .live 5 1 (r1.fB.map (eInt .u8))), (917504, .live 48 6 ((r1.fP ++ ([r2])).map Put.enc))]⟩ ?_
  refine Wp.seq ?_
  refine Wp.srg [] [] ?_
  refine Runs.batch 1 kr ?_
  obtain ⟨r4, e_r4, h⟩ := bind_some h
  refine Runs.callBK 17 39 [] [.agg [.own 524288, .own 524289, .t (.int .i64 r1.fR.fGen), .t (.int .i64 r1.fR.fSlot), .t (.int .i64 r1.fR.fLen), .own 917504]] [.agg [.t (.sl 1 (r1.fA.map (eInt .u8))), .t (.sl 1 (r1.fB.map (eInt .u8))), .t (.int .i64 r1.fR.fGen), .t (.int .i64 r1.fR.fSlot), .t (.int .i64 r1.fR.fLen), .t (.sl 6 ((r1.fP ++ ([r2])).map Put.enc))]] (.one (.t (.bool r4))) rfl rfl kr kr kr kr kr (spec_DiskOk_ok u ((Disk.mk r1.fA r1.fB r1.fR (r1.fP ++ ([r2])))) r4 e_r4) (by simp [V.plain, V.plains, C.plain, T.sc]) kr ?_
  refine Runs.alln ?_
  refine Wp.fg ⟨[(2, .obj 2 0), (4, .obj 4 0), (5, .t (.bool false)), (6, .obj 6 0), (18, .t (.bool (!r4)))], [(2, [.ext false (.sl 1 (p0.fA.map (eInt .u8))), .ext false (.sl 1 (p0.fB.map (eInt .u8))), .t (.int .i64 p0.fR.fGen), .t (.int .i64 p0.fR.fSlot), .t (.int .i64 p0.fR.fLen), .ext false (.sl 6 (p0.fP.map Put.enc))]), (4, [.nil, .nil, .t (.int .i64 0), .t (.int .i64 0), .t (.int .i64 0), .nil]), (6, [.own 524288, .own 524289, .t (.int .i64 r1.fR.fGen), .t (.int .i64 r1.fR.fSlot), .t (.int .i64 r1.fR.fLen), .own 917504])], [(524288, .live 5 1 (r1.fA.map (eInt .u8))), (524289, .live 5 1 (r1.fB.map (eInt .u8))), (917504, .live 48 6 ((r1.fP ++ ([r2])).map Put.enc))]⟩ ?_
  refine Wp.cond2 (b := !r4) kr (fun hc => ?_) (fun hc => ?_)
  · have h := cond_t h hc
    refine Wp.srg [] [] ?_
    refine Runs.batch 1 kr ?_
    obtain ⟨r5, e_r5, h⟩ := bind_some h
    refine Runs.callDK 20 87 [] [.agg [.ext false (.sl 1 (p0.fA.map (eInt .u8))), .ext false (.sl 1 (p0.fB.map (eInt .u8))), .t (.int .i64 p0.fR.fGen), .t (.int .i64 p0.fR.fSlot), .t (.int .i64 p0.fR.fLen), .ext false (.sl 6 (p0.fP.map Put.enc))]] [.agg ((Disk.enc p0).map .t)] (.agg [.ow 5 1 (r5.fA.map (eInt .u8)), .ow 5 1 (r5.fB.map (eInt .u8)), .t (.int .i64 r5.fR.fGen), .t (.int .i64 r5.fR.fSlot), .t (.int .i64 r5.fR.fLen), .ow 48 6 (r5.fP.map Put.enc)]) rfl rfl kr kr kr kr kr (spec_l9Copy_okd u p0 r5 e_r5) kr ?_
    refine Runs.alln ?_
    refine Wp.fg ⟨[(4, .obj 4 0), (5, .t (.bool false)), (6, .obj 6 0)], [(4, [.own 1310720, .own 1310721, .t (.int .i64 r5.fR.fGen), .t (.int .i64 r5.fR.fSlot), .t (.int .i64 r5.fR.fLen), .own 1310725]), (6, [.own 524288, .own 524289, .t (.int .i64 r1.fR.fGen), .t (.int .i64 r1.fR.fSlot), .t (.int .i64 r1.fR.fLen), .own 917504])], [(524288, .live 5 1 (r1.fA.map (eInt .u8))), (524289, .live 5 1 (r1.fB.map (eInt .u8))), (917504, .live 48 6 ((r1.fP ++ ([r2])).map Put.enc)), (1310720, .live 5 1 (r5.fA.map (eInt .u8))), (1310721, .live 5 1 (r5.fB.map (eInt .u8))), (1310725, .live 48 6 (r5.fP.map Put.enc))]⟩ ?_
    refine Wp.ret ?_
    refine thenR ?_
    obtain rfl := Option.some.inj h
    exact RetK [.agg [.own 1310720, .own 1310721, .t (.int .i64 r5.fR.fGen), .t (.int .i64 r5.fR.fSlot), .t (.int .i64 r5.fR.fLen), .own 1310725], .t (.bool false)] _ [] kr kr (.refl _) .nil
  have h := cond_f h hc
  refine Wp.skip (thenN ?_)
  refine Wp.srg [] [] ?_
  refine Runs.alln ?_
  refine Wp.fg ⟨[(4, .obj 4 0), (5, .t (.bool true))], [(4, [.own 524288, .own 524289, .t (.int .i64 r1.fR.fGen), .t (.int .i64 r1.fR.fSlot), .t (.int .i64 r1.fR.fLen), .own 917504])], [(524288, .live 5 1 (r1.fA.map (eInt .u8))), (524289, .live 5 1 (r1.fB.map (eInt .u8))), (917504, .live 48 6 ((r1.fP ++ ([r2])).map Put.enc))]⟩ ?_
  refine Wp.ret ?_
  obtain rfl := Option.some.inj h
  exact RetK [.agg [.own 524288, .own 524289, .t (.int .i64 r1.fR.fGen), .t (.int .i64 r1.fR.fSlot), .t (.int .i64 r1.fR.fLen), .own 917504], .t (.bool true)] _ [] kr kr (.refl _) .nil
theorem spec_l9Lay_okd (u : Nat) (p0 : List Int) (p1 : Int) (p2 : List Int) (r : (List Int)) (h : spec_l9Lay u p0 p1 p2 = some r) : DOK Try.prog 96 [.one (.t (.sl 1 (p0.map (eInt .u8)))), .one (.t (.int .i64 p1)), .one (.t (.sl 1 (p2.map (eInt .u8))))] (.one (.ow 5 1 (r.map (eInt .u8)))) := by
  unfold spec_l9Lay at h
  refine DOK.of_bodyK (fn := Try.f96) (m := true) kr rfl kr kr kr ?_
  refine Wp.srg [] [] ?_
  refine Runs.alln ?_
  refine Wp.fg ⟨[(0, .ext false (.sl 1 (p0.map (eInt .u8)))), (1, .t (.int .i64 p1)), (2, .ext false (.sl 1 (p2.map (eInt .u8)))), (6, .nil)], [], []⟩ ?_
  refine Wp.srg [] [] ?_
  refine Runs.batch 2 kr ?_
  obtain ⟨_, e_1, h⟩ := bind_some h
  refine Runs.appT (y := .ext false (.sl 1 (p0.map (eInt .u8)))) (eInt .u8) 11 1 5 1 1 589824 (([] : List Int)) p0 rfl rfl rfl rfl kr kr kr kr kr (rows_extI _ _ _) (.inl rfl) kr (of_decide_eq_true (chk_some e_1)) kr kr ?_
  refine Runs.alln ?_
  refine Wp.fg ⟨[(1, .t (.int .i64 p1)), (2, .ext false (.sl 1 (p2.map (eInt .u8)))), (6, .nil), (7, .own 720896)], [], [(720896, .live 5 1 (((([] : List Int)) ++ p0).map (eInt .u8)))]⟩ ?_
  refine Wp.seqJ (α := Int × (List Int) × (List Int)) (fun a => ⟨[(1, .t (.int .i64 a.1)), (2, .ext false (.sl 1 (a.2.1.map (eInt .u8)))), (6, .nil), (7, .own 458753)], [], [(458753, .live 5 1 (a.2.2.map (eInt .u8)))]⟩) (fun a => spec_l9Lay_j1 u a.1 a.2.1 a.2.2 = some r) ?_ ?_
  · rintro ⟨p1, p2, x5⟩ h
    change spec_l9Lay_j1 u p1 p2 x5 = some r at h
    unfold spec_l9Lay_j1 at h
    refine Wp.seqJ (α := (List Int)) (fun a => ⟨[(6, .nil), (7, .own 458753)], [], [(458753, .live 5 1 (a.map (eInt .u8)))]⟩) (fun a => spec_l9Lay_j2 u a = some r) ?_ ?_
    · rintro x14 h
      change spec_l9Lay_j2 u x14 = some r at h
      unfold spec_l9Lay_j2 at h
      refine Wp.srg [] [] ?_
      refine Runs.alln ?_
      refine Wp.fg ⟨[(6, .own 458753)], [], [(458753, .live 5 1 (x14.map (eInt .u8)))]⟩ ?_
      refine Wp.ret ?_
      obtain rfl := Option.some.inj h
      exact RetK [.own 458753] _ [] kr kr (.refl _) .nil
    · refine Wp.srg [] [] ?_
      refine Runs.alln ?_
      refine Wp.fg ⟨[(1, .t (.int .i64 p1)), (2, .ext false (.sl 1 (p2.map (eInt .u8)))), (6, .nil), (7, .own 458753), (8, .t (.int .i64 0))], [], [(458753, .live 5 1 (x5.map (eInt .u8)))]⟩ ?_
      refine Wp.block ?_
      refine Wp.loopF (α := Int × (List Int) × (List Int) × Int) (fun a => ⟨[(1, .t (.int .i64 a.1)), (2, .ext false (.sl 1 (a.2.1.map (eInt .u8)))), (6, .nil), (7, .own 458753), (8, .t (.int .i64 a.2.2.2))], [], [(458753, .live 5 1 (a.2.2.1.map (eInt .u8)))]⟩) (fun k_spec_l9Lay_l3 a => spec_l9Lay_l3 u k_spec_l9Lay_l3 a.1 a.2.1 a.2.2.1 a.2.2.2 = some r) ?_ ?_ u (p1, p2, x5, 0) h (Le.of (mo := []) (mr := []) kr kr kr kr)
      · intro a h; unfold spec_l9Lay_l3 at h; cases h
      · rintro k_spec_l9Lay_l3 ⟨p1, p2, x8, x9⟩ h
        change spec_l9Lay_l3 u (k_spec_l9Lay_l3 + 1) p1 p2 x8 x9 = some r at h
        rw [spec_l9Lay_l3] at h
        refine Wp.seq ?_
        refine Wp.srg [] [] ?_
        refine Runs.batch 2 kr ?_
        refine Runs.lenX (e := 5) (eInt .u8) p2 false 1 rfl rfl rfl kr kr kr kr ?_
        refine Runs.alln ?_
        refine Wp.fg ⟨[(1, .t (.int .i64 p1)), (2, .ext false (.sl 1 (p2.map (eInt .u8)))), (6, .nil), (7, .own 458753), (8, .t (.int .i64 x9)), (25, .t (.bool (decide (x9 < ((p2.length : Int))))))], [], [(458753, .live 5 1 (x8.map (eInt .u8)))]⟩ ?_
        refine Wp.cond2 (b := decide (x9 < ((p2.length : Int)))) kr (fun hc => ?_) (fun hc => ?_)
        · have h := cond_t h hc
          refine Wp.skip (thenN ?_)
          refine Wp.seq ?_
          refine Wp.block ?_
          refine Wp.rg [] [] ?_
          refine Runs.batch 6 kr ?_
          obtain ⟨y12, e_y12, h⟩ := bind_some h
          refine Runs.idxX (e := 5) (kk := .i64) (sz := 1) (eInt .u8) p2 x9 false rfl kr kr kr kr kr kr e_y12 ?_
          refine Runs.batch 1 kr ?_
          obtain ⟨y13, e_y13, h⟩ := bind_some h
          refine Runs.idxO (e := 5) (e' := 5) (kk := .i64) (sz := 1) (eInt .u8) x8 (bAdd .i64 p1 x9) 458753 rfl kr kr kr kr kr kr kr e_y13 ?_
          refine Runs.storeT (e := 5) (sz := 1) (m := 1) (eInt .u8) x8 458753 (Int.toNat (bAdd .i64 p1 x9)) 0 y12 (.t (.int .u8 y12)) [.int .u8 y12] rfl kr kr kr kr kr kr kr kr (idx_some e_y13).2 kr kr ?_
          refine Runs.done ?_
          refine blkN ?_
          refine thenN ?_
          refine Wp.rg [] [] ?_
          refine Runs.alln ?_
          exact ⟨(p1, p2, x8.set (Int.toNat (bAdd .i64 p1 x9)) y12, bAdd .i64 x9 1), h, Le.of (mo := []) (mr := []) kr kr kr kr⟩
        have h := cond_f h hc
        refine Wp.exit ?_
        refine thenE ?_
        refine thenE ?_
        refine blkE ?_
        refine thenN ?_
        exact ⟨x8, h, Le.of (mo := []) (mr := []) kr kr kr kr⟩
  · refine Wp.block ?_
    refine Wp.loopF (α := Int × (List Int) × (List Int)) (fun a => ⟨[(1, .t (.int .i64 a.1)), (2, .ext false (.sl 1 (a.2.1.map (eInt .u8)))), (6, .nil), (7, .own 458753)], [], [(458753, .live 5 1 (a.2.2.map (eInt .u8)))]⟩) (fun k_spec_l9Lay_l4 a => spec_l9Lay_l4 u k_spec_l9Lay_l4 a.1 a.2.1 a.2.2 = some r) ?_ ?_ u (p1, p2, (([] : List Int)) ++ p0) h (Le.of (mo := []) (mr := [(458753, 720896)]) kr kr kr kr)
    · intro a h; unfold spec_l9Lay_l4 at h; cases h
    · rintro k_spec_l9Lay_l4 ⟨p1, p2, x3⟩ h
      change spec_l9Lay_l4 u (k_spec_l9Lay_l4 + 1) p1 p2 x3 = some r at h
      rw [spec_l9Lay_l4] at h
      refine Wp.seq ?_
      refine Wp.srg [] [] ?_
      refine Runs.batch 1 kr ?_
      refine Runs.lenT (y := .own 458753) (e := 5) (eInt .u8) x3 1 rfl rfl rfl kr kr kr kr kr ?_
      refine Runs.batch 2 kr ?_
      refine Runs.lenX (e := 5) (eInt .u8) p2 false 1 rfl rfl rfl kr kr kr kr ?_
      refine Runs.alln ?_
      refine Wp.fg ⟨[(1, .t (.int .i64 p1)), (2, .ext false (.sl 1 (p2.map (eInt .u8)))), (6, .nil), (7, .own 458753), (18, .t (.bool (decide (((x3.length : Int)) < (bAdd .i64 p1 ((p2.length : Int)))))))], [], [(458753, .live 5 1 (x3.map (eInt .u8)))]⟩ ?_
      refine Wp.cond2 (b := decide (((x3.length : Int)) < (bAdd .i64 p1 ((p2.length : Int))))) kr (fun hc => ?_) (fun hc => ?_)
      · have h := cond_t h hc
        refine Wp.skip (thenN ?_)
        refine Wp.block ?_
        refine Wp.rg [] [] ?_
        refine Runs.batch 2 kr ?_
        obtain ⟨_, e_5, h⟩ := bind_some h
        refine Runs.appT (y := .own 1310720) (eInt .u8) 21 1 5 1 1 458753 x3 ([0]) rfl rfl rfl rfl kr kr kr kr kr kr (.inl rfl) kr (of_decide_eq_true (chk_some e_5)) kr kr ?_
        refine Runs.all kr ?_
        refine blkN ?_
        refine thenN ?_
        exact ⟨(p1, p2, x3 ++ ([0])), h, Le.of (mo := []) (mr := [(458753, 1376256)]) kr kr kr kr⟩
      have h := cond_f h hc
      refine Wp.exit ?_
      refine thenE ?_
      refine thenE ?_
      refine blkE ?_
      refine thenN ?_
      exact ⟨(p1, p2, x3), h, Le.of (mo := []) (mr := []) kr kr kr kr⟩
theorem spec_OnePut_okd (u : Nat) (p0 : Disk) (p1 : Put) (r : Disk) (h : spec_OnePut u p0 p1 = some r) : DOK Try.prog 33 [.agg [.t (.sl 1 (p0.fA.map (eInt .u8))), .t (.sl 1 (p0.fB.map (eInt .u8))), .t (.int .i64 p0.fR.fGen), .t (.int .i64 p0.fR.fSlot), .t (.int .i64 p0.fR.fLen), .t (.sl 6 (p0.fP.map Put.enc))], .agg [.t (.int .i64 p1.fWhat), .t (.int .i64 p1.fAt), .t (.sl 1 (p1.fB.map (eInt .u8))), .t (.int .i64 p1.fR.fGen), .t (.int .i64 p1.fR.fSlot), .t (.int .i64 p1.fR.fLen)]] (.agg [.ow 5 1 (r.fA.map (eInt .u8)), .ow 5 1 (r.fB.map (eInt .u8)), .t (.int .i64 r.fR.fGen), .t (.int .i64 r.fR.fSlot), .t (.int .i64 r.fR.fLen), .ow 48 6 (r.fP.map Put.enc)]) := by
  unfold spec_OnePut at h
  refine DOK.of_bodyK (fn := Try.f33) (m := true) kr rfl kr kr kr ?_
  refine Wp.srg [] [] ?_
  refine Runs.alln ?_
  refine Wp.fg ⟨[(2, .obj 2 0), (3, .obj 3 0), (4, .obj 4 0)], [(2, [.ext false (.sl 1 (p0.fA.map (eInt .u8))), .ext false (.sl 1 (p0.fB.map (eInt .u8))), .t (.int .i64 p0.fR.fGen), .t (.int .i64 p0.fR.fSlot), .t (.int .i64 p0.fR.fLen), .ext false (.sl 6 (p0.fP.map Put.enc))]), (3, [.t (.int .i64 p1.fWhat), .t (.int .i64 p1.fAt), .ext false (.sl 1 (p1.fB.map (eInt .u8))), .t (.int .i64 p1.fR.fGen), .t (.int .i64 p1.fR.fSlot), .t (.int .i64 p1.fR.fLen)]), (4, [.nil, .nil, .t (.int .i64 0), .t (.int .i64 0), .t (.int .i64 0), .nil])], []⟩ ?_
  refine Wp.srg [] [] ?_
  refine Runs.batch 1 kr ?_
  obtain ⟨r1, e_r1, h⟩ := bind_some h
  refine Runs.callDK 7 87 [] [.agg [.ext false (.sl 1 (p0.fA.map (eInt .u8))), .ext false (.sl 1 (p0.fB.map (eInt .u8))), .t (.int .i64 p0.fR.fGen), .t (.int .i64 p0.fR.fSlot), .t (.int .i64 p0.fR.fLen), .ext false (.sl 6 (p0.fP.map Put.enc))]] [.agg ((Disk.enc p0).map .t)] (.agg [.ow 5 1 (r1.fA.map (eInt .u8)), .ow 5 1 (r1.fB.map (eInt .u8)), .t (.int .i64 r1.fR.fGen), .t (.int .i64 r1.fR.fSlot), .t (.int .i64 r1.fR.fLen), .ow 48 6 (r1.fP.map Put.enc)]) rfl rfl kr kr kr kr kr (spec_l9Copy_okd u p0 r1 e_r1) kr ?_
  refine Runs.alln ?_
  refine Wp.fg ⟨[(2, .obj 2 0), (3, .obj 3 0), (4, .obj 4 0), (5, .obj 5 0)], [(2, [.ext false (.sl 1 (p0.fA.map (eInt .u8))), .ext false (.sl 1 (p0.fB.map (eInt .u8))), .t (.int .i64 p0.fR.fGen), .t (.int .i64 p0.fR.fSlot), .t (.int .i64 p0.fR.fLen), .ext false (.sl 6 (p0.fP.map Put.enc))]), (3, [.t (.int .i64 p1.fWhat), .t (.int .i64 p1.fAt), .ext false (.sl 1 (p1.fB.map (eInt .u8))), .t (.int .i64 p1.fR.fGen), .t (.int .i64 p1.fR.fSlot), .t (.int .i64 p1.fR.fLen)]), (4, [.nil, .nil, .t (.int .i64 0), .t (.int .i64 0), .t (.int .i64 0), .nil]), (5, [.own 458752, .own 458753, .t (.int .i64 r1.fR.fGen), .t (.int .i64 r1.fR.fSlot), .t (.int .i64 r1.fR.fLen), .own 458757])], [(458752, .live 5 1 (r1.fA.map (eInt .u8))), (458753, .live 5 1 (r1.fB.map (eInt .u8))), (458757, .live 48 6 (r1.fP.map Put.enc))]⟩ ?_
  refine Wp.seqJ (α := (List Int) × (List Int) × Int × Int × Int × Disk) (fun a => ⟨[(4, .obj 4 0), (5, .obj 5 0)], [(4, [.nil, .nil, .t (.int .i64 0), .t (.int .i64 0), .t (.int .i64 0), .nil]), (5, [.own 328192, .own 328193, .t (.int .i64 a.2.2.1), .t (.int .i64 a.2.2.2.1), .t (.int .i64 a.2.2.2.2.1), .own 328197])], [(328192, .live 5 1 (a.1.map (eInt .u8))), (328193, .live 5 1 (a.2.1.map (eInt .u8))), (328197, .live 48 6 (a.2.2.2.2.2.fP.map Put.enc))]⟩) (fun a => spec_OnePut_j1 u a.1 a.2.1 a.2.2.1 a.2.2.2.1 a.2.2.2.2.1 a.2.2.2.2.2 = some r) ?_ ?_
  · rintro ⟨x5, x6, x7, x8, x9, r1⟩ h
    change spec_OnePut_j1 u x5 x6 x7 x8 x9 r1 = some r at h
    unfold spec_OnePut_j1 at h
    refine Wp.srg [] [] ?_
    refine Runs.alln ?_
    refine Wp.fg ⟨[(4, .obj 4 0)], [(4, [.own 328192, .own 328193, .t (.int .i64 x7), .t (.int .i64 x8), .t (.int .i64 x9), .own 328197])], [(328192, .live 5 1 (x5.map (eInt .u8))), (328193, .live 5 1 (x6.map (eInt .u8))), (328197, .live 48 6 (r1.fP.map Put.enc))]⟩ ?_
    refine Wp.ret ?_
    obtain rfl := Option.some.inj h
    exact RetK [.agg [.own 328192, .own 328193, .t (.int .i64 x7), .t (.int .i64 x8), .t (.int .i64 x9), .own 328197]] _ [] kr kr (.refl _) .nil
  · refine Wp.block ?_
    refine Wp.srg [] [] ?_
    refine Runs.batch 1 kr ?_
    obtain ⟨r2, e_r2, h⟩ := bind_some h
    refine Runs.callBK 13 95 [] [.agg [.t (.int .i64 p1.fWhat), .t (.int .i64 p1.fAt), .ext false (.sl 1 (p1.fB.map (eInt .u8))), .t (.int .i64 p1.fR.fGen), .t (.int .i64 p1.fR.fSlot), .t (.int .i64 p1.fR.fLen)]] [.agg ((Put.enc p1).map .t)] (.one (.t (.bool r2))) rfl rfl kr kr kr kr kr (spec_l9Put_ok u p1 r2 e_r2) (by simp [V.plain, V.plains, C.plain, T.sc]) kr ?_
    refine Runs.alln ?_
    refine Wp.fg ⟨[(2, .obj 2 0), (3, .obj 3 0), (4, .obj 4 0), (5, .obj 5 0), (11, .t (.bool (!r2)))], [(2, [.ext false (.sl 1 (p0.fA.map (eInt .u8))), .ext false (.sl 1 (p0.fB.map (eInt .u8))), .t (.int .i64 p0.fR.fGen), .t (.int .i64 p0.fR.fSlot), .t (.int .i64 p0.fR.fLen), .ext false (.sl 6 (p0.fP.map Put.enc))]), (3, [.t (.int .i64 p1.fWhat), .t (.int .i64 p1.fAt), .ext false (.sl 1 (p1.fB.map (eInt .u8))), .t (.int .i64 p1.fR.fGen), .t (.int .i64 p1.fR.fSlot), .t (.int .i64 p1.fR.fLen)]), (4, [.nil, .nil, .t (.int .i64 0), .t (.int .i64 0), .t (.int .i64 0), .nil]), (5, [.own 458752, .own 458753, .t (.int .i64 r1.fR.fGen), .t (.int .i64 r1.fR.fSlot), .t (.int .i64 r1.fR.fLen), .own 458757])], [(458752, .live 5 1 (r1.fA.map (eInt .u8))), (458753, .live 5 1 (r1.fB.map (eInt .u8))), (458757, .live 48 6 (r1.fP.map Put.enc))]⟩ ?_
    refine Wp.cond2 (b := !r2) kr (fun hc => ?_) (fun hc => ?_)
    · have h := cond_t h hc
      refine Wp.skip ?_
      refine blkN ?_
      refine thenN ?_
      exact ⟨(r1.fA, r1.fB, r1.fR.fGen, r1.fR.fSlot, r1.fR.fLen, r1), h, Le.of (mo := []) (mr := [(328192, 458752), (328193, 458753), (328197, 458757)]) kr kr kr kr⟩
    have h := cond_f h hc
    refine Wp.srg [] [] ?_
    refine Runs.alln ?_
    refine Wp.fg ⟨[(2, .obj 2 0), (3, .obj 3 0), (4, .obj 4 0), (5, .obj 5 0), (15, .t (.bool (p1.fWhat == 0)))], [(2, [.ext false (.sl 1 (p0.fA.map (eInt .u8))), .ext false (.sl 1 (p0.fB.map (eInt .u8))), .t (.int .i64 p0.fR.fGen), .t (.int .i64 p0.fR.fSlot), .t (.int .i64 p0.fR.fLen), .ext false (.sl 6 (p0.fP.map Put.enc))]), (3, [.t (.int .i64 p1.fWhat), .t (.int .i64 p1.fAt), .ext false (.sl 1 (p1.fB.map (eInt .u8))), .t (.int .i64 p1.fR.fGen), .t (.int .i64 p1.fR.fSlot), .t (.int .i64 p1.fR.fLen)]), (4, [.nil, .nil, .t (.int .i64 0), .t (.int .i64 0), .t (.int .i64 0), .nil]), (5, [.own 458752, .own 458753, .t (.int .i64 r1.fR.fGen), .t (.int .i64 r1.fR.fSlot), .t (.int .i64 r1.fR.fLen), .own 458757])], [(458752, .live 5 1 (r1.fA.map (eInt .u8))), (458753, .live 5 1 (r1.fB.map (eInt .u8))), (458757, .live 48 6 (r1.fP.map Put.enc))]⟩ ?_
    refine Wp.cond2 (b := p1.fWhat == 0) kr (fun hc => ?_) (fun hc => ?_)
    · have h := cond_t h hc
      refine Wp.rg [] [] ?_
      refine Runs.batch 6 kr ?_
      obtain ⟨r3, e_r3, h⟩ := bind_some h
      refine Runs.callDK 25 96 [] [.ext false (.sl 1 (p0.fA.map (eInt .u8))), .t (.int .i64 p1.fAt), .ext false (.sl 1 (p1.fB.map (eInt .u8)))] [.one (.t (.sl 1 (p0.fA.map (eInt .u8)))), .one (.t (.int .i64 p1.fAt)), .one (.t (.sl 1 (p1.fB.map (eInt .u8))))] (.one (.ow 5 1 (r3.map (eInt .u8)))) rfl rfl kr kr kr kr kr (spec_l9Lay_okd u p0.fA p1.fAt p1.fB r3 e_r3) kr ?_
      refine Runs.all kr ?_
      refine blkN ?_
      refine thenN ?_
      exact ⟨(r3, r1.fB, r1.fR.fGen, r1.fR.fSlot, r1.fR.fLen, r1), h, Le.of (mo := []) (mr := [(328192, 1638400), (328193, 458753), (328197, 458757)]) kr kr kr kr⟩
    have h := cond_f h hc
    refine Wp.srg [] [] ?_
    refine Runs.alln ?_
    refine Wp.fg ⟨[(2, .obj 2 0), (3, .obj 3 0), (4, .obj 4 0), (5, .obj 5 0), (27, .t (.bool (p1.fWhat == 1)))], [(2, [.ext false (.sl 1 (p0.fA.map (eInt .u8))), .ext false (.sl 1 (p0.fB.map (eInt .u8))), .t (.int .i64 p0.fR.fGen), .t (.int .i64 p0.fR.fSlot), .t (.int .i64 p0.fR.fLen), .ext false (.sl 6 (p0.fP.map Put.enc))]), (3, [.t (.int .i64 p1.fWhat), .t (.int .i64 p1.fAt), .ext false (.sl 1 (p1.fB.map (eInt .u8))), .t (.int .i64 p1.fR.fGen), .t (.int .i64 p1.fR.fSlot), .t (.int .i64 p1.fR.fLen)]), (4, [.nil, .nil, .t (.int .i64 0), .t (.int .i64 0), .t (.int .i64 0), .nil]), (5, [.own 458752, .own 458753, .t (.int .i64 r1.fR.fGen), .t (.int .i64 r1.fR.fSlot), .t (.int .i64 r1.fR.fLen), .own 458757])], [(458752, .live 5 1 (r1.fA.map (eInt .u8))), (458753, .live 5 1 (r1.fB.map (eInt .u8))), (458757, .live 48 6 (r1.fP.map Put.enc))]⟩ ?_
    refine Wp.cond2 (b := p1.fWhat == 1) kr (fun hc => ?_) (fun hc => ?_)
    · have h := cond_t h hc
      refine Wp.rg [] [] ?_
      refine Runs.batch 6 kr ?_
      obtain ⟨r4, e_r4, h⟩ := bind_some h
      refine Runs.callDK 37 96 [] [.ext false (.sl 1 (p0.fB.map (eInt .u8))), .t (.int .i64 p1.fAt), .ext false (.sl 1 (p1.fB.map (eInt .u8)))] [.one (.t (.sl 1 (p0.fB.map (eInt .u8)))), .one (.t (.int .i64 p1.fAt)), .one (.t (.sl 1 (p1.fB.map (eInt .u8))))] (.one (.ow 5 1 (r4.map (eInt .u8)))) rfl rfl kr kr kr kr kr (spec_l9Lay_okd u p0.fB p1.fAt p1.fB r4 e_r4) kr ?_
      refine Runs.all kr ?_
      refine blkN ?_
      refine thenN ?_
      exact ⟨(r1.fA, r4, r1.fR.fGen, r1.fR.fSlot, r1.fR.fLen, r1), h, Le.of (mo := []) (mr := [(328192, 458752), (328193, 2424832), (328197, 458757)]) kr kr kr kr⟩
    have h := cond_f h hc
    refine Wp.rg [] [] ?_
    refine Runs.all kr ?_
    refine blkN ?_
    refine thenN ?_
    exact ⟨(r1.fA, r1.fB, p1.fR.fGen, p1.fR.fSlot, p1.fR.fLen, r1), h, Le.of (mo := []) (mr := [(328192, 458752), (328193, 458753), (328197, 458757)]) kr kr kr kr⟩
theorem spec_Sure_okd (u : Nat) (p0 : Disk) (r : Disk) (h : spec_Sure u p0 = some r) : DOK Try.prog 35 [.agg [.t (.sl 1 (p0.fA.map (eInt .u8))), .t (.sl 1 (p0.fB.map (eInt .u8))), .t (.int .i64 p0.fR.fGen), .t (.int .i64 p0.fR.fSlot), .t (.int .i64 p0.fR.fLen), .t (.sl 6 (p0.fP.map Put.enc))]] (.agg [.ow 5 1 (r.fA.map (eInt .u8)), .ow 5 1 (r.fB.map (eInt .u8)), .t (.int .i64 r.fR.fGen), .t (.int .i64 r.fR.fSlot), .t (.int .i64 r.fR.fLen), .ow 48 6 (r.fP.map Put.enc)]) := by
  unfold spec_Sure at h
  refine DOK.of_bodyK (fn := Try.f35) (m := true) kr rfl kr kr kr ?_
  refine Wp.srg [] [] ?_
  refine Runs.alln ?_
  refine Wp.fg ⟨[(1, .obj 1 0), (2, .obj 2 0)], [(1, [.ext false (.sl 1 (p0.fA.map (eInt .u8))), .ext false (.sl 1 (p0.fB.map (eInt .u8))), .t (.int .i64 p0.fR.fGen), .t (.int .i64 p0.fR.fSlot), .t (.int .i64 p0.fR.fLen), .ext false (.sl 6 (p0.fP.map Put.enc))]), (2, [.nil, .nil, .t (.int .i64 0), .t (.int .i64 0), .t (.int .i64 0), .nil])], []⟩ ?_
  refine Wp.srg [] [] ?_
  refine Runs.batch 1 kr ?_
  obtain ⟨r1, e_r1, h⟩ := bind_some h
  refine Runs.callDK 6 87 [] [.agg [.ext false (.sl 1 (p0.fA.map (eInt .u8))), .ext false (.sl 1 (p0.fB.map (eInt .u8))), .t (.int .i64 p0.fR.fGen), .t (.int .i64 p0.fR.fSlot), .t (.int .i64 p0.fR.fLen), .ext false (.sl 6 (p0.fP.map Put.enc))]] [.agg ((Disk.enc p0).map .t)] (.agg [.ow 5 1 (r1.fA.map (eInt .u8)), .ow 5 1 (r1.fB.map (eInt .u8)), .t (.int .i64 r1.fR.fGen), .t (.int .i64 r1.fR.fSlot), .t (.int .i64 r1.fR.fLen), .ow 48 6 (r1.fP.map Put.enc)]) rfl rfl kr kr kr kr kr (spec_l9Copy_okd u p0 r1 e_r1) kr ?_
  refine Runs.alln ?_
  refine Wp.fg ⟨[(1, .obj 1 0), (2, .obj 2 0), (3, .obj 3 0)], [(1, [.ext false (.sl 1 (p0.fA.map (eInt .u8))), .ext false (.sl 1 (p0.fB.map (eInt .u8))), .t (.int .i64 p0.fR.fGen), .t (.int .i64 p0.fR.fSlot), .t (.int .i64 p0.fR.fLen), .ext false (.sl 6 (p0.fP.map Put.enc))]), (2, [.nil, .nil, .t (.int .i64 0), .t (.int .i64 0), .t (.int .i64 0), .nil]), (3, [.own 393216, .own 393217, .t (.int .i64 r1.fR.fGen), .t (.int .i64 r1.fR.fSlot), .t (.int .i64 r1.fR.fLen), .own 393221])], [(393216, .live 5 1 (r1.fA.map (eInt .u8))), (393217, .live 5 1 (r1.fB.map (eInt .u8))), (393221, .live 48 6 (r1.fP.map Put.enc))]⟩ ?_
  refine Wp.seq ?_
  refine Wp.srg [] [] ?_
  refine Runs.batch 1 kr ?_
  obtain ⟨r2, e_r2, h⟩ := bind_some h
  refine Runs.callBK 8 39 [] [.agg [.ext false (.sl 1 (p0.fA.map (eInt .u8))), .ext false (.sl 1 (p0.fB.map (eInt .u8))), .t (.int .i64 p0.fR.fGen), .t (.int .i64 p0.fR.fSlot), .t (.int .i64 p0.fR.fLen), .ext false (.sl 6 (p0.fP.map Put.enc))]] [.agg ((Disk.enc p0).map .t)] (.one (.t (.bool r2))) rfl rfl kr kr kr kr kr (spec_DiskOk_ok u p0 r2 e_r2) (by simp [V.plain, V.plains, C.plain, T.sc]) kr ?_
  refine Runs.alln ?_
  refine Wp.fg ⟨[(1, .obj 1 0), (2, .obj 2 0), (3, .obj 3 0), (9, .t (.bool (!r2)))], [(1, [.ext false (.sl 1 (p0.fA.map (eInt .u8))), .ext false (.sl 1 (p0.fB.map (eInt .u8))), .t (.int .i64 p0.fR.fGen), .t (.int .i64 p0.fR.fSlot), .t (.int .i64 p0.fR.fLen), .ext false (.sl 6 (p0.fP.map Put.enc))]), (2, [.nil, .nil, .t (.int .i64 0), .t (.int .i64 0), .t (.int .i64 0), .nil]), (3, [.own 393216, .own 393217, .t (.int .i64 r1.fR.fGen), .t (.int .i64 r1.fR.fSlot), .t (.int .i64 r1.fR.fLen), .own 393221])], [(393216, .live 5 1 (r1.fA.map (eInt .u8))), (393217, .live 5 1 (r1.fB.map (eInt .u8))), (393221, .live 48 6 (r1.fP.map Put.enc))]⟩ ?_
  refine Wp.cond2 (b := !r2) kr (fun hc => ?_) (fun hc => ?_)
  · have h := cond_t h hc
    refine Wp.srg [] [] ?_
    refine Runs.alln ?_
    refine Wp.fg ⟨[(1, .obj 1 0), (2, .obj 2 0), (3, .obj 3 0)], [(1, [.ext false (.sl 1 (p0.fA.map (eInt .u8))), .ext false (.sl 1 (p0.fB.map (eInt .u8))), .t (.int .i64 p0.fR.fGen), .t (.int .i64 p0.fR.fSlot), .t (.int .i64 p0.fR.fLen), .ext false (.sl 6 (p0.fP.map Put.enc))]), (2, [.own 393216, .own 393217, .t (.int .i64 r1.fR.fGen), .t (.int .i64 r1.fR.fSlot), .t (.int .i64 r1.fR.fLen), .own 393221]), (3, [.own 393216, .own 393217, .t (.int .i64 r1.fR.fGen), .t (.int .i64 r1.fR.fSlot), .t (.int .i64 r1.fR.fLen), .own 393221])], [(393216, .live 5 1 (r1.fA.map (eInt .u8))), (393217, .live 5 1 (r1.fB.map (eInt .u8))), (393221, .live 48 6 (r1.fP.map Put.enc))]⟩ ?_
    refine Wp.ret ?_
    refine thenR ?_
    obtain rfl := Option.some.inj h
    exact RetK [.agg [.own 393216, .own 393217, .t (.int .i64 r1.fR.fGen), .t (.int .i64 r1.fR.fSlot), .t (.int .i64 r1.fR.fLen), .own 393221]] _ [] kr kr (.refl _) .nil
  have h := cond_f h hc
  refine Wp.skip (thenN ?_)
  refine Wp.seqJ (α := (List Int) × (List Int) × Int × Int × Int × (List Put)) (fun a => ⟨[(2, .obj 2 0), (3, .obj 3 0)], [(2, [.nil, .nil, .t (.int .i64 0), .t (.int .i64 0), .t (.int .i64 0), .nil]), (3, [.own 197120, .own 197121, .t (.int .i64 a.2.2.1), .t (.int .i64 a.2.2.2.1), .t (.int .i64 a.2.2.2.2.1), .own 197125])], [(197120, .live 5 1 (a.1.map (eInt .u8))), (197121, .live 5 1 (a.2.1.map (eInt .u8))), (197125, .live 48 6 (a.2.2.2.2.2.map Put.enc))]⟩) (fun a => spec_Sure_j1 u a.1 a.2.1 a.2.2.1 a.2.2.2.1 a.2.2.2.2.1 a.2.2.2.2.2 = some r) ?_ ?_
  · rintro ⟨x26, x27, x28, x29, x30, x31⟩ h
    change spec_Sure_j1 u x26 x27 x28 x29 x30 x31 = some r at h
    unfold spec_Sure_j1 at h
    refine Wp.srg [] [] ?_
    refine Runs.alln ?_
    refine Wp.fg ⟨[(2, .obj 2 0), (3, .obj 3 0)], [(2, [.nil, .nil, .t (.int .i64 0), .t (.int .i64 0), .t (.int .i64 0), .nil]), (3, [.own 197120, .own 197121, .t (.int .i64 x28), .t (.int .i64 x29), .t (.int .i64 x30), .own 1638400])], [(197120, .live 5 1 (x26.map (eInt .u8))), (197121, .live 5 1 (x27.map (eInt .u8))), (1638400, .live 48 6 ((([] : List Put)).map Put.enc))]⟩ ?_
    refine Wp.srg [] [] ?_
    refine Runs.alln ?_
    refine Wp.fg ⟨[(2, .obj 2 0)], [(2, [.own 197120, .own 197121, .t (.int .i64 x28), .t (.int .i64 x29), .t (.int .i64 x30), .own 1638400])], [(197120, .live 5 1 (x26.map (eInt .u8))), (197121, .live 5 1 (x27.map (eInt .u8))), (1638400, .live 48 6 ((([] : List Put)).map Put.enc))]⟩ ?_
    refine Wp.ret ?_
    obtain rfl := Option.some.inj h
    exact RetK [.agg [.own 197120, .own 197121, .t (.int .i64 x28), .t (.int .i64 x29), .t (.int .i64 x30), .own 1638400]] _ [] kr kr (.refl _) .nil
  · refine Wp.srg [] [] ?_
    refine Runs.alln ?_
    refine Wp.fg ⟨[(1, .obj 1 0), (2, .obj 2 0), (3, .obj 3 0), (4, .t (.int .i64 0))], [(1, [.ext false (.sl 1 (p0.fA.map (eInt .u8))), .ext false (.sl 1 (p0.fB.map (eInt .u8))), .t (.int .i64 p0.fR.fGen), .t (.int .i64 p0.fR.fSlot), .t (.int .i64 p0.fR.fLen), .ext false (.sl 6 (p0.fP.map Put.enc))]), (2, [.nil, .nil, .t (.int .i64 0), .t (.int .i64 0), .t (.int .i64 0), .nil]), (3, [.own 393216, .own 393217, .t (.int .i64 r1.fR.fGen), .t (.int .i64 r1.fR.fSlot), .t (.int .i64 r1.fR.fLen), .own 393221])], [(393216, .live 5 1 (r1.fA.map (eInt .u8))), (393217, .live 5 1 (r1.fB.map (eInt .u8))), (393221, .live 48 6 (r1.fP.map Put.enc))]⟩ ?_
    refine Wp.block ?_
    refine Wp.loopF (α := Int × Disk × (List Int) × (List Int) × Int × Int × Int × (List Put)) (fun a => ⟨[(1, .obj 1 0), (2, .obj 2 0), (3, .obj 3 0), (4, .t (.int .i64 a.1))], [(1, [.ext false (.sl 1 (a.2.1.fA.map (eInt .u8))), .ext false (.sl 1 (a.2.1.fB.map (eInt .u8))), .t (.int .i64 a.2.1.fR.fGen), .t (.int .i64 a.2.1.fR.fSlot), .t (.int .i64 a.2.1.fR.fLen), .ext false (.sl 6 (a.2.1.fP.map Put.enc))]), (2, [.nil, .nil, .t (.int .i64 0), .t (.int .i64 0), .t (.int .i64 0), .nil]), (3, [.own 197120, .own 197121, .t (.int .i64 a.2.2.2.2.1), .t (.int .i64 a.2.2.2.2.2.1), .t (.int .i64 a.2.2.2.2.2.2.1), .own 197125])], [(197120, .live 5 1 (a.2.2.1.map (eInt .u8))), (197121, .live 5 1 (a.2.2.2.1.map (eInt .u8))), (197125, .live 48 6 (a.2.2.2.2.2.2.2.map Put.enc))]⟩) (fun k_spec_Sure_l2 a => spec_Sure_l2 u k_spec_Sure_l2 a.1 a.2.1 a.2.2.1 a.2.2.2.1 a.2.2.2.2.1 a.2.2.2.2.2.1 a.2.2.2.2.2.2.1 a.2.2.2.2.2.2.2 = some r) ?_ ?_ u (0, p0, r1.fA, r1.fB, r1.fR.fGen, r1.fR.fSlot, r1.fR.fLen, r1.fP) h (Le.of (mo := []) (mr := [(197120, 393216), (197121, 393217), (197125, 393221)]) kr kr kr kr)
    · intro a h; unfold spec_Sure_l2 at h; cases h
    · rintro k_spec_Sure_l2 ⟨x10, p0, x11, x12, x13, x14, x15, x16⟩ h
      change spec_Sure_l2 u (k_spec_Sure_l2 + 1) x10 p0 x11 x12 x13 x14 x15 x16 = some r at h
      rw [spec_Sure_l2] at h
      refine Wp.seq ?_
      refine Wp.srg [] [] ?_
      refine Runs.batch 3 kr ?_
      refine Runs.lenX (e := 48) Put.enc p0.fP false 6 rfl rfl rfl kr kr kr kr ?_
      refine Runs.alln ?_
      refine Wp.fg ⟨[(1, .obj 1 0), (2, .obj 2 0), (3, .obj 3 0), (4, .t (.int .i64 x10)), (15, .t (.bool (decide (x10 < ((p0.fP.length : Int))))))], [(1, [.ext false (.sl 1 (p0.fA.map (eInt .u8))), .ext false (.sl 1 (p0.fB.map (eInt .u8))), .t (.int .i64 p0.fR.fGen), .t (.int .i64 p0.fR.fSlot), .t (.int .i64 p0.fR.fLen), .ext false (.sl 6 (p0.fP.map Put.enc))]), (2, [.nil, .nil, .t (.int .i64 0), .t (.int .i64 0), .t (.int .i64 0), .nil]), (3, [.own 197120, .own 197121, .t (.int .i64 x13), .t (.int .i64 x14), .t (.int .i64 x15), .own 197125])], [(197120, .live 5 1 (x11.map (eInt .u8))), (197121, .live 5 1 (x12.map (eInt .u8))), (197125, .live 48 6 (x16.map Put.enc))]⟩ ?_
      refine Wp.cond2 (b := decide (x10 < ((p0.fP.length : Int)))) kr (fun hc => ?_) (fun hc => ?_)
      · have h := cond_t h hc
        refine Wp.skip (thenN ?_)
        refine Wp.seq ?_
        refine Wp.block ?_
        refine Wp.le (Le.trans (Le.frzO 3 0 197120 5 1 [.own 197120, .own 197121, .t (.int .i64 x13), .t (.int .i64 x14), .t (.int .i64 x15), .own 197125] (x11.map (eInt .u8)) kr kr kr) (Le.trans (Le.frzO 3 1 197121 5 1 [.t (.sl 1 (x11.map (eInt .u8))), .own 197121, .t (.int .i64 x13), .t (.int .i64 x14), .t (.int .i64 x15), .own 197125] (x12.map (eInt .u8)) kr kr kr) (Le.trans (Le.frzO 3 5 197125 48 6 [.t (.sl 1 (x11.map (eInt .u8))), .t (.sl 1 (x12.map (eInt .u8))), .t (.int .i64 x13), .t (.int .i64 x14), .t (.int .i64 x15), .own 197125] (x16.map Put.enc) kr kr kr) (Le.of (s := ⟨[(1, .obj 1 0), (2, .obj 2 0), (3, .obj 3 0), (4, .t (.int .i64 x10))], [(1, [.ext false (.sl 1 (p0.fA.map (eInt .u8))), .ext false (.sl 1 (p0.fB.map (eInt .u8))), .t (.int .i64 p0.fR.fGen), .t (.int .i64 p0.fR.fSlot), .t (.int .i64 p0.fR.fLen), .ext false (.sl 6 (p0.fP.map Put.enc))]), (2, [.nil, .nil, .t (.int .i64 0), .t (.int .i64 0), .t (.int .i64 0), .nil]), (3, [.t (.sl 1 (x11.map (eInt .u8))), .t (.sl 1 (x12.map (eInt .u8))), .t (.int .i64 x13), .t (.int .i64 x14), .t (.int .i64 x15), .t (.sl 6 (x16.map Put.enc))])], []⟩) (mo := []) (mr := []) kr kr kr kr)))) ?_
        refine Wp.regionA (pOf []) (rhoOf [(1, .obj 1), (3, .obj 3), (4, .frz), (18, .frz), (19, .obj 1), (20, .frz), (21, .frz), (22, .frz), (23, .frz), (24, .own 24)]) kr kr ?_
        refine Runs.batch 4 kr ?_
        obtain ⟨y24, e_y24, h⟩ := bind_some h
        refine Runs.idxX (e := 48) (kk := .i64) (sz := 6) Put.enc p0.fP x10 false rfl kr kr kr kr kr kr e_y24 ?_
        refine Runs.batch 1 kr ?_
        obtain ⟨r25, e_r25, h⟩ := bind_some h
        refine Runs.callDK 24 33 [] [.agg [.t (.sl 1 (x11.map (eInt .u8))), .t (.sl 1 (x12.map (eInt .u8))), .t (.int .i64 x13), .t (.int .i64 x14), .t (.int .i64 x15), .t (.sl 6 (x16.map Put.enc))], .agg [.t (.int .i64 y24.fWhat), .t (.int .i64 y24.fAt), .ext false (.sl 1 (y24.fB.map (eInt .u8))), .t (.int .i64 y24.fR.fGen), .t (.int .i64 y24.fR.fSlot), .t (.int .i64 y24.fR.fLen)]] [.agg [.t (.sl 1 (x11.map (eInt .u8))), .t (.sl 1 (x12.map (eInt .u8))), .t (.int .i64 x13), .t (.int .i64 x14), .t (.int .i64 x15), .t (.sl 6 (x16.map Put.enc))], .agg ((Put.enc y24).map .t)] (.agg [.ow 5 1 (r25.fA.map (eInt .u8)), .ow 5 1 (r25.fB.map (eInt .u8)), .t (.int .i64 r25.fR.fGen), .t (.int .i64 r25.fR.fSlot), .t (.int .i64 r25.fR.fLen), .ow 48 6 (r25.fP.map Put.enc)]) rfl rfl kr kr kr kr kr (spec_OnePut_okd u ((Disk.mk x11 x12 ((Record.mk x13 x14 x15)) x16)) y24 r25 e_r25) kr ?_
        refine Runs.all kr ?_
        refine blkN ?_
        refine thenN ?_
        refine Wp.rg [] [] ?_
        refine Runs.alln ?_
        exact ⟨(bAdd .i64 x10 1, p0, r25.fA, r25.fB, r25.fR.fGen, r25.fR.fSlot, r25.fR.fLen, r25.fP), h, Le.of (mo := []) (mr := [(197120, 1572864), (197121, 1572865), (197125, 1572869)]) kr kr kr kr⟩
      have h := cond_f h hc
      refine Wp.exit ?_
      refine thenE ?_
      refine thenE ?_
      refine blkE ?_
      refine thenN ?_
      exact ⟨(x11, x12, x13, x14, x15, x16), h, Le.of (mo := []) (mr := []) kr kr kr kr⟩
theorem spec_l9Draw_ok (u : Nat) (p0 : l1Cur) (r : Disk × l1Cur) (h : spec_l9Draw u p0 = some r) : CallOK Try.prog 76 [.ptr [.t (.sl 1 (p0.fB.map (eInt .u8))), .t (.int .i64 p0.fI), .t (.int .i64 p0.fH)]] (.agg [.ow 5 1 (r.1.fA.map (eInt .u8)), .ow 5 1 (r.1.fB.map (eInt .u8)), .t (.int .i64 r.1.fR.fGen), .t (.int .i64 r.1.fR.fSlot), .t (.int .i64 r.1.fR.fLen), .ow 48 6 (r.1.fP.map Put.enc)]) [[.t (.sl 1 (r.2.fB.map (eInt .u8))), .t (.int .i64 r.2.fI), .t (.int .i64 r.2.fH)]] := by
  unfold spec_l9Draw at h
  refine CallOK.of_bodyK (fn := Try.f76) (m := true) [.obj 900 0] kr rfl kr kr kr kr kr ?_
  refine Wp.srg [] [] ?_
  refine Runs.alln ?_
  refine Wp.fg ⟨[(0, .obj 900 0), (2, .obj 2 0)], [(2, [.nil, .nil, .t (.int .i64 0), .t (.int .i64 0), .t (.int .i64 0), .nil]), (900, ((l1Cur.enc p0).map .t))], []⟩ ?_
  refine Wp.srg [] [] ?_
  refine Runs.batch 1 kr ?_
  obtain ⟨r1, e_r1, h⟩ := bind_some h
  refine Runs.callK false 8 81 [] [.obj 900 0, .t (.int .i64 3)] _ _ _ rfl rfl kr kr kr kr kr (spec_l1Below_ok u p0 3 r1 e_r1) kr ?_
  refine Runs.batch 1 kr ?_
  obtain ⟨r2, e_r2, h⟩ := bind_some h
  refine Runs.callK false 10 82 [] [.obj 900 0, .t (.int .i64 9)] _ _ _ rfl rfl kr kr kr kr kr (spec_l3Bytes_ok u r1.2 9 r2 e_r2) kr ?_
  obtain ⟨r3, e_r3, h⟩ := bind_some h
  refine Runs.callDK 11 37 [] [.t (.int .i64 r1.1), .own 655360] [.one (.t (.int .i64 r1.1)), .one (.t (.sl 1 (r2.1.map (eInt .u8))))] (.agg [.ow 5 1 (r3.fA.map (eInt .u8)), .ow 5 1 (r3.fB.map (eInt .u8)), .t (.int .i64 r3.fR.fGen), .t (.int .i64 r3.fR.fSlot), .t (.int .i64 r3.fR.fLen), .ow 48 6 (r3.fP.map Put.enc)]) rfl rfl kr kr kr kr kr (spec_DiskNew_okd u r1.1 r2.1 r3 e_r3) kr ?_
  refine Runs.alln ?_
  refine Wp.fg ⟨[(0, .obj 900 0), (2, .obj 2 0), (3, .obj 3 0)], [(2, [.nil, .nil, .t (.int .i64 0), .t (.int .i64 0), .t (.int .i64 0), .nil]), (3, [.own 720896, .own 720897, .t (.int .i64 r3.fR.fGen), .t (.int .i64 r3.fR.fSlot), .t (.int .i64 r3.fR.fLen), .own 720901]), (900, ((l1Cur.enc r2.2).map .t))], [(720896, .live 5 1 (r3.fA.map (eInt .u8))), (720897, .live 5 1 (r3.fB.map (eInt .u8))), (720901, .live 48 6 (r3.fP.map Put.enc))]⟩ ?_
  refine Wp.seqJ (α := (List Int) × (List Int) × Int × Int × Int × (List Put) × (List Int) × Int × Int) (fun a => ⟨[(2, .obj 2 0), (3, .obj 3 0)], [(2, [.nil, .nil, .t (.int .i64 0), .t (.int .i64 0), .t (.int .i64 0), .nil]), (3, [.own 197120, .own 197121, .t (.int .i64 a.2.2.1), .t (.int .i64 a.2.2.2.1), .t (.int .i64 a.2.2.2.2.1), .own 197125]), (900, [.t (.sl 1 (a.2.2.2.2.2.2.1.map (eInt .u8))), .t (.int .i64 a.2.2.2.2.2.2.2.1), .t (.int .i64 a.2.2.2.2.2.2.2.2)])], [(197120, .live 5 1 (a.1.map (eInt .u8))), (197121, .live 5 1 (a.2.1.map (eInt .u8))), (197125, .live 48 6 (a.2.2.2.2.2.1.map Put.enc))]⟩) (fun a => spec_l9Draw_j1 u a.1 a.2.1 a.2.2.1 a.2.2.2.1 a.2.2.2.2.1 a.2.2.2.2.2.1 a.2.2.2.2.2.2.1 a.2.2.2.2.2.2.2.1 a.2.2.2.2.2.2.2.2 = some r) ?_ ?_
  · rintro ⟨x47, x48, x49, x50, x51, x52, x53, x54, x55⟩ h
    change spec_l9Draw_j1 u x47 x48 x49 x50 x51 x52 x53 x54 x55 = some r at h
    unfold spec_l9Draw_j1 at h
    refine Wp.srg [] [] ?_
    refine Runs.alln ?_
    refine Wp.fg ⟨[(2, .obj 2 0)], [(2, [.own 197120, .own 197121, .t (.int .i64 x49), .t (.int .i64 x50), .t (.int .i64 x51), .own 197125]), (900, [.t (.sl 1 (x53.map (eInt .u8))), .t (.int .i64 x54), .t (.int .i64 x55)])], [(197120, .live 5 1 (x47.map (eInt .u8))), (197121, .live 5 1 (x48.map (eInt .u8))), (197125, .live 48 6 (x52.map Put.enc))]⟩ ?_
    refine Wp.ret ?_
    obtain rfl := Option.some.inj h
    exact RetK [.agg [.own 197120, .own 197121, .t (.int .i64 x49), .t (.int .i64 x50), .t (.int .i64 x51), .own 197125]] _ [[.t (.sl 1 (x53.map (eInt .u8))), .t (.int .i64 x54), .t (.int .i64 x55)]] kr kr (.refl _) (.cons ((.cons (.refl _) (.cons (.refl _) (.cons (.refl _) .nil)))) .nil)
  · refine Wp.srg [] [] ?_
    refine Runs.batch 1 kr ?_
    obtain ⟨r4, e_r4, h⟩ := bind_some h
    refine Runs.callK false 13 81 [] [.obj 900 0, .t (.int .i64 5)] _ _ _ rfl rfl kr kr kr kr kr (spec_l1Below_ok u r2.2 5 r4 e_r4) kr ?_
    refine Runs.alln ?_
    refine Wp.fg ⟨[(0, .obj 900 0), (2, .obj 2 0), (3, .obj 3 0), (4, .t (.int .i64 r4.1))], [(2, [.nil, .nil, .t (.int .i64 0), .t (.int .i64 0), .t (.int .i64 0), .nil]), (3, [.own 720896, .own 720897, .t (.int .i64 r3.fR.fGen), .t (.int .i64 r3.fR.fSlot), .t (.int .i64 r3.fR.fLen), .own 720901]), (900, ((l1Cur.enc r4.2).map .t))], [(720896, .live 5 1 (r3.fA.map (eInt .u8))), (720897, .live 5 1 (r3.fB.map (eInt .u8))), (720901, .live 48 6 (r3.fP.map Put.enc))]⟩ ?_
    refine Wp.block ?_
    refine Wp.loopF (α := Int × (List Int) × (List Int) × Int × Int × Int × (List Put) × (List Int) × Int × Int) (fun a => ⟨[(0, .obj 900 0), (2, .obj 2 0), (3, .obj 3 0), (4, .t (.int .i64 a.1))], [(2, [.nil, .nil, .t (.int .i64 0), .t (.int .i64 0), .t (.int .i64 0), .nil]), (3, [.own 197120, .own 197121, .t (.int .i64 a.2.2.2.1), .t (.int .i64 a.2.2.2.2.1), .t (.int .i64 a.2.2.2.2.2.1), .own 197125]), (900, [.t (.sl 1 (a.2.2.2.2.2.2.2.1.map (eInt .u8))), .t (.int .i64 a.2.2.2.2.2.2.2.2.1), .t (.int .i64 a.2.2.2.2.2.2.2.2.2)])], [(197120, .live 5 1 (a.2.1.map (eInt .u8))), (197121, .live 5 1 (a.2.2.1.map (eInt .u8))), (197125, .live 48 6 (a.2.2.2.2.2.2.1.map Put.enc))]⟩) (fun k_spec_l9Draw_l2 a => spec_l9Draw_l2 u k_spec_l9Draw_l2 a.1 a.2.1 a.2.2.1 a.2.2.2.1 a.2.2.2.2.1 a.2.2.2.2.2.1 a.2.2.2.2.2.2.1 a.2.2.2.2.2.2.2.1 a.2.2.2.2.2.2.2.2.1 a.2.2.2.2.2.2.2.2.2 = some r) ?_ ?_ u (r4.1, r3.fA, r3.fB, r3.fR.fGen, r3.fR.fSlot, r3.fR.fLen, r3.fP, r4.2.fB, r4.2.fI, r4.2.fH) h (Le.of (mo := []) (mr := [(197120, 720896), (197121, 720897), (197125, 720901)]) kr kr kr kr)
    · intro a h; unfold spec_l9Draw_l2 at h; cases h
    · rintro k_spec_l9Draw_l2 ⟨x15, x16, x17, x18, x19, x20, x21, x22, x23, x24⟩ h
      change spec_l9Draw_l2 u (k_spec_l9Draw_l2 + 1) x15 x16 x17 x18 x19 x20 x21 x22 x23 x24 = some r at h
      rw [spec_l9Draw_l2] at h
      refine Wp.seq ?_
      refine Wp.srg [] [] ?_
      refine Runs.alln ?_
      refine Wp.fg ⟨[(0, .obj 900 0), (2, .obj 2 0), (3, .obj 3 0), (4, .t (.int .i64 x15)), (15, .t (.bool (decide (x15 > 0))))], [(2, [.nil, .nil, .t (.int .i64 0), .t (.int .i64 0), .t (.int .i64 0), .nil]), (3, [.own 197120, .own 197121, .t (.int .i64 x18), .t (.int .i64 x19), .t (.int .i64 x20), .own 197125]), (900, [.t (.sl 1 (x22.map (eInt .u8))), .t (.int .i64 x23), .t (.int .i64 x24)])], [(197120, .live 5 1 (x16.map (eInt .u8))), (197121, .live 5 1 (x17.map (eInt .u8))), (197125, .live 48 6 (x21.map Put.enc))]⟩ ?_
      refine Wp.cond2 (b := decide (x15 > 0)) kr (fun hc => ?_) (fun hc => ?_)
      · have h := cond_t h hc
        refine Wp.skip (thenN ?_)
        refine Wp.seqJ (α := Int × (List Int) × (List Int) × Int × Int × Int × (List Put) × (Bool × l1Cur)) (fun a => ⟨[(0, .obj 900 0), (2, .obj 2 0), (3, .obj 3 0), (4, .t (.int .i64 a.1))], [(2, [.nil, .nil, .t (.int .i64 0), .t (.int .i64 0), .t (.int .i64 0), .nil]), (3, [.own 197120, .own 197121, .t (.int .i64 a.2.2.2.1), .t (.int .i64 a.2.2.2.2.1), .t (.int .i64 a.2.2.2.2.2.1), .own 197125]), (900, ((l1Cur.enc a.2.2.2.2.2.2.2.2).map .t))], [(197120, .live 5 1 (a.2.1.map (eInt .u8))), (197121, .live 5 1 (a.2.2.1.map (eInt .u8))), (197125, .live 48 6 (a.2.2.2.2.2.2.1.map Put.enc))]⟩) (fun a => spec_l9Draw_j3 u (fun z0 z1 z2 z3 z4 z5 z6 z7 z8 z9 => spec_l9Draw_l2 u k_spec_l9Draw_l2 z0 z1 z2 z3 z4 z5 z6 z7 z8 z9) a.1 a.2.1 a.2.2.1 a.2.2.2.1 a.2.2.2.2.1 a.2.2.2.2.2.1 a.2.2.2.2.2.2.1 a.2.2.2.2.2.2.2 = some r) ?_ ?_
        · rintro ⟨x15, x41, x42, x43, x44, x45, x46, r38⟩ h
          change spec_l9Draw_j3 u (fun z0 z1 z2 z3 z4 z5 z6 z7 z8 z9 => spec_l9Draw_l2 u k_spec_l9Draw_l2 z0 z1 z2 z3 z4 z5 z6 z7 z8 z9) x15 x41 x42 x43 x44 x45 x46 r38 = some r at h
          unfold spec_l9Draw_j3 at h
          refine Wp.rg [] [] ?_
          refine Runs.alln ?_
          exact ⟨(bSub .i64 x15 1, x41, x42, x43, x44, x45, x46, r38.2.fB, r38.2.fI, r38.2.fH), h, Le.of (mo := []) (mr := []) kr kr kr kr⟩
        · refine Wp.block ?_
          refine Wp.srg [] [] ?_
          refine Runs.batch 1 kr ?_
          obtain ⟨r35, e_r35, h⟩ := bind_some h
          refine Runs.callK false 19 79 [] [.obj 900 0] _ _ _ rfl rfl kr kr kr kr kr (spec_l9OnePut_ok u ((l1Cur.mk x22 x23 x24)) r35 e_r35) kr ?_
          refine Runs.alln ?_
          refine Wp.fg ⟨[(0, .obj 900 0), (2, .obj 2 0), (3, .obj 3 0), (4, .t (.int .i64 x15)), (5, .obj 5 0)], [(2, [.nil, .nil, .t (.int .i64 0), .t (.int .i64 0), .t (.int .i64 0), .nil]), (3, [.own 197120, .own 197121, .t (.int .i64 x18), .t (.int .i64 x19), .t (.int .i64 x20), .own 197125]), (5, [.t (.int .i64 r35.1.fWhat), .t (.int .i64 r35.1.fAt), .own 1245186, .t (.int .i64 r35.1.fR.fGen), .t (.int .i64 r35.1.fR.fSlot), .t (.int .i64 r35.1.fR.fLen)]), (900, ((l1Cur.enc r35.2).map .t))], [(197120, .live 5 1 (x16.map (eInt .u8))), (197121, .live 5 1 (x17.map (eInt .u8))), (197125, .live 48 6 (x21.map Put.enc)), (1245186, .live 5 1 (r35.1.fB.map (eInt .u8)))]⟩ ?_
          refine Wp.srg [] [] ?_
          refine Runs.batch 2 kr ?_
          obtain ⟨r36, e_r36, h⟩ := bind_some h
          refine Runs.callDK 23 88 [] [.agg [.own 197120, .own 197121, .t (.int .i64 x18), .t (.int .i64 x19), .t (.int .i64 x20), .own 197125], .agg [.t (.int .i64 r35.1.fWhat), .t (.int .i64 r35.1.fAt), .own 1245186, .t (.int .i64 r35.1.fR.fGen), .t (.int .i64 r35.1.fR.fSlot), .t (.int .i64 r35.1.fR.fLen)]] [.agg [.t (.sl 1 (x16.map (eInt .u8))), .t (.sl 1 (x17.map (eInt .u8))), .t (.int .i64 x18), .t (.int .i64 x19), .t (.int .i64 x20), .t (.sl 6 (x21.map Put.enc))], .agg ((Put.enc r35.1).map .t)] (.tup [.agg [.ow 5 1 (r36.1.fA.map (eInt .u8)), .ow 5 1 (r36.1.fB.map (eInt .u8)), .t (.int .i64 r36.1.fR.fGen), .t (.int .i64 r36.1.fR.fSlot), .t (.int .i64 r36.1.fR.fLen), .ow 48 6 (r36.1.fP.map Put.enc)], .one (.t (.bool r36.2))]) rfl rfl kr kr kr kr kr (spec_l9Add_okd u ((Disk.mk x16 x17 ((Record.mk x18 x19 x20)) x21)) r35.1 r36 e_r36) kr ?_
          refine Runs.alln ?_
          refine Wp.fg ⟨[(0, .obj 900 0), (2, .obj 2 0), (3, .obj 3 0), (4, .t (.int .i64 x15))], [(2, [.nil, .nil, .t (.int .i64 0), .t (.int .i64 0), .t (.int .i64 0), .nil]), (3, [.own 1507328, .own 1507329, .t (.int .i64 r36.1.fR.fGen), .t (.int .i64 r36.1.fR.fSlot), .t (.int .i64 r36.1.fR.fLen), .own 1507333]), (900, ((l1Cur.enc r35.2).map .t))], [(1507328, .live 5 1 (r36.1.fA.map (eInt .u8))), (1507329, .live 5 1 (r36.1.fB.map (eInt .u8))), (1507333, .live 48 6 (r36.1.fP.map Put.enc))]⟩ ?_
          refine Wp.srg [] [] ?_
          refine Runs.batch 1 kr ?_
          obtain ⟨r37, e_r37, h⟩ := bind_some h
          refine Runs.callDK 27 35 [] [.agg [.own 1507328, .own 1507329, .t (.int .i64 r36.1.fR.fGen), .t (.int .i64 r36.1.fR.fSlot), .t (.int .i64 r36.1.fR.fLen), .own 1507333]] [.agg ((Disk.enc r36.1).map .t)] (.agg [.ow 5 1 (r37.fA.map (eInt .u8)), .ow 5 1 (r37.fB.map (eInt .u8)), .t (.int .i64 r37.fR.fGen), .t (.int .i64 r37.fR.fSlot), .t (.int .i64 r37.fR.fLen), .ow 48 6 (r37.fP.map Put.enc)]) rfl rfl kr kr kr kr kr (spec_Sure_okd u r36.1 r37 e_r37) kr ?_
          refine Runs.alln ?_
          refine Wp.fg ⟨[(0, .obj 900 0), (2, .obj 2 0), (3, .obj 3 0), (4, .t (.int .i64 x15)), (6, .obj 6 0)], [(2, [.nil, .nil, .t (.int .i64 0), .t (.int .i64 0), .t (.int .i64 0), .nil]), (3, [.own 1507328, .own 1507329, .t (.int .i64 r36.1.fR.fGen), .t (.int .i64 r36.1.fR.fSlot), .t (.int .i64 r36.1.fR.fLen), .own 1507333]), (6, [.own 1769472, .own 1769473, .t (.int .i64 r37.fR.fGen), .t (.int .i64 r37.fR.fSlot), .t (.int .i64 r37.fR.fLen), .own 1769477]), (900, ((l1Cur.enc r35.2).map .t))], [(1507328, .live 5 1 (r36.1.fA.map (eInt .u8))), (1507329, .live 5 1 (r36.1.fB.map (eInt .u8))), (1507333, .live 48 6 (r36.1.fP.map Put.enc)), (1769472, .live 5 1 (r37.fA.map (eInt .u8))), (1769473, .live 5 1 (r37.fB.map (eInt .u8))), (1769477, .live 48 6 (r37.fP.map Put.enc))]⟩ ?_
          refine Wp.seqJ (α := Int × Bool × (Disk × Bool) × (Bool × l1Cur) × Disk) (fun a => ⟨[(0, .obj 900 0), (2, .obj 2 0), (3, .obj 3 0), (4, .t (.int .i64 a.1)), (6, .obj 6 0), (33, .t (.bool a.2.1))], [(2, [.nil, .nil, .t (.int .i64 0), .t (.int .i64 0), .t (.int .i64 0), .nil]), (3, [.own 197120, .own 197121, .t (.int .i64 a.2.2.1.1.fR.fGen), .t (.int .i64 a.2.2.1.1.fR.fSlot), .t (.int .i64 a.2.2.1.1.fR.fLen), .own 197125]), (6, [.own 393728, .own 393729, .t (.int .i64 a.2.2.2.2.fR.fGen), .t (.int .i64 a.2.2.2.2.fR.fSlot), .t (.int .i64 a.2.2.2.2.fR.fLen), .own 393733]), (900, ((l1Cur.enc a.2.2.2.1.2).map .t))], [(197120, .live 5 1 (a.2.2.1.1.fA.map (eInt .u8))), (197121, .live 5 1 (a.2.2.1.1.fB.map (eInt .u8))), (197125, .live 48 6 (a.2.2.1.1.fP.map Put.enc)), (393728, .live 5 1 (a.2.2.2.2.fA.map (eInt .u8))), (393729, .live 5 1 (a.2.2.2.2.fB.map (eInt .u8))), (393733, .live 48 6 (a.2.2.2.2.fP.map Put.enc))]⟩) (fun a => spec_l9Draw_j4 u (fun z0 z1 z2 z3 z4 z5 z6 z7 z8 z9 => spec_l9Draw_l2 u k_spec_l9Draw_l2 z0 z1 z2 z3 z4 z5 z6 z7 z8 z9) a.1 a.2.1 a.2.2.1 a.2.2.2.1 a.2.2.2.2 = some r) ?_ ?_
          · rintro ⟨x15, x40, r36, r38, r37⟩ h
            change spec_l9Draw_j4 u (fun z0 z1 z2 z3 z4 z5 z6 z7 z8 z9 => spec_l9Draw_l2 u k_spec_l9Draw_l2 z0 z1 z2 z3 z4 z5 z6 z7 z8 z9) x15 x40 r36 r38 r37 = some r at h
            unfold spec_l9Draw_j4 at h
            refine Wp.cond2 (b := x40) kr (fun hc => ?_) (fun hc => ?_)
            · have h := cond_t h hc
              refine Wp.rg [] [] ?_
              refine Runs.all kr ?_
              refine blkN ?_
              refine thenN ?_
              exact ⟨(x15, r37.fA, r37.fB, r37.fR.fGen, r37.fR.fSlot, r37.fR.fLen, r37.fP, r38), h, Le.of (mo := []) (mr := [(197120, 393728), (197121, 393729), (197125, 393733)]) kr kr kr kr⟩
            have h := cond_f h hc
            refine Wp.skip ?_
            refine blkN ?_
            refine thenN ?_
            exact ⟨(x15, r36.1.fA, r36.1.fB, r36.1.fR.fGen, r36.1.fR.fSlot, r36.1.fR.fLen, r36.1.fP, r38), h, Le.of (mo := []) (mr := []) kr kr kr kr⟩
          · refine Wp.rg [] [] ?_
            refine Runs.batch 1 kr ?_
            obtain ⟨r38, e_r38, h⟩ := bind_some h
            refine Runs.callK false 29 80 [] [.obj 900 0, .t (.int .i64 5)] _ _ _ rfl rfl kr kr kr kr kr (spec_l1Once_ok u r35.2 5 r38 e_r38) kr ?_
            refine Runs.batch 1 kr ?_
            rcases tf (r38.1) with hc | hc
            · have h := cond_t h hc
              refine Runs.known 30 (v := true) kr hc ?_
              refine Runs.batch 1 kr ?_
              obtain ⟨r39, e_r39, h⟩ := bind_some h
              refine Runs.callBK 32 39 [] [.agg [.own 1769472, .own 1769473, .t (.int .i64 r37.fR.fGen), .t (.int .i64 r37.fR.fSlot), .t (.int .i64 r37.fR.fLen), .own 1769477]] [.agg ((Disk.enc r37).map .t)] (.one (.t (.bool r39))) rfl rfl kr kr kr kr kr (spec_DiskOk_ok u r37 r39 e_r39) (by simp [V.plain, V.plains, C.plain, T.sc]) kr ?_
              refine Runs.alln ?_
              exact ⟨(x15, r39, r36, r38, r37), h, Le.of (mo := []) (mr := [(197120, 1507328), (197121, 1507329), (197125, 1507333), (393728, 1769472), (393729, 1769473), (393733, 1769477)]) kr kr kr kr⟩
            have h := cond_f h hc
            refine Runs.known 30 (v := false) kr hc ?_
            refine Runs.alln ?_
            exact ⟨(x15, false, r36, r38, r37), h, Le.of (mo := []) (mr := [(197120, 1507328), (197121, 1507329), (197125, 1507333), (393728, 1769472), (393729, 1769473), (393733, 1769477)]) kr kr kr kr⟩
      have h := cond_f h hc
      refine Wp.exit ?_
      refine thenE ?_
      refine thenE ?_
      refine blkE ?_
      refine thenN ?_
      exact ⟨(x16, x17, x18, x19, x20, x21, x22, x23, x24), h, Le.of (mo := []) (mr := []) kr kr kr kr⟩
theorem spec_DrawDisk_ok (u : Nat) (p0 : List Int) (r : Disk) (h : spec_DrawDisk u p0 = some r) : CallOK Try.prog 18 [.one (.t (.sl 1 (p0.map (eInt .u8))))] (.agg [.ow 5 1 (r.fA.map (eInt .u8)), .ow 5 1 (r.fB.map (eInt .u8)), .t (.int .i64 r.fR.fGen), .t (.int .i64 r.fR.fSlot), .t (.int .i64 r.fR.fLen), .ow 48 6 (r.fP.map Put.enc)]) [] := by
  unfold spec_DrawDisk at h
  refine CallOK.of_bodyK (fn := Try.f18) (m := true) [.t (.sl 1 (p0.map (eInt .u8)))] kr rfl kr kr kr kr kr ?_
  refine Wp.srg [] [] ?_
  refine Runs.alln ?_
  refine Wp.fg ⟨[(0, .t (.sl 1 (p0.map (eInt .u8)))), (2, .obj 2 0)], [(2, [.nil, .nil, .t (.int .i64 0), .t (.int .i64 0), .t (.int .i64 0), .nil])], []⟩ ?_
  refine Wp.srg [] [] ?_
  refine Runs.batch 1 kr ?_
  obtain ⟨r1, e_r1, h⟩ := bind_some h
  refine Runs.callK false 5 75 [] [.t (.sl 1 (p0.map (eInt .u8)))] _ _ _ rfl rfl kr kr kr kr kr (spec_l1New_ok u p0 r1 e_r1) kr ?_
  refine Runs.alln ?_
  refine Wp.fg ⟨[(2, .obj 2 0), (3, .obj 5 0)], [(2, [.nil, .nil, .t (.int .i64 0), .t (.int .i64 0), .t (.int .i64 0), .nil]), (5, ((l1Cur.enc r1).map .t))], []⟩ ?_
  refine Wp.srg [] [] ?_
  refine Runs.batch 1 kr ?_
  obtain ⟨r2, e_r2, h⟩ := bind_some h
  refine Runs.callK false 7 76 [] [.obj 5 0] _ _ _ rfl rfl kr kr kr kr kr (spec_l9Draw_ok u r1 r2 e_r2) kr ?_
  refine Runs.alln ?_
  refine Wp.fg ⟨[(2, .obj 2 0)], [(2, [.own 458752, .own 458753, .t (.int .i64 r2.1.fR.fGen), .t (.int .i64 r2.1.fR.fSlot), .t (.int .i64 r2.1.fR.fLen), .own 458757])], [(458752, .live 5 1 (r2.1.fA.map (eInt .u8))), (458753, .live 5 1 (r2.1.fB.map (eInt .u8))), (458757, .live 48 6 (r2.1.fP.map Put.enc))]⟩ ?_
  refine Wp.ret ?_
  obtain rfl := Option.some.inj h
  exact RetK [.agg [.own 458752, .own 458753, .t (.int .i64 r2.1.fR.fGen), .t (.int .i64 r2.1.fR.fSlot), .t (.int .i64 r2.1.fR.fLen), .own 458757]] _ [] kr kr (.refl _) .nil
theorem spec_l9Any_ok (u : Nat) (p0 : l1Cur) (r : Disk × l1Cur) (h : spec_l9Any u p0 = some r) : CallOK Try.prog 77 [.ptr [.t (.sl 1 (p0.fB.map (eInt .u8))), .t (.int .i64 p0.fI), .t (.int .i64 p0.fH)]] (.agg [.ow 5 1 (r.1.fA.map (eInt .u8)), .ow 5 1 (r.1.fB.map (eInt .u8)), .t (.int .i64 r.1.fR.fGen), .t (.int .i64 r.1.fR.fSlot), .t (.int .i64 r.1.fR.fLen), .ow 48 6 (r.1.fP.map Put.enc)]) [[.t (.sl 1 (r.2.fB.map (eInt .u8))), .t (.int .i64 r.2.fI), .t (.int .i64 r.2.fH)]] := by
  unfold spec_l9Any at h
  refine CallOK.of_bodyK (fn := Try.f77) (m := true) [.obj 900 0] kr rfl kr kr kr kr kr ?_
  refine Wp.srg [] [] ?_
  refine Runs.alln ?_
  refine Wp.fg ⟨[(0, .obj 900 0), (2, .obj 2 0)], [(2, [.nil, .nil, .t (.int .i64 0), .t (.int .i64 0), .t (.int .i64 0), .nil]), (900, ((l1Cur.enc p0).map .t))], []⟩ ?_
  refine Wp.srg [] [] ?_
  refine Runs.batch 1 kr ?_
  obtain ⟨r1, e_r1, h⟩ := bind_some h
  refine Runs.callK false 5 76 [] [.obj 900 0] _ _ _ rfl rfl kr kr kr kr kr (spec_l9Draw_ok u p0 r1 e_r1) kr ?_
  refine Runs.alln ?_
  refine Wp.fg ⟨[(0, .obj 900 0), (2, .obj 2 0), (3, .obj 3 0)], [(2, [.nil, .nil, .t (.int .i64 0), .t (.int .i64 0), .t (.int .i64 0), .nil]), (3, [.own 327680, .own 327681, .t (.int .i64 r1.1.fR.fGen), .t (.int .i64 r1.1.fR.fSlot), .t (.int .i64 r1.1.fR.fLen), .own 327685]), (900, ((l1Cur.enc r1.2).map .t))], [(327680, .live 5 1 (r1.1.fA.map (eInt .u8))), (327681, .live 5 1 (r1.1.fB.map (eInt .u8))), (327685, .live 48 6 (r1.1.fP.map Put.enc))]⟩ ?_
  refine Wp.seqJ (α := (Disk × l1Cur) × Int × Int × Int × (List Put) × (List Int) × Int × Int) (fun a => ⟨[(2, .obj 2 0), (3, .obj 3 0)], [(2, [.nil, .nil, .t (.int .i64 0), .t (.int .i64 0), .t (.int .i64 0), .nil]), (3, [.own 197120, .own 197121, .t (.int .i64 a.2.1), .t (.int .i64 a.2.2.1), .t (.int .i64 a.2.2.2.1), .own 197125]), (900, [.t (.sl 1 (a.2.2.2.2.2.1.map (eInt .u8))), .t (.int .i64 a.2.2.2.2.2.2.1), .t (.int .i64 a.2.2.2.2.2.2.2)])], [(197120, .live 5 1 (a.1.1.fA.map (eInt .u8))), (197121, .live 5 1 (a.1.1.fB.map (eInt .u8))), (197125, .live 48 6 (a.2.2.2.2.1.map Put.enc))]⟩) (fun a => spec_l9Any_j1 u a.1 a.2.1 a.2.2.1 a.2.2.2.1 a.2.2.2.2.1 a.2.2.2.2.2.1 a.2.2.2.2.2.2.1 a.2.2.2.2.2.2.2 = some r) ?_ ?_
  · rintro ⟨r1, x8, x9, x10, x11, x12, x13, x14⟩ h
    change spec_l9Any_j1 u r1 x8 x9 x10 x11 x12 x13 x14 = some r at h
    unfold spec_l9Any_j1 at h
    refine Wp.srg [] [] ?_
    refine Runs.alln ?_
    refine Wp.fg ⟨[(2, .obj 2 0)], [(2, [.own 197120, .own 197121, .t (.int .i64 x8), .t (.int .i64 x9), .t (.int .i64 x10), .own 197125]), (900, [.t (.sl 1 (x12.map (eInt .u8))), .t (.int .i64 x13), .t (.int .i64 x14)])], [(197120, .live 5 1 (r1.1.fA.map (eInt .u8))), (197121, .live 5 1 (r1.1.fB.map (eInt .u8))), (197125, .live 48 6 (x11.map Put.enc))]⟩ ?_
    refine Wp.ret ?_
    obtain rfl := Option.some.inj h
    exact RetK [.agg [.own 197120, .own 197121, .t (.int .i64 x8), .t (.int .i64 x9), .t (.int .i64 x10), .own 197125]] _ [[.t (.sl 1 (x12.map (eInt .u8))), .t (.int .i64 x13), .t (.int .i64 x14)]] kr kr (.refl _) (.cons ((.cons (.refl _) (.cons (.refl _) (.cons (.refl _) .nil)))) .nil)
  · refine Wp.srg [] [] ?_
    refine Runs.batch 1 kr ?_
    obtain ⟨r2, e_r2, h⟩ := bind_some h
    refine Runs.callK false 7 81 [] [.obj 900 0, .t (.int .i64 12)] _ _ _ rfl rfl kr kr kr kr kr (spec_l1Below_ok u r1.2 12 r2 e_r2) kr ?_
    refine Runs.done ?_
    refine thenN ?_
    refine Wp.fg ⟨[(0, .obj 900 0), (2, .obj 2 0), (3, .obj 3 0), (7, .t (.int .i64 r2.1))], [(2, [.nil, .nil, .t (.int .i64 0), .t (.int .i64 0), .t (.int .i64 0), .nil]), (3, [.own 327680, .own 327681, .t (.int .i64 r1.1.fR.fGen), .t (.int .i64 r1.1.fR.fSlot), .t (.int .i64 r1.1.fR.fLen), .own 327685]), (900, ((l1Cur.enc r2.2).map .t))], [(327680, .live 5 1 (r1.1.fA.map (eInt .u8))), (327681, .live 5 1 (r1.1.fB.map (eInt .u8))), (327685, .live 48 6 (r1.1.fP.map Put.enc))]⟩ ?_
    refine Wp.block ?_
    refine Wp.srg [] [] ?_
    refine Runs.alln ?_
    refine Wp.fg ⟨[(0, .obj 900 0), (2, .obj 2 0), (3, .obj 3 0), (7, .t (.int .i64 r2.1)), (8, .t (.bool (r2.1 == 0)))], [(2, [.nil, .nil, .t (.int .i64 0), .t (.int .i64 0), .t (.int .i64 0), .nil]), (3, [.own 327680, .own 327681, .t (.int .i64 r1.1.fR.fGen), .t (.int .i64 r1.1.fR.fSlot), .t (.int .i64 r1.1.fR.fLen), .own 327685]), (900, ((l1Cur.enc r2.2).map .t))], [(327680, .live 5 1 (r1.1.fA.map (eInt .u8))), (327681, .live 5 1 (r1.1.fB.map (eInt .u8))), (327685, .live 48 6 (r1.1.fP.map Put.enc))]⟩ ?_
    refine Wp.cond2 (b := r2.1 == 0) kr (fun hc => ?_) (fun hc => ?_)
    · have h := cond_t h hc
      refine Wp.rg [] [] ?_
      refine Runs.batch 2 kr ?_
      obtain ⟨r3, e_r3, h⟩ := bind_some h
      refine Runs.callK false 12 78 [] [.obj 900 0, .own 720896] _ _ _ rfl rfl kr kr kr kr kr (spec_l1Int_ok u r2.2 ([-1, 0, 240, 241]) r3 e_r3) kr ?_
      refine Runs.all kr ?_
      refine blkN ?_
      refine thenN ?_
      exact ⟨(r1, r1.1.fR.fGen, r1.1.fR.fSlot, r3.1, r1.1.fP, r3.2.fB, r3.2.fI, r3.2.fH), h, Le.of (mo := []) (mr := [(197120, 327680), (197121, 327681), (197125, 327685)]) kr kr kr kr⟩
    have h := cond_f h hc
    refine Wp.srg [] [] ?_
    refine Runs.alln ?_
    refine Wp.fg ⟨[(0, .obj 900 0), (2, .obj 2 0), (3, .obj 3 0), (7, .t (.int .i64 r2.1)), (15, .t (.bool (r2.1 == 1)))], [(2, [.nil, .nil, .t (.int .i64 0), .t (.int .i64 0), .t (.int .i64 0), .nil]), (3, [.own 327680, .own 327681, .t (.int .i64 r1.1.fR.fGen), .t (.int .i64 r1.1.fR.fSlot), .t (.int .i64 r1.1.fR.fLen), .own 327685]), (900, ((l1Cur.enc r2.2).map .t))], [(327680, .live 5 1 (r1.1.fA.map (eInt .u8))), (327681, .live 5 1 (r1.1.fB.map (eInt .u8))), (327685, .live 48 6 (r1.1.fP.map Put.enc))]⟩ ?_
    refine Wp.cond2 (b := r2.1 == 1) kr (fun hc => ?_) (fun hc => ?_)
    · have h := cond_t h hc
      refine Wp.rg [] [] ?_
      refine Runs.batch 2 kr ?_
      obtain ⟨r4, e_r4, h⟩ := bind_some h
      refine Runs.callK false 19 78 [] [.obj 900 0, .own 1179648] _ _ _ rfl rfl kr kr kr kr kr (spec_l1Int_ok u r2.2 ([-1, 1, 2]) r4 e_r4) kr ?_
      refine Runs.all kr ?_
      refine blkN ?_
      refine thenN ?_
      exact ⟨(r1, r1.1.fR.fGen, r4.1, r1.1.fR.fLen, r1.1.fP, r4.2.fB, r4.2.fI, r4.2.fH), h, Le.of (mo := []) (mr := [(197120, 327680), (197121, 327681), (197125, 327685)]) kr kr kr kr⟩
    have h := cond_f h hc
    refine Wp.srg [] [] ?_
    refine Runs.alln ?_
    refine Wp.fg ⟨[(0, .obj 900 0), (2, .obj 2 0), (3, .obj 3 0), (7, .t (.int .i64 r2.1)), (22, .t (.bool (r2.1 == 2)))], [(2, [.nil, .nil, .t (.int .i64 0), .t (.int .i64 0), .t (.int .i64 0), .nil]), (3, [.own 327680, .own 327681, .t (.int .i64 r1.1.fR.fGen), .t (.int .i64 r1.1.fR.fSlot), .t (.int .i64 r1.1.fR.fLen), .own 327685]), (900, ((l1Cur.enc r2.2).map .t))], [(327680, .live 5 1 (r1.1.fA.map (eInt .u8))), (327681, .live 5 1 (r1.1.fB.map (eInt .u8))), (327685, .live 48 6 (r1.1.fP.map Put.enc))]⟩ ?_
    refine Wp.cond2 (b := r2.1 == 2) kr (fun hc => ?_) (fun hc => ?_)
    · have h := cond_t h hc
      refine Wp.rg [] [] ?_
      refine Runs.batch 2 kr ?_
      obtain ⟨r5, e_r5, h⟩ := bind_some h
      refine Runs.callK false 26 78 [] [.obj 900 0, .own 1638400] _ _ _ rfl rfl kr kr kr kr kr (spec_l1Int_ok u r2.2 ([-1, 1000001]) r5 e_r5) kr ?_
      refine Runs.all kr ?_
      refine blkN ?_
      refine thenN ?_
      exact ⟨(r1, r5.1, r1.1.fR.fSlot, r1.1.fR.fLen, r1.1.fP, r5.2.fB, r5.2.fI, r5.2.fH), h, Le.of (mo := []) (mr := [(197120, 327680), (197121, 327681), (197125, 327685)]) kr kr kr kr⟩
    have h := cond_f h hc
    refine Wp.srg [] [] ?_
    refine Runs.alln ?_
    refine Wp.fg ⟨[(0, .obj 900 0), (2, .obj 2 0), (3, .obj 3 0), (29, .t (.bool (r2.1 == 3)))], [(2, [.nil, .nil, .t (.int .i64 0), .t (.int .i64 0), .t (.int .i64 0), .nil]), (3, [.own 327680, .own 327681, .t (.int .i64 r1.1.fR.fGen), .t (.int .i64 r1.1.fR.fSlot), .t (.int .i64 r1.1.fR.fLen), .own 327685]), (900, ((l1Cur.enc r2.2).map .t))], [(327680, .live 5 1 (r1.1.fA.map (eInt .u8))), (327681, .live 5 1 (r1.1.fB.map (eInt .u8))), (327685, .live 48 6 (r1.1.fP.map Put.enc))]⟩ ?_
    refine Wp.cond2 (b := r2.1 == 3) kr (fun hc => ?_) (fun hc => ?_)
    · have h := cond_t h hc
      refine Wp.regionA (pOf [900]) (rhoOf [(0, .obj 900), (3, .obj 3), (31, .obj 3), (32, .own 5), (33, .obj 900), (34, .own 34), (35, .frz), (36, .obj 900), (37, .own 37), (38, .frz), (39, .own 39), (40, .own 39), (41, .own 41), (42, .own 42), (43, .obj 3)]) kr kr ?_
      refine Runs.batch 4 kr ?_
      obtain ⟨r6, e_r6, h⟩ := bind_some h
      refine Runs.callK false 35 78 [] [.obj 900 0, .own 2228224] _ _ _ rfl rfl kr kr kr kr kr (spec_l1Int_ok u r2.2 ([3, 0, 2]) r6 e_r6) kr ?_
      refine Runs.batch 2 kr ?_
      obtain ⟨r7, e_r7, h⟩ := bind_some h
      refine Runs.callK false 38 78 [] [.obj 900 0, .own 2424832] _ _ _ rfl rfl kr kr kr kr kr (spec_l1Int_ok u r6.2 ([-1, 240, 0]) r7 e_r7) kr ?_
      refine Runs.batch 3 kr ?_
      obtain ⟨_, e_8, h⟩ := bind_some h
      refine Runs.appT (y := .own 2686976) Put.enc 42 6 48 6 64 327685 r1.1.fP ([(Put.mk r6.1 r7.1 ([1]) ((Record.mk 0 0 0)))]) rfl rfl rfl rfl kr kr kr kr kr kr (.inl rfl) kr (of_decide_eq_true (chk_some e_8)) kr kr ?_
      refine Runs.all kr ?_
      refine blkN ?_
      refine thenN ?_
      exact ⟨(r1, r1.1.fR.fGen, r1.1.fR.fSlot, r1.1.fR.fLen, r1.1.fP ++ ([(Put.mk r6.1 r7.1 ([1]) ((Record.mk 0 0 0)))]), r7.2.fB, r7.2.fI, r7.2.fH), h, Le.of (mo := []) (mr := [(197120, 327680), (197121, 327681), (197125, 2752512)]) kr kr kr kr⟩
    have h := cond_f h hc
    refine Wp.skip ?_
    refine blkN ?_
    refine thenN ?_
    exact ⟨(r1, r1.1.fR.fGen, r1.1.fR.fSlot, r1.1.fR.fLen, r1.1.fP, r2.2.fB, r2.2.fI, r2.2.fH), h, Le.of (mo := []) (mr := [(197120, 327680), (197121, 327681), (197125, 327685)]) kr kr kr kr⟩
theorem spec_DrawFall_ok (u : Nat) (p0 : List Int) (r : Disk × Int) (h : spec_DrawFall u p0 = some r) : CallOK Try.prog 19 [.one (.t (.sl 1 (p0.map (eInt .u8))))] (.tup [.agg [.t (.sl 1 (r.1.fA.map (eInt .u8))), .t (.sl 1 (r.1.fB.map (eInt .u8))), .t (.int .i64 r.1.fR.fGen), .t (.int .i64 r.1.fR.fSlot), .t (.int .i64 r.1.fR.fLen), .t (.sl 6 (r.1.fP.map Put.enc))], .one (.t (.int .i64 r.2))]) [] := by
  unfold spec_DrawFall at h
  refine CallOK.of_bodyK (fn := Try.f19) (m := false) [.t (.sl 1 (p0.map (eInt .u8)))] kr rfl kr kr kr kr kr ?_
  refine Wp.srg [] [] ?_
  refine Runs.alln ?_
  refine Wp.fg ⟨[(0, .t (.sl 1 (p0.map (eInt .u8)))), (2, .obj 2 0), (3, .t (.int .i64 0))], [(2, [.nil, .nil, .t (.int .i64 0), .t (.int .i64 0), .t (.int .i64 0), .nil])], []⟩ ?_
  refine Wp.srg [] [] ?_
  refine Runs.batch 1 kr ?_
  obtain ⟨r1, e_r1, h⟩ := bind_some h
  refine Runs.callK false 7 75 [] [.t (.sl 1 (p0.map (eInt .u8)))] _ _ _ rfl rfl kr kr kr kr kr (spec_l1New_ok u p0 r1 e_r1) kr ?_
  refine Runs.alln ?_
  refine Wp.fg ⟨[(2, .obj 2 0), (3, .t (.int .i64 0)), (4, .obj 7 0)], [(2, [.nil, .nil, .t (.int .i64 0), .t (.int .i64 0), .t (.int .i64 0), .nil]), (7, ((l1Cur.enc r1).map .t))], []⟩ ?_
  refine Wp.srg [] [] ?_
  refine Runs.batch 1 kr ?_
  obtain ⟨r2, e_r2, h⟩ := bind_some h
  refine Runs.callK false 9 77 [] [.obj 7 0] _ _ _ rfl rfl kr kr kr kr kr (spec_l9Any_ok u r1 r2 e_r2) kr ?_
  refine Runs.alln ?_
  refine Wp.fg ⟨[(2, .obj 2 0), (3, .t (.int .i64 0)), (4, .obj 7 0), (5, .obj 5 0)], [(2, [.nil, .nil, .t (.int .i64 0), .t (.int .i64 0), .t (.int .i64 0), .nil]), (5, [.own 589824, .own 589825, .t (.int .i64 r2.1.fR.fGen), .t (.int .i64 r2.1.fR.fSlot), .t (.int .i64 r2.1.fR.fLen), .own 589829]), (7, ((l1Cur.enc r2.2).map .t))], [(589824, .live 5 1 (r2.1.fA.map (eInt .u8))), (589825, .live 5 1 (r2.1.fB.map (eInt .u8))), (589829, .live 48 6 (r2.1.fP.map Put.enc))]⟩ ?_
  refine Wp.seq ?_
  refine Wp.le (Le.trans (Le.frzO 5 0 589824 5 1 [.own 589824, .own 589825, .t (.int .i64 r2.1.fR.fGen), .t (.int .i64 r2.1.fR.fSlot), .t (.int .i64 r2.1.fR.fLen), .own 589829] (r2.1.fA.map (eInt .u8)) kr kr kr) (Le.trans (Le.frzO 5 1 589825 5 1 [.t (.sl 1 (r2.1.fA.map (eInt .u8))), .own 589825, .t (.int .i64 r2.1.fR.fGen), .t (.int .i64 r2.1.fR.fSlot), .t (.int .i64 r2.1.fR.fLen), .own 589829] (r2.1.fB.map (eInt .u8)) kr kr kr) (Le.trans (Le.frzO 5 5 589829 48 6 [.t (.sl 1 (r2.1.fA.map (eInt .u8))), .t (.sl 1 (r2.1.fB.map (eInt .u8))), .t (.int .i64 r2.1.fR.fGen), .t (.int .i64 r2.1.fR.fSlot), .t (.int .i64 r2.1.fR.fLen), .own 589829] (r2.1.fP.map Put.enc) kr kr kr) (Le.of (s := ⟨[(2, .obj 2 0), (3, .t (.int .i64 0)), (4, .obj 7 0), (5, .obj 5 0)], [(2, [.nil, .nil, .t (.int .i64 0), .t (.int .i64 0), .t (.int .i64 0), .nil]), (5, ((Disk.enc r2.1).map .t)), (7, ((l1Cur.enc r2.2).map .t))], []⟩) (mo := []) (mr := []) kr kr kr kr)))) ?_
  refine Wp.regionA (pOf [7]) (rhoOf [(2, .obj 2), (4, .obj 7), (5, .obj 5), (10, .frz), (11, .obj 7), (12, .own 12), (13, .frz)]) kr kr ?_
  refine Runs.batch 3 kr ?_
  obtain ⟨r3, e_r3, h⟩ := bind_some h
  refine Runs.callK false 13 78 [] [.obj 7 0, .own 786432] _ _ _ rfl rfl kr kr kr kr kr (spec_l1Int_ok u r2.2 ([0, 1, 2, 3, 5, 31, -1]) r3 e_r3) kr ?_
  refine Runs.alln ?_
  refine Wp.fg ⟨[(2, .obj 2 0), (3, .t (.int .i64 r3.1))], [(2, ((Disk.enc r2.1).map .t))], []⟩ ?_
  refine Wp.ret ?_
  obtain rfl := Option.some.inj h
  exact RetK [.agg ((Disk.enc r2.1).map .t), .t (.int .i64 r3.1)] _ [] kr kr (.refl _) .nil
theorem spec_DrawOnePut_ok (u : Nat) (p0 : List Int) (r : Disk × Put) (h : spec_DrawOnePut u p0 = some r) : CallOK Try.prog 20 [.one (.t (.sl 1 (p0.map (eInt .u8))))] (.tup [.agg [.t (.sl 1 (r.1.fA.map (eInt .u8))), .t (.sl 1 (r.1.fB.map (eInt .u8))), .t (.int .i64 r.1.fR.fGen), .t (.int .i64 r.1.fR.fSlot), .t (.int .i64 r.1.fR.fLen), .t (.sl 6 (r.1.fP.map Put.enc))], .agg [.t (.int .i64 r.2.fWhat), .t (.int .i64 r.2.fAt), .t (.sl 1 (r.2.fB.map (eInt .u8))), .t (.int .i64 r.2.fR.fGen), .t (.int .i64 r.2.fR.fSlot), .t (.int .i64 r.2.fR.fLen)]]) [] := by
  unfold spec_DrawOnePut at h
  refine CallOK.of_bodyK (fn := Try.f20) (m := false) [.t (.sl 1 (p0.map (eInt .u8)))] kr rfl kr kr kr kr kr ?_
  refine Wp.srg [] [] ?_
  refine Runs.alln ?_
  refine Wp.fg ⟨[(0, .t (.sl 1 (p0.map (eInt .u8)))), (2, .obj 2 0), (3, .obj 3 0)], [(2, [.nil, .nil, .t (.int .i64 0), .t (.int .i64 0), .t (.int .i64 0), .nil]), (3, [.t (.int .i64 0), .t (.int .i64 0), .nil, .t (.int .i64 0), .t (.int .i64 0), .t (.int .i64 0)])], []⟩ ?_
  refine Wp.srg [] [] ?_
  refine Runs.batch 1 kr ?_
  obtain ⟨r1, e_r1, h⟩ := bind_some h
  refine Runs.callK false 8 75 [] [.t (.sl 1 (p0.map (eInt .u8)))] _ _ _ rfl rfl kr kr kr kr kr (spec_l1New_ok u p0 r1 e_r1) kr ?_
  refine Runs.alln ?_
  refine Wp.fg ⟨[(2, .obj 2 0), (3, .obj 3 0), (4, .obj 8 0)], [(2, [.nil, .nil, .t (.int .i64 0), .t (.int .i64 0), .t (.int .i64 0), .nil]), (3, [.t (.int .i64 0), .t (.int .i64 0), .nil, .t (.int .i64 0), .t (.int .i64 0), .t (.int .i64 0)]), (8, ((l1Cur.enc r1).map .t))], []⟩ ?_
  refine Wp.srg [] [] ?_
  refine Runs.batch 1 kr ?_
  obtain ⟨r2, e_r2, h⟩ := bind_some h
  refine Runs.callK false 10 77 [] [.obj 8 0] _ _ _ rfl rfl kr kr kr kr kr (spec_l9Any_ok u r1 r2 e_r2) kr ?_
  refine Runs.alln ?_
  refine Wp.fg ⟨[(2, .obj 2 0), (3, .obj 3 0), (4, .obj 8 0), (5, .obj 5 0)], [(2, [.nil, .nil, .t (.int .i64 0), .t (.int .i64 0), .t (.int .i64 0), .nil]), (3, [.t (.int .i64 0), .t (.int .i64 0), .nil, .t (.int .i64 0), .t (.int .i64 0), .t (.int .i64 0)]), (5, [.own 655360, .own 655361, .t (.int .i64 r2.1.fR.fGen), .t (.int .i64 r2.1.fR.fSlot), .t (.int .i64 r2.1.fR.fLen), .own 655365]), (8, ((l1Cur.enc r2.2).map .t))], [(655360, .live 5 1 (r2.1.fA.map (eInt .u8))), (655361, .live 5 1 (r2.1.fB.map (eInt .u8))), (655365, .live 48 6 (r2.1.fP.map Put.enc))]⟩ ?_
  refine Wp.srg [] [] ?_
  refine Runs.batch 1 kr ?_
  obtain ⟨r3, e_r3, h⟩ := bind_some h
  refine Runs.callK false 12 79 [] [.obj 8 0] _ _ _ rfl rfl kr kr kr kr kr (spec_l9OnePut_ok u r2.2 r3 e_r3) kr ?_
  refine Runs.alln ?_
  refine Wp.fg ⟨[(2, .obj 2 0), (3, .obj 3 0), (4, .obj 8 0), (5, .obj 5 0), (6, .obj 6 0)], [(2, [.nil, .nil, .t (.int .i64 0), .t (.int .i64 0), .t (.int .i64 0), .nil]), (3, [.t (.int .i64 0), .t (.int .i64 0), .nil, .t (.int .i64 0), .t (.int .i64 0), .t (.int .i64 0)]), (5, [.own 655360, .own 655361, .t (.int .i64 r2.1.fR.fGen), .t (.int .i64 r2.1.fR.fSlot), .t (.int .i64 r2.1.fR.fLen), .own 655365]), (6, [.t (.int .i64 r3.1.fWhat), .t (.int .i64 r3.1.fAt), .own 786434, .t (.int .i64 r3.1.fR.fGen), .t (.int .i64 r3.1.fR.fSlot), .t (.int .i64 r3.1.fR.fLen)]), (8, ((l1Cur.enc r3.2).map .t))], [(655360, .live 5 1 (r2.1.fA.map (eInt .u8))), (655361, .live 5 1 (r2.1.fB.map (eInt .u8))), (655365, .live 48 6 (r2.1.fP.map Put.enc)), (786434, .live 5 1 (r3.1.fB.map (eInt .u8)))]⟩ ?_
  refine Wp.seqJ (α := (Disk × l1Cur) × Int × (Put × l1Cur)) (fun a => ⟨[(2, .obj 2 0), (3, .obj 3 0), (5, .obj 5 0), (6, .obj 6 0)], [(2, [.nil, .nil, .t (.int .i64 0), .t (.int .i64 0), .t (.int .i64 0), .nil]), (3, [.t (.int .i64 0), .t (.int .i64 0), .nil, .t (.int .i64 0), .t (.int .i64 0), .t (.int .i64 0)]), (5, [.own 328192, .own 328193, .t (.int .i64 a.1.1.fR.fGen), .t (.int .i64 a.1.1.fR.fSlot), .t (.int .i64 a.1.1.fR.fLen), .own 328197]), (6, [.t (.int .i64 a.2.1), .t (.int .i64 a.2.2.1.fAt), .own 393730, .t (.int .i64 a.2.2.1.fR.fGen), .t (.int .i64 a.2.2.1.fR.fSlot), .t (.int .i64 a.2.2.1.fR.fLen)])], [(328192, .live 5 1 (a.1.1.fA.map (eInt .u8))), (328193, .live 5 1 (a.1.1.fB.map (eInt .u8))), (328197, .live 48 6 (a.1.1.fP.map Put.enc)), (393730, .live 5 1 (a.2.2.1.fB.map (eInt .u8)))]⟩) (fun a => spec_DrawOnePut_j1 u a.1 a.2.1 a.2.2 = some r) ?_ ?_
  · rintro ⟨r2, x6, r3⟩ h
    change spec_DrawOnePut_j1 u r2 x6 r3 = some r at h
    unfold spec_DrawOnePut_j1 at h
    refine Wp.seq ?_
    refine Wp.le (Le.trans (Le.frzO 5 0 328192 5 1 [.own 328192, .own 328193, .t (.int .i64 r2.1.fR.fGen), .t (.int .i64 r2.1.fR.fSlot), .t (.int .i64 r2.1.fR.fLen), .own 328197] (r2.1.fA.map (eInt .u8)) kr kr kr) (Le.trans (Le.frzO 5 1 328193 5 1 [.t (.sl 1 (r2.1.fA.map (eInt .u8))), .own 328193, .t (.int .i64 r2.1.fR.fGen), .t (.int .i64 r2.1.fR.fSlot), .t (.int .i64 r2.1.fR.fLen), .own 328197] (r2.1.fB.map (eInt .u8)) kr kr kr) (Le.trans (Le.frzO 5 5 328197 48 6 [.t (.sl 1 (r2.1.fA.map (eInt .u8))), .t (.sl 1 (r2.1.fB.map (eInt .u8))), .t (.int .i64 r2.1.fR.fGen), .t (.int .i64 r2.1.fR.fSlot), .t (.int .i64 r2.1.fR.fLen), .own 328197] (r2.1.fP.map Put.enc) kr kr kr) (Le.trans (Le.frzO 6 2 393730 5 1 [.t (.int .i64 x6), .t (.int .i64 r3.1.fAt), .own 393730, .t (.int .i64 r3.1.fR.fGen), .t (.int .i64 r3.1.fR.fSlot), .t (.int .i64 r3.1.fR.fLen)] (r3.1.fB.map (eInt .u8)) kr kr kr) (Le.of (s := ⟨[(2, .obj 2 0), (3, .obj 3 0), (5, .obj 5 0), (6, .obj 6 0)], [(2, [.nil, .nil, .t (.int .i64 0), .t (.int .i64 0), .t (.int .i64 0), .nil]), (3, [.t (.int .i64 0), .t (.int .i64 0), .nil, .t (.int .i64 0), .t (.int .i64 0), .t (.int .i64 0)]), (5, ((Disk.enc r2.1).map .t)), (6, [.t (.int .i64 x6), .t (.int .i64 r3.1.fAt), .t (.sl 1 (r3.1.fB.map (eInt .u8))), .t (.int .i64 r3.1.fR.fGen), .t (.int .i64 r3.1.fR.fSlot), .t (.int .i64 r3.1.fR.fLen)])], []⟩) (mo := []) (mr := []) kr kr kr kr))))) ?_
    refine Wp.regionA (pOf []) (rhoOf [(2, .obj 2), (3, .obj 3), (5, .obj 5), (6, .obj 6), (19, .frz), (20, .frz)]) kr kr ?_
    refine Runs.alln ?_
    refine Wp.fg ⟨[(2, .obj 2 0), (3, .obj 3 0)], [(2, ((Disk.enc r2.1).map .t)), (3, [.t (.int .i64 x6), .t (.int .i64 r3.1.fAt), .t (.sl 1 (r3.1.fB.map (eInt .u8))), .t (.int .i64 r3.1.fR.fGen), .t (.int .i64 r3.1.fR.fSlot), .t (.int .i64 r3.1.fR.fLen)])], []⟩ ?_
    refine Wp.ret ?_
    obtain rfl := Option.some.inj h
    exact RetK [.agg ((Disk.enc r2.1).map .t), .agg [.t (.int .i64 x6), .t (.int .i64 r3.1.fAt), .t (.sl 1 (r3.1.fB.map (eInt .u8))), .t (.int .i64 r3.1.fR.fGen), .t (.int .i64 r3.1.fR.fSlot), .t (.int .i64 r3.1.fR.fLen)]] _ [] kr kr (.refl _) .nil
  · refine Wp.srg [] [] ?_
    refine Runs.batch 1 kr ?_
    obtain ⟨r4, e_r4, h⟩ := bind_some h
    refine Runs.callK false 14 80 [] [.obj 8 0, .t (.int .i64 8)] _ _ _ rfl rfl kr kr kr kr kr (spec_l1Once_ok u r3.2 8 r4 e_r4) kr ?_
    refine Runs.done ?_
    refine thenN ?_
    refine Wp.fg ⟨[(2, .obj 2 0), (3, .obj 3 0), (4, .obj 8 0), (5, .obj 5 0), (6, .obj 6 0), (14, .t (.bool r4.1))], [(2, [.nil, .nil, .t (.int .i64 0), .t (.int .i64 0), .t (.int .i64 0), .nil]), (3, [.t (.int .i64 0), .t (.int .i64 0), .nil, .t (.int .i64 0), .t (.int .i64 0), .t (.int .i64 0)]), (5, [.own 655360, .own 655361, .t (.int .i64 r2.1.fR.fGen), .t (.int .i64 r2.1.fR.fSlot), .t (.int .i64 r2.1.fR.fLen), .own 655365]), (6, [.t (.int .i64 r3.1.fWhat), .t (.int .i64 r3.1.fAt), .own 786434, .t (.int .i64 r3.1.fR.fGen), .t (.int .i64 r3.1.fR.fSlot), .t (.int .i64 r3.1.fR.fLen)]), (8, ((l1Cur.enc r4.2).map .t))], [(655360, .live 5 1 (r2.1.fA.map (eInt .u8))), (655361, .live 5 1 (r2.1.fB.map (eInt .u8))), (655365, .live 48 6 (r2.1.fP.map Put.enc)), (786434, .live 5 1 (r3.1.fB.map (eInt .u8)))]⟩ ?_
    refine Wp.cond2 (b := r4.1) kr (fun hc => ?_) (fun hc => ?_)
    · have h := cond_t h hc
      refine Wp.rg [] [] ?_
      refine Runs.batch 1 kr ?_
      obtain ⟨r5, e_r5, h⟩ := bind_some h
      refine Runs.callK false 16 81 [] [.obj 8 0, .t (.int .i64 5)] _ _ _ rfl rfl kr kr kr kr kr (spec_l1Below_ok u r4.2 5 r5 e_r5) kr ?_
      refine Runs.alln ?_
      exact ⟨(r2, bSub .i64 r5.1 1, r3), h, Le.of (mo := []) (mr := [(328192, 655360), (328193, 655361), (328197, 655365), (393730, 786434)]) kr kr kr kr⟩
    have h := cond_f h hc
    refine Wp.skip (thenN ?_)
    exact ⟨(r2, r3.1.fWhat, r3), h, Le.of (mo := []) (mr := [(328192, 655360), (328193, 655361), (328197, 655365), (393730, 786434)]) kr kr kr kr⟩
theorem spec_DrawSure_ok (u : Nat) (p0 : List Int) (r : Disk) (h : spec_DrawSure u p0 = some r) : CallOK Try.prog 21 [.one (.t (.sl 1 (p0.map (eInt .u8))))] (.agg [.ow 5 1 (r.fA.map (eInt .u8)), .ow 5 1 (r.fB.map (eInt .u8)), .t (.int .i64 r.fR.fGen), .t (.int .i64 r.fR.fSlot), .t (.int .i64 r.fR.fLen), .ow 48 6 (r.fP.map Put.enc)]) [] := by
  unfold spec_DrawSure at h
  refine CallOK.of_bodyK (fn := Try.f21) (m := true) [.t (.sl 1 (p0.map (eInt .u8)))] kr rfl kr kr kr kr kr ?_
  refine Wp.srg [] [] ?_
  refine Runs.alln ?_
  refine Wp.fg ⟨[(0, .t (.sl 1 (p0.map (eInt .u8)))), (2, .obj 2 0)], [(2, [.nil, .nil, .t (.int .i64 0), .t (.int .i64 0), .t (.int .i64 0), .nil])], []⟩ ?_
  refine Wp.srg [] [] ?_
  refine Runs.batch 1 kr ?_
  obtain ⟨r1, e_r1, h⟩ := bind_some h
  refine Runs.callK false 5 75 [] [.t (.sl 1 (p0.map (eInt .u8)))] _ _ _ rfl rfl kr kr kr kr kr (spec_l1New_ok u p0 r1 e_r1) kr ?_
  refine Runs.alln ?_
  refine Wp.fg ⟨[(2, .obj 2 0), (3, .obj 5 0)], [(2, [.nil, .nil, .t (.int .i64 0), .t (.int .i64 0), .t (.int .i64 0), .nil]), (5, ((l1Cur.enc r1).map .t))], []⟩ ?_
  refine Wp.srg [] [] ?_
  refine Runs.batch 1 kr ?_
  obtain ⟨r2, e_r2, h⟩ := bind_some h
  refine Runs.callK false 7 77 [] [.obj 5 0] _ _ _ rfl rfl kr kr kr kr kr (spec_l9Any_ok u r1 r2 e_r2) kr ?_
  refine Runs.alln ?_
  refine Wp.fg ⟨[(2, .obj 2 0)], [(2, [.own 458752, .own 458753, .t (.int .i64 r2.1.fR.fGen), .t (.int .i64 r2.1.fR.fSlot), .t (.int .i64 r2.1.fR.fLen), .own 458757])], [(458752, .live 5 1 (r2.1.fA.map (eInt .u8))), (458753, .live 5 1 (r2.1.fB.map (eInt .u8))), (458757, .live 48 6 (r2.1.fP.map Put.enc))]⟩ ?_
  refine Wp.ret ?_
  obtain rfl := Option.some.inj h
  exact RetK [.agg [.own 458752, .own 458753, .t (.int .i64 r2.1.fR.fGen), .t (.int .i64 r2.1.fR.fSlot), .t (.int .i64 r2.1.fR.fLen), .own 458757]] _ [] kr kr (.refl _) .nil
theorem spec_DrawPutBytes_ok (u : Nat) (p0 : List Int) (r : Disk × Int × Int × (List Int)) (h : spec_DrawPutBytes u p0 = some r) : CallOK Try.prog 22 [.one (.t (.sl 1 (p0.map (eInt .u8))))] (.tup [.agg [.t (.sl 1 (r.1.fA.map (eInt .u8))), .t (.sl 1 (r.1.fB.map (eInt .u8))), .t (.int .i64 r.1.fR.fGen), .t (.int .i64 r.1.fR.fSlot), .t (.int .i64 r.1.fR.fLen), .t (.sl 6 (r.1.fP.map Put.enc))], .one (.t (.int .i64 r.2.1)), .one (.t (.int .i64 r.2.2.1)), .one (.ow 5 1 (r.2.2.2.map (eInt .u8)))]) [] := by
  unfold spec_DrawPutBytes at h
  refine CallOK.of_bodyK (fn := Try.f22) (m := true) [.t (.sl 1 (p0.map (eInt .u8)))] kr rfl kr kr kr kr kr ?_
  refine Wp.srg [] [] ?_
  refine Runs.alln ?_
  refine Wp.fg ⟨[(0, .t (.sl 1 (p0.map (eInt .u8)))), (2, .obj 2 0), (3, .t (.int .i64 0)), (4, .t (.int .i64 0)), (5, .nil)], [(2, [.nil, .nil, .t (.int .i64 0), .t (.int .i64 0), .t (.int .i64 0), .nil])], []⟩ ?_
  refine Wp.srg [] [] ?_
  refine Runs.batch 1 kr ?_
  obtain ⟨r1, e_r1, h⟩ := bind_some h
  refine Runs.callK false 11 75 [] [.t (.sl 1 (p0.map (eInt .u8)))] _ _ _ rfl rfl kr kr kr kr kr (spec_l1New_ok u p0 r1 e_r1) kr ?_
  refine Runs.alln ?_
  refine Wp.fg ⟨[(2, .obj 2 0), (3, .t (.int .i64 0)), (4, .t (.int .i64 0)), (5, .nil), (6, .obj 11 0)], [(2, [.nil, .nil, .t (.int .i64 0), .t (.int .i64 0), .t (.int .i64 0), .nil]), (11, ((l1Cur.enc r1).map .t))], []⟩ ?_
  refine Wp.srg [] [] ?_
  refine Runs.batch 1 kr ?_
  obtain ⟨r2, e_r2, h⟩ := bind_some h
  refine Runs.callK false 13 77 [] [.obj 11 0] _ _ _ rfl rfl kr kr kr kr kr (spec_l9Any_ok u r1 r2 e_r2) kr ?_
  refine Runs.alln ?_
  refine Wp.fg ⟨[(2, .obj 2 0), (3, .t (.int .i64 0)), (4, .t (.int .i64 0)), (5, .nil), (6, .obj 11 0), (7, .obj 7 0)], [(2, [.nil, .nil, .t (.int .i64 0), .t (.int .i64 0), .t (.int .i64 0), .nil]), (7, [.own 851968, .own 851969, .t (.int .i64 r2.1.fR.fGen), .t (.int .i64 r2.1.fR.fSlot), .t (.int .i64 r2.1.fR.fLen), .own 851973]), (11, ((l1Cur.enc r2.2).map .t))], [(851968, .live 5 1 (r2.1.fA.map (eInt .u8))), (851969, .live 5 1 (r2.1.fB.map (eInt .u8))), (851973, .live 48 6 (r2.1.fP.map Put.enc))]⟩ ?_
  refine Wp.srg [] [] ?_
  refine Runs.batch 2 kr ?_
  obtain ⟨r3, e_r3, h⟩ := bind_some h
  refine Runs.callK false 16 78 [] [.obj 11 0, .own 983040] _ _ _ rfl rfl kr kr kr kr kr (spec_l1Int_ok u r2.2 ([0, 1, 2, -1]) r3 e_r3) kr ?_
  refine Runs.alln ?_
  refine Wp.fg ⟨[(2, .obj 2 0), (3, .t (.int .i64 0)), (4, .t (.int .i64 0)), (5, .nil), (6, .obj 11 0), (7, .obj 7 0), (8, .t (.int .i64 r3.1))], [(2, [.nil, .nil, .t (.int .i64 0), .t (.int .i64 0), .t (.int .i64 0), .nil]), (7, [.own 851968, .own 851969, .t (.int .i64 r2.1.fR.fGen), .t (.int .i64 r2.1.fR.fSlot), .t (.int .i64 r2.1.fR.fLen), .own 851973]), (11, ((l1Cur.enc r3.2).map .t))], [(851968, .live 5 1 (r2.1.fA.map (eInt .u8))), (851969, .live 5 1 (r2.1.fB.map (eInt .u8))), (851973, .live 48 6 (r2.1.fP.map Put.enc))]⟩ ?_
  refine Wp.srg [] [] ?_
  refine Runs.batch 2 kr ?_
  obtain ⟨r4, e_r4, h⟩ := bind_some h
  refine Runs.callK false 19 78 [] [.obj 11 0, .own 1179648] _ _ _ rfl rfl kr kr kr kr kr (spec_l1Int_ok u r3.2 ([0, 1, 5, 239, 240, -1]) r4 e_r4) kr ?_
  refine Runs.alln ?_
  refine Wp.fg ⟨[(2, .obj 2 0), (3, .t (.int .i64 0)), (4, .t (.int .i64 0)), (5, .nil), (6, .obj 11 0), (7, .obj 7 0), (8, .t (.int .i64 r3.1)), (9, .t (.int .i64 r4.1))], [(2, [.nil, .nil, .t (.int .i64 0), .t (.int .i64 0), .t (.int .i64 0), .nil]), (7, [.own 851968, .own 851969, .t (.int .i64 r2.1.fR.fGen), .t (.int .i64 r2.1.fR.fSlot), .t (.int .i64 r2.1.fR.fLen), .own 851973]), (11, ((l1Cur.enc r4.2).map .t))], [(851968, .live 5 1 (r2.1.fA.map (eInt .u8))), (851969, .live 5 1 (r2.1.fB.map (eInt .u8))), (851973, .live 48 6 (r2.1.fP.map Put.enc))]⟩ ?_
  refine Wp.seq ?_
  refine Wp.le (Le.trans (Le.frzO 7 0 851968 5 1 [.own 851968, .own 851969, .t (.int .i64 r2.1.fR.fGen), .t (.int .i64 r2.1.fR.fSlot), .t (.int .i64 r2.1.fR.fLen), .own 851973] (r2.1.fA.map (eInt .u8)) kr kr kr) (Le.trans (Le.frzO 7 1 851969 5 1 [.t (.sl 1 (r2.1.fA.map (eInt .u8))), .own 851969, .t (.int .i64 r2.1.fR.fGen), .t (.int .i64 r2.1.fR.fSlot), .t (.int .i64 r2.1.fR.fLen), .own 851973] (r2.1.fB.map (eInt .u8)) kr kr kr) (Le.trans (Le.frzO 7 5 851973 48 6 [.t (.sl 1 (r2.1.fA.map (eInt .u8))), .t (.sl 1 (r2.1.fB.map (eInt .u8))), .t (.int .i64 r2.1.fR.fGen), .t (.int .i64 r2.1.fR.fSlot), .t (.int .i64 r2.1.fR.fLen), .own 851973] (r2.1.fP.map Put.enc) kr kr kr) (Le.of (s := ⟨[(2, .obj 2 0), (3, .t (.int .i64 0)), (4, .t (.int .i64 0)), (5, .nil), (6, .obj 11 0), (7, .obj 7 0), (8, .t (.int .i64 r3.1)), (9, .t (.int .i64 r4.1))], [(2, [.nil, .nil, .t (.int .i64 0), .t (.int .i64 0), .t (.int .i64 0), .nil]), (7, ((Disk.enc r2.1).map .t)), (11, ((l1Cur.enc r4.2).map .t))], []⟩) (mo := []) (mr := []) kr kr kr kr)))) ?_
  refine Wp.regionA (pOf [11]) (rhoOf [(2, .obj 2), (6, .obj 11), (7, .obj 7), (8, .frz), (9, .frz), (20, .frz), (21, .frz), (22, .frz), (23, .obj 11), (24, .own 24)]) kr kr ?_
  refine Runs.batch 4 kr ?_
  obtain ⟨r5, e_r5, h⟩ := bind_some h
  refine Runs.callK false 24 82 [] [.obj 11 0, .t (.int .i64 4)] _ _ _ rfl rfl kr kr kr kr kr (spec_l3Bytes_ok u r4.2 4 r5 e_r5) kr ?_
  refine Runs.alln ?_
  refine Wp.fg ⟨[(2, .obj 2 0), (3, .t (.int .i64 r3.1)), (4, .t (.int .i64 r4.1)), (5, .own 1572864)], [(2, ((Disk.enc r2.1).map .t))], [(1572864, .live 5 1 (r5.1.map (eInt .u8)))]⟩ ?_
  refine Wp.ret ?_
  obtain rfl := Option.some.inj h
  exact RetK [.agg ((Disk.enc r2.1).map .t), .t (.int .i64 r3.1), .t (.int .i64 r4.1), .own 1572864] _ [] kr kr (.refl _) .nil
theorem impl_isSlot_ok (u : Nat) (p0 : Int) (r : Bool) (h : impl_isSlot u p0 = some r) : CallOK Try.prog 83 [.one (.t (.int .i64 p0))] (.one (.t (.bool r))) [] := by
  unfold impl_isSlot at h
  refine CallOK.of_bodyK (fn := Try.f83) (m := false) [.t (.int .i64 p0)] kr rfl kr kr kr kr kr ?_
  refine Wp.srg [] [] ?_
  refine Runs.alln ?_
  refine Wp.fg ⟨[(0, .t (.int .i64 p0)), (2, .t (.bool false))], [], []⟩ ?_
  refine Wp.srg [] [] ?_
  refine Runs.batch 3 kr ?_
  rcases tf (p0 == 0) with hc | hc
  · have h := cond_t h hc
    refine Runs.known 5 (v := true) kr hc ?_
    refine Runs.alln ?_
    refine Wp.fg ⟨[(2, .t (.bool true))], [], []⟩ ?_
    refine Wp.ret ?_
    obtain rfl := Option.some.inj h
    exact RetK [.t (.bool true)] _ [] kr kr (.refl _) .nil
  have h := cond_f h hc
  refine Runs.known 5 (v := false) kr hc ?_
  refine Runs.alln ?_
  refine Wp.fg ⟨[(2, .t (.bool (p0 == 1)))], [], []⟩ ?_
  refine Wp.ret ?_
  obtain rfl := Option.some.inj h
  exact RetK [.t (.bool (p0 == 1))] _ [] kr kr (.refl _) .nil
theorem impl_cloned_okd (u : Nat) (p0 : List Int) (r : (List Int)) (h : impl_cloned u p0 = some r) : DOK Try.prog 99 [.one (.t (.sl 1 (p0.map (eInt .u8))))] (.one (.ow 5 1 (r.map (eInt .u8)))) := by
  unfold impl_cloned at h
  refine DOK.of_bodyK (fn := Try.f99) (m := true) kr rfl kr kr kr ?_
  refine Wp.srg [] [] ?_
  refine Runs.alln ?_
  refine Wp.fg ⟨[(0, .ext false (.sl 1 (p0.map (eInt .u8)))), (2, .nil)], [], []⟩ ?_
  refine Wp.srg [] [] ?_
  refine Runs.batch 1 kr ?_
  refine Runs.lenX (e := 5) (eInt .u8) p0 false 1 rfl rfl rfl kr kr kr kr ?_
  obtain ⟨_, e_1, h⟩ := bind_some h
  obtain ⟨_, e_2, h⟩ := bind_some h
  refine Runs.mkS (eInt .u8) (0 : Int) 5 5 1 1 0 ((p0.length : Int)) rfl rfl kr kr kr kr kr kr (chk_some e_1) (of_decide_eq_true (chk_some e_2)) kr ?_
  refine Runs.batch 1 kr ?_
  obtain ⟨_, e_3, h⟩ := bind_some h
  refine Runs.appT (y := .ext false (.sl 1 (p0.map (eInt .u8)))) (eInt .u8) 7 1 5 1 1 327680 (List.replicate (Int.toNat 0) (0 : Int)) p0 rfl rfl rfl rfl kr kr kr kr kr (rows_extI _ _ _) (.inl rfl) kr (of_decide_eq_true (chk_some e_3)) kr kr ?_
  refine Runs.alln ?_
  refine Wp.fg ⟨[(2, .own 458752)], [], [(458752, .live 5 1 (((List.replicate (Int.toNat 0) (0 : Int)) ++ p0).map (eInt .u8)))]⟩ ?_
  refine Wp.ret ?_
  obtain rfl := Option.some.inj h
  exact RetK [.own 458752] _ [] kr kr (.refl _) .nil
theorem impl_copyPut_okd (u : Nat) (p0 : Put) (r : Put) (h : impl_copyPut u p0 = some r) : DOK Try.prog 138 [.agg [.t (.int .i64 p0.fWhat), .t (.int .i64 p0.fAt), .t (.sl 1 (p0.fB.map (eInt .u8))), .t (.int .i64 p0.fR.fGen), .t (.int .i64 p0.fR.fSlot), .t (.int .i64 p0.fR.fLen)]] (.agg [.t (.int .i64 r.fWhat), .t (.int .i64 r.fAt), .ow 5 1 (r.fB.map (eInt .u8)), .t (.int .i64 r.fR.fGen), .t (.int .i64 r.fR.fSlot), .t (.int .i64 r.fR.fLen)]) := by
  unfold impl_copyPut at h
  refine DOK.of_bodyK (fn := Try.f138) (m := true) kr rfl kr kr kr ?_
  refine Wp.srg [] [] ?_
  refine Runs.alln ?_
  refine Wp.fg ⟨[(1, .obj 1 0), (2, .obj 2 0)], [(1, [.t (.int .i64 p0.fWhat), .t (.int .i64 p0.fAt), .ext false (.sl 1 (p0.fB.map (eInt .u8))), .t (.int .i64 p0.fR.fGen), .t (.int .i64 p0.fR.fSlot), .t (.int .i64 p0.fR.fLen)]), (2, [.t (.int .i64 0), .t (.int .i64 0), .nil, .t (.int .i64 0), .t (.int .i64 0), .t (.int .i64 0)])], []⟩ ?_
  refine Wp.srg [] [] ?_
  refine Runs.batch 2 kr ?_
  obtain ⟨r1, e_r1, h⟩ := bind_some h
  refine Runs.callDK 5 99 [] [.ext false (.sl 1 (p0.fB.map (eInt .u8)))] [.one (.t (.sl 1 (p0.fB.map (eInt .u8))))] (.one (.ow 5 1 (r1.map (eInt .u8)))) rfl rfl kr kr kr kr kr (impl_cloned_okd u p0.fB r1 e_r1) kr ?_
  refine Runs.alln ?_
  refine Wp.fg ⟨[(1, .obj 1 0), (2, .obj 2 0)], [(1, [.t (.int .i64 p0.fWhat), .t (.int .i64 p0.fAt), .own 327680, .t (.int .i64 p0.fR.fGen), .t (.int .i64 p0.fR.fSlot), .t (.int .i64 p0.fR.fLen)]), (2, [.t (.int .i64 0), .t (.int .i64 0), .nil, .t (.int .i64 0), .t (.int .i64 0), .t (.int .i64 0)])], [(327680, .live 5 1 (r1.map (eInt .u8)))]⟩ ?_
  refine Wp.srg [] [] ?_
  refine Runs.alln ?_
  refine Wp.fg ⟨[(2, .obj 2 0)], [(2, [.t (.int .i64 p0.fWhat), .t (.int .i64 p0.fAt), .own 327680, .t (.int .i64 p0.fR.fGen), .t (.int .i64 p0.fR.fSlot), .t (.int .i64 p0.fR.fLen)])], [(327680, .live 5 1 (r1.map (eInt .u8)))]⟩ ?_
  refine Wp.ret ?_
  obtain rfl := Option.some.inj h
  exact RetK [.agg [.t (.int .i64 p0.fWhat), .t (.int .i64 p0.fAt), .own 327680, .t (.int .i64 p0.fR.fGen), .t (.int .i64 p0.fR.fSlot), .t (.int .i64 p0.fR.fLen)]] _ [] kr kr (.refl _) .nil
theorem impl_copyDisk_okd (u : Nat) (p0 : Disk) (r : Disk) (h : impl_copyDisk u p0 = some r) : DOK Try.prog 84 [.agg [.t (.sl 1 (p0.fA.map (eInt .u8))), .t (.sl 1 (p0.fB.map (eInt .u8))), .t (.int .i64 p0.fR.fGen), .t (.int .i64 p0.fR.fSlot), .t (.int .i64 p0.fR.fLen), .t (.sl 6 (p0.fP.map Put.enc))]] (.agg [.ow 5 1 (r.fA.map (eInt .u8)), .ow 5 1 (r.fB.map (eInt .u8)), .t (.int .i64 r.fR.fGen), .t (.int .i64 r.fR.fSlot), .t (.int .i64 r.fR.fLen), .ow 48 6 (r.fP.map Put.enc)]) := by
  unfold impl_copyDisk at h
  refine DOK.of_bodyK (fn := Try.f84) (m := true) kr rfl kr kr kr ?_
  refine Wp.srg [] [] ?_
  refine Runs.alln ?_
  refine Wp.fg ⟨[(1, .obj 1 0), (2, .obj 2 0)], [(1, [.ext false (.sl 1 (p0.fA.map (eInt .u8))), .ext false (.sl 1 (p0.fB.map (eInt .u8))), .t (.int .i64 p0.fR.fGen), .t (.int .i64 p0.fR.fSlot), .t (.int .i64 p0.fR.fLen), .ext false (.sl 6 (p0.fP.map Put.enc))]), (2, [.nil, .nil, .t (.int .i64 0), .t (.int .i64 0), .t (.int .i64 0), .nil])], []⟩ ?_
  refine Wp.seq ?_
  refine Wp.regionA (pOf []) (rhoOf [(1, .obj 1), (3, .obj 3), (6, .obj 1), (7, .frz), (8, .own 8), (9, .obj 1), (10, .frz), (11, .own 11), (12, .obj 1), (13, .frz)]) kr kr ?_
  refine Runs.batch 2 kr ?_
  obtain ⟨r1, e_r1, h⟩ := bind_some h
  refine Runs.callDK 8 99 [] [.ext false (.sl 1 (p0.fA.map (eInt .u8)))] [.one (.t (.sl 1 (p0.fA.map (eInt .u8))))] (.one (.ow 5 1 (r1.map (eInt .u8)))) rfl rfl kr kr kr kr kr (impl_cloned_okd u p0.fA r1 e_r1) kr ?_
  refine Runs.batch 2 kr ?_
  obtain ⟨r2, e_r2, h⟩ := bind_some h
  refine Runs.callDK 11 99 [] [.ext false (.sl 1 (p0.fB.map (eInt .u8)))] [.one (.t (.sl 1 (p0.fB.map (eInt .u8))))] (.one (.ow 5 1 (r2.map (eInt .u8)))) rfl rfl kr kr kr kr kr (impl_cloned_okd u p0.fB r2 e_r2) kr ?_
  refine Runs.alln ?_
  refine Wp.fg ⟨[(1, .obj 1 0), (2, .obj 2 0), (3, .obj 3 0)], [(1, [.ext false (.sl 1 (p0.fA.map (eInt .u8))), .ext false (.sl 1 (p0.fB.map (eInt .u8))), .t (.int .i64 p0.fR.fGen), .t (.int .i64 p0.fR.fSlot), .t (.int .i64 p0.fR.fLen), .ext false (.sl 6 (p0.fP.map Put.enc))]), (2, [.nil, .nil, .t (.int .i64 0), .t (.int .i64 0), .t (.int .i64 0), .nil]), (3, [.own 524288, .own 720896, .t (.int .i64 p0.fR.fGen), .t (.int .i64 p0.fR.fSlot), .t (.int .i64 p0.fR.fLen), .nil])], [(524288, .live 5 1 (r1.map (eInt .u8))), (720896, .live 5 1 (r2.map (eInt .u8)))]⟩ ?_
  refine Wp.seqJ (α := ((List Int)) × ((List Int)) × Disk × (List Put)) (fun a => ⟨[(2, .obj 2 0), (3, .obj 3 0)], [(2, [.nil, .nil, .t (.int .i64 0), .t (.int .i64 0), .t (.int .i64 0), .nil]), (3, [.own 197120, .own 197121, .t (.int .i64 a.2.2.1.fR.fGen), .t (.int .i64 a.2.2.1.fR.fSlot), .t (.int .i64 a.2.2.1.fR.fLen), .own 197125])], [(197120, .live 5 1 (a.1.map (eInt .u8))), (197121, .live 5 1 (a.2.1.map (eInt .u8))), (197125, .live 48 6 (a.2.2.2.map Put.enc))]⟩) (fun a => impl_copyDisk_j1 u a.1 a.2.1 a.2.2.1 a.2.2.2 = some r) ?_ ?_
  · rintro ⟨r1, r2, p0, x11⟩ h
    change impl_copyDisk_j1 u r1 r2 p0 x11 = some r at h
    unfold impl_copyDisk_j1 at h
    refine Wp.srg [] [] ?_
    refine Runs.alln ?_
    refine Wp.fg ⟨[(2, .obj 2 0)], [(2, [.own 197120, .own 197121, .t (.int .i64 p0.fR.fGen), .t (.int .i64 p0.fR.fSlot), .t (.int .i64 p0.fR.fLen), .own 197125])], [(197120, .live 5 1 (r1.map (eInt .u8))), (197121, .live 5 1 (r2.map (eInt .u8))), (197125, .live 48 6 (x11.map Put.enc))]⟩ ?_
    refine Wp.ret ?_
    obtain rfl := Option.some.inj h
    exact RetK [.agg [.own 197120, .own 197121, .t (.int .i64 p0.fR.fGen), .t (.int .i64 p0.fR.fSlot), .t (.int .i64 p0.fR.fLen), .own 197125]] _ [] kr kr (.refl _) .nil
  · refine Wp.srg [] [] ?_
    refine Runs.batch 2 kr ?_
    refine Runs.lenX (e := 48) Put.enc p0.fP false 6 rfl rfl rfl kr kr kr kr ?_
    refine Runs.alln ?_
    refine Wp.fg ⟨[(2, .obj 2 0), (3, .obj 3 0), (16, .ext false (.sl 6 (p0.fP.map Put.enc))), (17, .t (.int .i64 ((p0.fP.length : Int)))), (18, .t (.int .i64 0))], [(2, [.nil, .nil, .t (.int .i64 0), .t (.int .i64 0), .t (.int .i64 0), .nil]), (3, [.own 524288, .own 720896, .t (.int .i64 p0.fR.fGen), .t (.int .i64 p0.fR.fSlot), .t (.int .i64 p0.fR.fLen), .nil])], [(524288, .live 5 1 (r1.map (eInt .u8))), (720896, .live 5 1 (r2.map (eInt .u8)))]⟩ ?_
    refine Wp.block ?_
    refine Wp.loopF (α := Disk × Int × ((List Int)) × ((List Int)) × (List Put)) (fun a => ⟨[(2, .obj 2 0), (3, .obj 3 0), (16, .ext false (.sl 6 (a.1.fP.map Put.enc))), (17, .t (.int .i64 ((a.1.fP.length : Int)))), (18, .t (.int .i64 a.2.1))], [(2, [.nil, .nil, .t (.int .i64 0), .t (.int .i64 0), .t (.int .i64 0), .nil]), (3, [.own 197120, .own 197121, .t (.int .i64 a.1.fR.fGen), .t (.int .i64 a.1.fR.fSlot), .t (.int .i64 a.1.fR.fLen), .own 197125])], [(197120, .live 5 1 (a.2.2.1.map (eInt .u8))), (197121, .live 5 1 (a.2.2.2.1.map (eInt .u8))), (197125, .live 48 6 (a.2.2.2.2.map Put.enc))]⟩) (fun k_impl_copyDisk_l2 a => impl_copyDisk_l2 u k_impl_copyDisk_l2 a.1 a.2.1 a.2.2.1 a.2.2.2.1 a.2.2.2.2 = some r) ?_ ?_ u (p0, 0, r1, r2, []) h (Le.trans (Le.emptyO 3 5 197125 48 6 [.own 524288, .own 720896, .t (.int .i64 p0.fR.fGen), .t (.int .i64 p0.fR.fSlot), .t (.int .i64 p0.fR.fLen), .nil] kr kr kr) (Le.of (mo := []) (mr := [(197120, 524288), (197121, 720896)]) kr kr kr kr))
    · intro a h; unfold impl_copyDisk_l2 at h; cases h
    · rintro k_impl_copyDisk_l2 ⟨p0, x5, r1, r2, x6⟩ h
      change impl_copyDisk_l2 u (k_impl_copyDisk_l2 + 1) p0 x5 r1 r2 x6 = some r at h
      rw [impl_copyDisk_l2] at h
      refine Wp.srg [] [] ?_
      refine Runs.alln ?_
      refine Wp.fg ⟨[(2, .obj 2 0), (3, .obj 3 0), (16, .ext false (.sl 6 (p0.fP.map Put.enc))), (17, .t (.int .i64 ((p0.fP.length : Int)))), (18, .t (.int .i64 x5)), (19, .t (.bool (decide (x5 < ((p0.fP.length : Int))))))], [(2, [.nil, .nil, .t (.int .i64 0), .t (.int .i64 0), .t (.int .i64 0), .nil]), (3, [.own 197120, .own 197121, .t (.int .i64 p0.fR.fGen), .t (.int .i64 p0.fR.fSlot), .t (.int .i64 p0.fR.fLen), .own 197125])], [(197120, .live 5 1 (r1.map (eInt .u8))), (197121, .live 5 1 (r2.map (eInt .u8))), (197125, .live 48 6 (x6.map Put.enc))]⟩ ?_
      refine Wp.seq ?_
      refine Wp.cond2 (b := decide (x5 < ((p0.fP.length : Int)))) kr (fun hc => ?_) (fun hc => ?_)
      · have h := cond_t h hc
        refine Wp.skip (thenN ?_)
        refine Wp.seq ?_
        refine Wp.block ?_
        refine Wp.srg [] [] ?_
        obtain ⟨y9, e_y9, h⟩ := bind_some h
        refine Runs.idxX (e := 48) (kk := .i64) (sz := 6) Put.enc p0.fP x5 false rfl kr kr kr kr kr kr e_y9 ?_
        refine Runs.alln ?_
        refine Wp.fg ⟨[(2, .obj 2 0), (3, .obj 3 0), (5, .obj 5 0), (16, .ext false (.sl 6 (p0.fP.map Put.enc))), (17, .t (.int .i64 ((p0.fP.length : Int)))), (18, .t (.int .i64 x5))], [(2, [.nil, .nil, .t (.int .i64 0), .t (.int .i64 0), .t (.int .i64 0), .nil]), (3, [.own 197120, .own 197121, .t (.int .i64 p0.fR.fGen), .t (.int .i64 p0.fR.fSlot), .t (.int .i64 p0.fR.fLen), .own 197125]), (5, [.t (.int .i64 y9.fWhat), .t (.int .i64 y9.fAt), .ext false (.sl 1 (y9.fB.map (eInt .u8))), .t (.int .i64 y9.fR.fGen), .t (.int .i64 y9.fR.fSlot), .t (.int .i64 y9.fR.fLen)])], [(197120, .live 5 1 (r1.map (eInt .u8))), (197121, .live 5 1 (r2.map (eInt .u8))), (197125, .live 48 6 (x6.map Put.enc))]⟩ ?_
        refine Wp.regionA (pOf []) (rhoOf [(3, .obj 3), (5, .obj 5), (22, .obj 3), (23, .own 3), (24, .frz), (25, .own 25), (26, .own 26), (27, .own 27), (28, .obj 3)]) kr kr ?_
        refine Runs.batch 3 kr ?_
        obtain ⟨r10, e_r10, h⟩ := bind_some h
        refine Runs.callDK 25 138 [] [.agg [.t (.int .i64 y9.fWhat), .t (.int .i64 y9.fAt), .ext false (.sl 1 (y9.fB.map (eInt .u8))), .t (.int .i64 y9.fR.fGen), .t (.int .i64 y9.fR.fSlot), .t (.int .i64 y9.fR.fLen)]] [.agg ((Put.enc y9).map .t)] (.agg [.t (.int .i64 r10.fWhat), .t (.int .i64 r10.fAt), .ow 5 1 (r10.fB.map (eInt .u8)), .t (.int .i64 r10.fR.fGen), .t (.int .i64 r10.fR.fSlot), .t (.int .i64 r10.fR.fLen)]) rfl rfl kr kr kr kr kr (impl_copyPut_okd u y9 r10 e_r10) kr ?_
        refine Runs.batch 1 kr ?_
        obtain ⟨_, e_11, h⟩ := bind_some h
        refine Runs.appT (y := .own 1703936) Put.enc 27 6 48 6 64 197125 x6 ([r10]) rfl rfl rfl rfl kr kr kr kr kr kr (.inl rfl) kr (of_decide_eq_true (chk_some e_11)) kr kr ?_
        refine Runs.all kr ?_
        refine blkN ?_
        refine thenN ?_
        refine Wp.rg [] [] ?_
        refine Runs.alln ?_
        exact ⟨(p0, bAdd .i64 x5 1, r1, r2, x6 ++ ([r10])), h, Le.of (mo := []) (mr := [(197125, 1769472)]) kr kr kr kr⟩
      have h := cond_f h hc
      refine Wp.exit ?_
      refine thenE ?_
      refine thenE ?_
      refine blkE ?_
      refine thenN ?_
      exact ⟨(r1, r2, p0, x6), h, Le.of (mo := []) (mr := []) kr kr kr kr⟩
theorem impl_within_ok (u : Nat) (p0 : Int) (p1 : Int) (p2 : Int) (r : Bool) (h : impl_within u p0 p1 p2 = some r) : CallOK Try.prog 106 [.one (.t (.int .i64 p0)), .one (.t (.int .i64 p1)), .one (.t (.int .i64 p2))] (.one (.t (.bool r))) [] := by
  unfold impl_within at h
  refine CallOK.of_bodyK (fn := Try.f106) (m := false) [.t (.int .i64 p0), .t (.int .i64 p1), .t (.int .i64 p2)] kr rfl kr kr kr kr kr ?_
  refine Wp.srg [] [] ?_
  refine Runs.alln ?_
  refine Wp.fg ⟨[(0, .t (.int .i64 p0)), (1, .t (.int .i64 p1)), (2, .t (.int .i64 p2)), (6, .t (.bool false))], [], []⟩ ?_
  refine Wp.srg [] [] ?_
  refine Runs.batch 4 kr ?_
  rcases tf (decide (p0 ≥ p1)) with hc | hc
  · have h := cond_t h hc
    refine Runs.known 10 (v := true) kr hc ?_
    refine Runs.alln ?_
    refine Wp.fg ⟨[(6, .t (.bool (decide (p0 ≤ p2))))], [], []⟩ ?_
    refine Wp.ret ?_
    obtain rfl := Option.some.inj h
    exact RetK [.t (.bool (decide (p0 ≤ p2)))] _ [] kr kr (.refl _) .nil
  have h := cond_f h hc
  refine Runs.known 10 (v := false) kr hc ?_
  refine Runs.alln ?_
  refine Wp.fg ⟨[(6, .t (.bool false))], [], []⟩ ?_
  refine Wp.ret ?_
  obtain rfl := Option.some.inj h
  exact RetK [.t (.bool false)] _ [] kr kr (.refl _) .nil
theorem impl_isGen_ok (u : Nat) (p0 : Int) (r : Bool) (h : impl_isGen u p0 = some r) : CallOK Try.prog 98 [.one (.t (.int .i64 p0))] (.one (.t (.bool r))) [] := by
  unfold impl_isGen at h
  refine CallOK.of_bodyK (fn := Try.f98) (m := false) [.t (.int .i64 p0)] kr rfl kr kr kr kr kr ?_
  refine Wp.srg [] [] ?_
  refine Runs.alln ?_
  refine Wp.fg ⟨[(0, .t (.int .i64 p0)), (2, .t (.bool false))], [], []⟩ ?_
  refine Wp.srg [] [] ?_
  refine Runs.batch 1 kr ?_
  obtain ⟨r1, e_r1, h⟩ := bind_some h
  refine Runs.callK false 4 106 [] [.t (.int .i64 p0), .t (.int .i64 0), .t (.int .i64 1000000)] _ _ _ rfl rfl kr kr kr kr kr (impl_within_ok u p0 0 1000000 r1 e_r1) kr ?_
  refine Runs.alln ?_
  refine Wp.fg ⟨[(2, .t (.bool r1))], [], []⟩ ?_
  refine Wp.ret ?_
  obtain rfl := Option.some.inj h
  exact RetK [.t (.bool r1)] _ [] kr kr (.refl _) .nil
theorem impl_isRecord_ok (u : Nat) (p0 : Record) (r : Bool) (h : impl_isRecord u p0 = some r) : CallOK Try.prog 100 [.agg [.t (.int .i64 p0.fGen), .t (.int .i64 p0.fSlot), .t (.int .i64 p0.fLen)]] (.one (.t (.bool r))) [] := by
  unfold impl_isRecord at h
  refine CallOK.of_bodyK (fn := Try.f100) (m := false) [.agg ((Record.enc p0).map .t)] kr rfl kr kr kr kr kr ?_
  refine Wp.srg [] [] ?_
  refine Runs.alln ?_
  refine Wp.fg ⟨[(1, .obj 1 0), (2, .t (.bool false))], [(1, ((Record.enc p0).map .t))], []⟩ ?_
  refine Wp.srg [] [] ?_
  refine Runs.batch 2 kr ?_
  obtain ⟨r1, e_r1, h⟩ := bind_some h
  refine Runs.callK false 5 98 [] [.t (.int .i64 p0.fGen)] _ _ _ rfl rfl kr kr kr kr kr (impl_isGen_ok u p0.fGen r1 e_r1) kr ?_
  refine Runs.batch 1 kr ?_
  rcases tf (r1) with hc | hc
  · have h := cond_t h hc
    refine Runs.known 6 (v := true) kr hc ?_
    refine Runs.batch 2 kr ?_
    obtain ⟨r2, e_r2, h⟩ := bind_some h
    refine Runs.callK false 9 83 [] [.t (.int .i64 p0.fSlot)] _ _ _ rfl rfl kr kr kr kr kr (impl_isSlot_ok u p0.fSlot r2 e_r2) kr ?_
    refine Runs.batch 2 kr ?_
    rcases tf (r2) with hc | hc
    · have h := cond_t h hc
      refine Runs.known 11 (v := true) kr hc ?_
      refine Runs.batch 2 kr ?_
      obtain ⟨r3, e_r3, h⟩ := bind_some h
      refine Runs.callK false 14 106 [] [.t (.int .i64 p0.fLen), .t (.int .i64 0), .t (.int .i64 240)] _ _ _ rfl rfl kr kr kr kr kr (impl_within_ok u p0.fLen 0 240 r3 e_r3) kr ?_
      refine Runs.alln ?_
      refine Wp.fg ⟨[(2, .t (.bool r3))], [], []⟩ ?_
      refine Wp.ret ?_
      obtain rfl := Option.some.inj h
      exact RetK [.t (.bool r3)] _ [] kr kr (.refl _) .nil
    have h := cond_f h hc
    refine Runs.known 11 (v := false) kr hc ?_
    refine Runs.alln ?_
    refine Wp.fg ⟨[(2, .t (.bool false))], [], []⟩ ?_
    refine Wp.ret ?_
    obtain rfl := Option.some.inj h
    exact RetK [.t (.bool false)] _ [] kr kr (.refl _) .nil
  have h := cond_f h hc
  refine Runs.known 6 (v := false) kr hc ?_
  refine Runs.alln ?_
  refine Wp.fg ⟨[(2, .t (.bool false))], [], []⟩ ?_
  refine Wp.ret ?_
  obtain rfl := Option.some.inj h
  exact RetK [.t (.bool false)] _ [] kr kr (.refl _) .nil
theorem impl_Disk__slot__frz0_ok (u : Nat) (p0 : Disk) (p1 : Int) (r : (List Int)) (h : impl_Disk__slot__frz0 u p0 p1 = some r) : CallOK Try.prog 101 [.fptr [.sl 1 (p0.fA.map (eInt .u8)), .sl 1 (p0.fB.map (eInt .u8)), .int .i64 p0.fR.fGen, .int .i64 p0.fR.fSlot, .int .i64 p0.fR.fLen, .sl 6 (p0.fP.map Put.enc)], .one (.t (.int .i64 p1))] (.fptr [.sl 1 (r.map (eInt .u8))]) [] := by
  unfold impl_Disk__slot__frz0 at h
  refine CallOK.of_bodyK (fn := Try.f101) (m := false) [.fadr (Disk.enc p0), .t (.int .i64 p1)] kr rfl kr kr kr kr kr ?_
  refine Wp.srg [] [] ?_
  refine Runs.alln ?_
  refine Wp.fg ⟨[(0, .fadr (Disk.enc p0)), (1, .t (.int .i64 p1))], [], []⟩ ?_
  refine Wp.seq ?_
  refine Wp.srg [] [] ?_
  refine Runs.alln ?_
  refine Wp.fg ⟨[(0, .fadr (Disk.enc p0)), (6, .t (.bool (p1 == 0)))], [], []⟩ ?_
  refine Wp.cond2 (b := p1 == 0) kr (fun hc => ?_) (fun hc => ?_)
  · have h := cond_t h hc
    refine Wp.srg [] [] ?_
    refine Runs.alln ?_
    refine Wp.fg ⟨[(0, .fadr (Disk.enc p0)), (4, .fadr (Disk.enc p0))], [], []⟩ ?_
    refine Wp.ret ?_
    refine thenR ?_
    obtain rfl := Option.some.inj h
    exact RetK [.fadr (Disk.enc p0)] (.fptr ([.sl 1 (p0.fA.map (eInt .u8))] ++ [.sl 1 (p0.fB.map (eInt .u8)), .int .i64 p0.fR.fGen, .int .i64 p0.fR.fSlot, .int .i64 p0.fR.fLen, .sl 6 (p0.fP.map Put.enc)])) [] kr kr (.cut _ _) .nil
  have h := cond_f h hc
  refine Wp.skip (thenN ?_)
  refine Wp.srg [] [] ?_
  refine Runs.alln ?_
  refine Wp.fg ⟨[(4, .fadr [.sl 1 (p0.fB.map (eInt .u8)), .int .i64 p0.fR.fGen, .int .i64 p0.fR.fSlot, .int .i64 p0.fR.fLen, .sl 6 (p0.fP.map Put.enc)])], [], []⟩ ?_
  refine Wp.ret ?_
  obtain rfl := Option.some.inj h
  exact RetK [.fadr [.sl 1 (p0.fB.map (eInt .u8)), .int .i64 p0.fR.fGen, .int .i64 p0.fR.fSlot, .int .i64 p0.fR.fLen, .sl 6 (p0.fP.map Put.enc)]] (.fptr ([.sl 1 (p0.fB.map (eInt .u8))] ++ [.int .i64 p0.fR.fGen, .int .i64 p0.fR.fSlot, .int .i64 p0.fR.fLen, .sl 6 (p0.fP.map Put.enc)])) [] kr kr (.cut _ _) .nil
theorem impl_isPut_ok (u : Nat) (p0 : Put) (r : Bool) (h : impl_isPut u p0 = some r) : CallOK Try.prog 93 [.agg [.t (.int .i64 p0.fWhat), .t (.int .i64 p0.fAt), .t (.sl 1 (p0.fB.map (eInt .u8))), .t (.int .i64 p0.fR.fGen), .t (.int .i64 p0.fR.fSlot), .t (.int .i64 p0.fR.fLen)]] (.one (.t (.bool r))) [] := by
  unfold impl_isPut at h
  refine CallOK.of_bodyK (fn := Try.f93) (m := false) [.agg ((Put.enc p0).map .t)] kr rfl kr kr kr kr kr ?_
  refine Wp.srg [] [] ?_
  refine Runs.alln ?_
  refine Wp.fg ⟨[(1, .obj 1 0), (2, .t (.bool false))], [(1, ((Put.enc p0).map .t))], []⟩ ?_
  refine Wp.seq ?_
  refine Wp.srg [] [] ?_
  refine Runs.alln ?_
  refine Wp.fg ⟨[(1, .obj 1 0), (2, .t (.bool false)), (5, .t (.bool (p0.fWhat == 2)))], [(1, ((Put.enc p0).map .t))], []⟩ ?_
  refine Wp.cond2 (b := p0.fWhat == 2) kr (fun hc => ?_) (fun hc => ?_)
  · have h := cond_t h hc
    refine Wp.srg [] [] ?_
    refine Runs.batch 4 kr ?_
    rcases tf (p0.fAt == 0) with hc | hc
    · have h := cond_t h hc
      refine Runs.known 9 (v := true) kr hc ?_
      refine Runs.batch 2 kr ?_
      refine Runs.lenT (y := .t (.sl 1 (p0.fB.map (eInt .u8)))) (e := 5) (eInt .u8) p0.fB 1 rfl rfl rfl kr kr kr kr kr ?_
      refine Runs.batch 3 kr ?_
      rcases tf (((p0.fB.length : Int)) == 0) with hc | hc
      · have h := cond_t h hc
        refine Runs.known 15 (v := true) kr hc ?_
        refine Runs.batch 2 kr ?_
        obtain ⟨r1, e_r1, h⟩ := bind_some h
        refine Runs.callK false 18 100 [] [.agg ((Record.enc p0.fR).map .t)] _ _ _ rfl rfl kr kr kr kr kr (impl_isRecord_ok u p0.fR r1 e_r1) kr ?_
        refine Runs.alln ?_
        refine Wp.fg ⟨[(1, .obj 1 0), (2, .t (.bool r1))], [(1, ((Put.enc p0).map .t))], []⟩ ?_
        refine Wp.ret ?_
        refine thenR ?_
        obtain rfl := Option.some.inj h
        exact RetK [.t (.bool r1)] _ [] kr kr (.refl _) .nil
      have h := cond_f h hc
      refine Runs.known 15 (v := false) kr hc ?_
      refine Runs.alln ?_
      refine Wp.fg ⟨[(1, .obj 1 0), (2, .t (.bool false))], [(1, ((Put.enc p0).map .t))], []⟩ ?_
      refine Wp.ret ?_
      refine thenR ?_
      obtain rfl := Option.some.inj h
      exact RetK [.t (.bool false)] _ [] kr kr (.refl _) .nil
    have h := cond_f h hc
    refine Runs.known 9 (v := false) kr hc ?_
    refine Runs.alln ?_
    refine Wp.fg ⟨[(1, .obj 1 0), (2, .t (.bool false))], [(1, ((Put.enc p0).map .t))], []⟩ ?_
    refine Wp.ret ?_
    refine thenR ?_
    obtain rfl := Option.some.inj h
    exact RetK [.t (.bool false)] _ [] kr kr (.refl _) .nil
  have h := cond_f h hc
  refine Wp.skip (thenN ?_)
  refine Wp.srg [] [] ?_
  refine Runs.batch 2 kr ?_
  obtain ⟨r2, e_r2, h⟩ := bind_some h
  refine Runs.callK false 22 83 [] [.t (.int .i64 p0.fWhat)] _ _ _ rfl rfl kr kr kr kr kr (impl_isSlot_ok u p0.fWhat r2 e_r2) kr ?_
  refine Runs.batch 1 kr ?_
  rcases tf (r2) with hc | hc
  · have h := cond_t h hc
    refine Runs.known 23 (v := true) kr hc ?_
    refine Runs.batch 6 kr ?_
    rcases tf ([p0.fR.fGen, p0.fR.fSlot, p0.fR.fLen] == [0, 0, 0]) with hc | hc
    · have h := cond_t h hc
      refine Runs.known 29 (v := true) kr hc ?_
      refine Runs.batch 4 kr ?_
      refine Runs.lenT (y := .t (.sl 1 (p0.fB.map (eInt .u8)))) (e := 5) (eInt .u8) p0.fB 1 rfl rfl rfl kr kr kr kr kr ?_
      refine Runs.batch 1 kr ?_
      obtain ⟨r3, e_r3, h⟩ := bind_some h
      refine Runs.callK false 36 106 [] [.t (.int .i64 p0.fAt), .t (.int .i64 0), .t (.int .i64 (bSub .i64 240 ((p0.fB.length : Int))))] _ _ _ rfl rfl kr kr kr kr kr (impl_within_ok u p0.fAt 0 (bSub .i64 240 ((p0.fB.length : Int))) r3 e_r3) kr ?_
      refine Runs.alln ?_
      refine Wp.fg ⟨[(2, .t (.bool r3))], [], []⟩ ?_
      refine Wp.ret ?_
      obtain rfl := Option.some.inj h
      exact RetK [.t (.bool r3)] _ [] kr kr (.refl _) .nil
    have h := cond_f h hc
    refine Runs.known 29 (v := false) kr hc ?_
    refine Runs.alln ?_
    refine Wp.fg ⟨[(2, .t (.bool false))], [], []⟩ ?_
    refine Wp.ret ?_
    obtain rfl := Option.some.inj h
    exact RetK [.t (.bool false)] _ [] kr kr (.refl _) .nil
  have h := cond_f h hc
  refine Runs.known 23 (v := false) kr hc ?_
  refine Runs.alln ?_
  refine Wp.fg ⟨[(2, .t (.bool false))], [], []⟩ ?_
  refine Wp.ret ?_
  obtain rfl := Option.some.inj h
  exact RetK [.t (.bool false)] _ [] kr kr (.refl _) .nil
theorem impl_DiskOk_1_ok (u : Nat) (p0 : Put) (r : Bool) (h : impl_DiskOk_1 u p0 = some r) : CallOK Try.prog 103 [.agg [.t (.int .i64 p0.fWhat), .t (.int .i64 p0.fAt), .t (.sl 1 (p0.fB.map (eInt .u8))), .t (.int .i64 p0.fR.fGen), .t (.int .i64 p0.fR.fSlot), .t (.int .i64 p0.fR.fLen)]] (.one (.t (.bool r))) [] := by
  unfold impl_DiskOk_1 at h
  refine CallOK.of_bodyK (fn := Try.f103) (m := false) [.agg ((Put.enc p0).map .t)] kr rfl kr kr kr kr kr ?_
  refine Wp.srg [] [] ?_
  refine Runs.alln ?_
  refine Wp.fg ⟨[(1, .obj 1 0), (2, .t (.bool false))], [(1, ((Put.enc p0).map .t))], []⟩ ?_
  refine Wp.srg [] [] ?_
  refine Runs.batch 1 kr ?_
  obtain ⟨r1, e_r1, h⟩ := bind_some h
  refine Runs.callK false 4 93 [] [.agg ((Put.enc p0).map .t)] _ _ _ rfl rfl kr kr kr kr kr (impl_isPut_ok u p0 r1 e_r1) kr ?_
  refine Runs.alln ?_
  refine Wp.fg ⟨[(2, .t (.bool (!r1)))], [], []⟩ ?_
  refine Wp.ret ?_
  obtain rfl := Option.some.inj h
  exact RetK [.t (.bool (!r1))] _ [] kr kr (.refl _) .nil
theorem slices_IndexFunc___impl_Put_impl_Put__impl_DiskOk_1_ok (u : Nat) (p0 : List Put) (r : Int) (h : slices_IndexFunc___impl_Put_impl_Put__impl_DiskOk_1 u p0 = some r) : CallOK Try.prog 143 [.one (.t (.sl 6 (p0.map Put.enc))), .clo 103 []] (.one (.t (.int .i64 r))) [] := by
  unfold slices_IndexFunc___impl_Put_impl_Put__impl_DiskOk_1 at h
  refine CallOK.of_bodyK (fn := Try.f143) (m := false) [.t (.sl 6 (p0.map Put.enc)), .clo 103 []] kr rfl kr kr kr kr kr ?_
  refine Wp.srg [] [] ?_
  refine Runs.alln ?_
  refine Wp.fg ⟨[(0, .t (.sl 6 (p0.map Put.enc))), (1, .clo 103 []), (4, .t (.int .i64 0))], [], []⟩ ?_
  refine Wp.seqJ (α := Unit) (fun a => ⟨[(4, .t (.int .i64 0))], [], []⟩) (fun a => slices_IndexFunc___impl_Put_impl_Put__impl_DiskOk_1_j1 u = some r) ?_ ?_
  · rintro ⟨⟩ h
    change slices_IndexFunc___impl_Put_impl_Put__impl_DiskOk_1_j1 u = some r at h
    unfold slices_IndexFunc___impl_Put_impl_Put__impl_DiskOk_1_j1 at h
    refine Wp.srg [] [] ?_
    refine Runs.alln ?_
    refine Wp.fg ⟨[(4, .t (.int .i64 (-1)))], [], []⟩ ?_
    refine Wp.ret ?_
    obtain rfl := Option.some.inj h
    exact RetK [.t (.int .i64 (-1))] _ [] kr kr (.refl _) .nil
  · refine Wp.srg [] [] ?_
    refine Runs.batch 1 kr ?_
    refine Runs.lenT (y := .t (.sl 6 (p0.map Put.enc))) (e := 48) Put.enc p0 6 rfl rfl rfl kr kr kr kr kr ?_
    refine Runs.alln ?_
    refine Wp.fg ⟨[(0, .t (.sl 6 (p0.map Put.enc))), (1, .clo 103 []), (4, .t (.int .i64 0)), (7, .t (.int .i64 ((p0.length : Int)))), (8, .t (.int .i64 0))], [], []⟩ ?_
    refine Wp.block ?_
    refine Wp.loopF (α := (List Put) × Int) (fun a => ⟨[(0, .t (.sl 6 (a.1.map Put.enc))), (1, .clo 103 []), (4, .t (.int .i64 0)), (7, .t (.int .i64 ((a.1.length : Int)))), (8, .t (.int .i64 a.2))], [], []⟩) (fun k_slices_IndexFunc___impl_Put_impl_Put__impl_DiskOk_1_l2 a => slices_IndexFunc___impl_Put_impl_Put__impl_DiskOk_1_l2 u k_slices_IndexFunc___impl_Put_impl_Put__impl_DiskOk_1_l2 a.1 a.2 = some r) ?_ ?_ u (p0, 0) h (Le.of (mo := []) (mr := []) kr kr kr kr)
    · intro a h; unfold slices_IndexFunc___impl_Put_impl_Put__impl_DiskOk_1_l2 at h; cases h
    · rintro k_slices_IndexFunc___impl_Put_impl_Put__impl_DiskOk_1_l2 ⟨p0, x2⟩ h
      change slices_IndexFunc___impl_Put_impl_Put__impl_DiskOk_1_l2 u (k_slices_IndexFunc___impl_Put_impl_Put__impl_DiskOk_1_l2 + 1) p0 x2 = some r at h
      rw [slices_IndexFunc___impl_Put_impl_Put__impl_DiskOk_1_l2] at h
      refine Wp.srg [] [] ?_
      refine Runs.alln ?_
      refine Wp.fg ⟨[(0, .t (.sl 6 (p0.map Put.enc))), (1, .clo 103 []), (4, .t (.int .i64 0)), (7, .t (.int .i64 ((p0.length : Int)))), (8, .t (.int .i64 x2)), (9, .t (.bool (decide (x2 < ((p0.length : Int))))))], [], []⟩ ?_
      refine Wp.seq ?_
      refine Wp.cond2 (b := decide (x2 < ((p0.length : Int)))) kr (fun hc => ?_) (fun hc => ?_)
      · have h := cond_t h hc
        refine Wp.skip (thenN ?_)
        refine Wp.seq ?_
        refine Wp.block ?_
        refine Wp.srg [] [] ?_
        refine Runs.alln ?_
        refine Wp.fg ⟨[(0, .t (.sl 6 (p0.map Put.enc))), (1, .clo 103 []), (4, .t (.int .i64 0)), (5, .t (.int .i64 x2)), (7, .t (.int .i64 ((p0.length : Int)))), (8, .t (.int .i64 x2))], [], []⟩ ?_
        refine Wp.srg [] [] ?_
        refine Runs.batch 3 kr ?_
        obtain ⟨y4, e_y4, h⟩ := bind_some h
        refine Runs.idxT (e := 48) (kk := .i64) (sz := 6) Put.enc p0 x2 rfl kr kr kr kr kr kr e_y4 ?_
        refine Runs.batch 1 kr ?_
        obtain ⟨r5, e_r5, h⟩ := bind_some h
        refine Runs.callK false 16 103 [] [.agg ((Put.enc y4).map .t)] _ _ _ rfl rfl kr kr kr kr kr (impl_DiskOk_1_ok u y4 r5 e_r5) kr ?_
        refine Runs.done ?_
        refine thenN ?_
        refine Wp.fg ⟨[(0, .t (.sl 6 (p0.map Put.enc))), (1, .clo 103 []), (4, .t (.int .i64 0)), (5, .t (.int .i64 x2)), (7, .t (.int .i64 ((p0.length : Int)))), (8, .t (.int .i64 x2)), (16, .t (.bool r5))], [], []⟩ ?_
        refine Wp.cond2 (b := r5) kr (fun hc => ?_) (fun hc => ?_)
        · have h := cond_t h hc
          refine Wp.srg [] [] ?_
          refine Runs.alln ?_
          refine Wp.fg ⟨[(0, .t (.sl 6 (p0.map Put.enc))), (1, .clo 103 []), (4, .t (.int .i64 x2)), (7, .t (.int .i64 ((p0.length : Int)))), (8, .t (.int .i64 x2))], [], []⟩ ?_
          refine Wp.ret ?_
          refine blkR ?_
          refine thenR ?_
          refine thenR ?_
          refine blkR ?_
          refine thenR ?_
          obtain rfl := Option.some.inj h
          exact RetK [.t (.int .i64 x2)] _ [] kr kr (.refl _) .nil
        have h := cond_f h hc
        refine Wp.skip ?_
        refine blkN ?_
        refine thenN ?_
        refine Wp.rg [] [] ?_
        refine Runs.alln ?_
        exact ⟨(p0, bAdd .i64 x2 1), h, Le.of (mo := []) (mr := []) kr kr kr kr⟩
      have h := cond_f h hc
      refine Wp.exit ?_
      refine thenE ?_
      refine thenE ?_
      refine blkE ?_
      refine thenN ?_
      exact ⟨(), h, Le.of (mo := []) (mr := []) kr kr kr kr⟩
theorem slices_ContainsFunc___impl_Put_impl_Put__impl_DiskOk_1_ok (u : Nat) (p0 : List Put) (r : Bool) (h : slices_ContainsFunc___impl_Put_impl_Put__impl_DiskOk_1 u p0 = some r) : CallOK Try.prog 102 [.one (.t (.sl 6 (p0.map Put.enc))), .clo 103 []] (.one (.t (.bool r))) [] := by
  unfold slices_ContainsFunc___impl_Put_impl_Put__impl_DiskOk_1 at h
  refine CallOK.of_bodyK (fn := Try.f102) (m := false) [.t (.sl 6 (p0.map Put.enc)), .clo 103 []] kr rfl kr kr kr kr kr ?_
  refine Wp.srg [] [] ?_
  refine Runs.alln ?_
  refine Wp.fg ⟨[(0, .t (.sl 6 (p0.map Put.enc))), (1, .clo 103 []), (4, .t (.bool false))], [], []⟩ ?_
  refine Wp.srg [] [] ?_
  refine Runs.batch 2 kr ?_
  obtain ⟨r1, e_r1, h⟩ := bind_some h
  refine Runs.callK false 7 143 [] [.t (.sl 6 (p0.map Put.enc)), .clo 103 []] _ _ _ rfl rfl kr kr kr kr kr (slices_IndexFunc___impl_Put_impl_Put__impl_DiskOk_1_ok u p0 r1 e_r1) kr ?_
  refine Runs.alln ?_
  refine Wp.fg ⟨[(4, .t (.bool (decide (r1 ≥ 0))))], [], []⟩ ?_
  refine Wp.ret ?_
  obtain rfl := Option.some.inj h
  exact RetK [.t (.bool (decide (r1 ≥ 0)))] _ [] kr kr (.refl _) .nil
theorem impl_DiskOk_ok (u : Nat) (p0 : Disk) (r : Bool) (h : impl_DiskOk u p0 = some r) : CallOK Try.prog 38 [.agg [.t (.sl 1 (p0.fA.map (eInt .u8))), .t (.sl 1 (p0.fB.map (eInt .u8))), .t (.int .i64 p0.fR.fGen), .t (.int .i64 p0.fR.fSlot), .t (.int .i64 p0.fR.fLen), .t (.sl 6 (p0.fP.map Put.enc))]] (.one (.t (.bool r))) [] := by
  unfold impl_DiskOk at h
  refine CallOK.of_bodyK (fn := Try.f38) (m := false) [.agg ((Disk.enc p0).map .t)] kr rfl kr kr kr kr kr ?_
  refine Wp.srg [] [] ?_
  refine Runs.alln ?_
  refine Wp.fg ⟨[(1, .obj 1 0), (2, .t (.bool false))], [(1, ((Disk.enc p0).map .t))], []⟩ ?_
  refine Wp.seq ?_
  refine Wp.seqJ (α := Disk × Bool) (fun a => ⟨[(1, .fadr (Disk.enc a.1)), (2, .t (.bool false)), (31, .t (.bool a.2))], [], []⟩) (fun a => impl_DiskOk_j1 u a.1 a.2 = some r) ?_ ?_
  · rintro ⟨p0, x3⟩ h
    change impl_DiskOk_j1 u p0 x3 = some r at h
    unfold impl_DiskOk_j1 at h
    refine Wp.cond2 (b := x3) kr (fun hc => ?_) (fun hc => ?_)
    · have h := cond_t h hc
      refine Wp.srg [] [] ?_
      refine Runs.alln ?_
      refine Wp.fg ⟨[(1, .fadr (Disk.enc p0)), (2, .t (.bool false))], [], []⟩ ?_
      refine Wp.ret ?_
      refine thenR ?_
      obtain rfl := Option.some.inj h
      exact RetK [.t (.bool false)] _ [] kr kr (.refl _) .nil
    have h := cond_f h hc
    refine Wp.skip (thenN ?_)
    refine Wp.srg [] [] ?_
    refine Runs.batch 2 kr ?_
    refine Runs.lenT (y := .t (.sl 6 (p0.fP.map Put.enc))) (e := 48) Put.enc p0.fP 6 rfl rfl rfl kr kr kr kr kr ?_
    refine Runs.batch 2 kr ?_
    rcases tf (decide (((p0.fP.length : Int)) ≤ 200)) with hc | hc
    · have h := cond_t h hc
      refine Runs.known 36 (v := true) kr hc ?_
      refine Runs.batch 2 kr ?_
      obtain ⟨r4, e_r4, h⟩ := bind_some h
      refine Runs.callK false 39 102 [] [.t (.sl 6 (p0.fP.map Put.enc)), .clo 103 []] _ _ _ rfl rfl kr kr kr kr kr (slices_ContainsFunc___impl_Put_impl_Put__impl_DiskOk_1_ok u p0.fP r4 e_r4) kr ?_
      refine Runs.alln ?_
      refine Wp.fg ⟨[(2, .t (.bool (!r4)))], [], []⟩ ?_
      refine Wp.ret ?_
      obtain rfl := Option.some.inj h
      exact RetK [.t (.bool (!r4))] _ [] kr kr (.refl _) .nil
    have h := cond_f h hc
    refine Runs.known 36 (v := false) kr hc ?_
    refine Runs.alln ?_
    refine Wp.fg ⟨[(2, .t (.bool false))], [], []⟩ ?_
    refine Wp.ret ?_
    obtain rfl := Option.some.inj h
    exact RetK [.t (.bool false)] _ [] kr kr (.refl _) .nil
  · refine Wp.le (Le.trans (Le.frzOb 1 (Disk.enc p0) kr kr) (Le.of (s := ⟨[(1, .fadr (Disk.enc p0)), (2, .t (.bool false))], [], []⟩) (mo := []) (mr := []) kr kr kr kr)) ?_
    refine Wp.regionA (pOf []) (rhoOf [(1, .frz), (3, .frz), (4, .frz), (5, .frz), (6, .frz), (7, .frz), (8, .frz), (9, .frz), (10, .frz), (12, .frz), (13, .frz), (14, .frz), (15, .frz), (16, .frz), (18, .frz), (19, .frz), (20, .frz), (21, .frz), (22, .frz), (23, .frz), (24, .frz), (25, .frz), (26, .frz), (27, .frz), (28, .frz), (29, .frz)]) kr kr ?_
    refine Runs.batch 2 kr ?_
    refine Runs.lenT (y := .t (.sl 1 (p0.fA.map (eInt .u8)))) (e := 5) (eInt .u8) p0.fA 1 rfl rfl rfl kr kr kr kr kr ?_
    refine Runs.batch 2 kr ?_
    rcases tf (decide (((p0.fA.length : Int)) > 240)) with hc | hc
    · have h := cond_t h hc
      refine Runs.known 7 (v := true) kr hc ?_
      refine Runs.alln ?_
      exact ⟨(p0, true), h, Le.of (mo := []) (mr := []) kr kr kr kr⟩
    have h := cond_f h hc
    refine Runs.known 7 (v := false) kr hc ?_
    refine Runs.batch 2 kr ?_
    refine Runs.lenT (y := .t (.sl 1 (p0.fB.map (eInt .u8)))) (e := 5) (eInt .u8) p0.fB 1 rfl rfl rfl kr kr kr kr kr ?_
    refine Runs.batch 3 kr ?_
    rcases tf (decide (((p0.fB.length : Int)) > 240)) with hc | hc
    · have h := cond_t h hc
      refine Runs.known 13 (v := true) kr hc ?_
      refine Runs.alln ?_
      exact ⟨(p0, true), h, Le.of (mo := []) (mr := []) kr kr kr kr⟩
    have h := cond_f h hc
    refine Runs.known 13 (v := false) kr hc ?_
    refine Runs.batch 2 kr ?_
    obtain ⟨r1, e_r1, h⟩ := bind_some h
    refine Runs.callK false 16 100 [] [.agg ((Record.enc p0.fR).map .t)] _ _ _ rfl rfl kr kr kr kr kr (impl_isRecord_ok u p0.fR r1 e_r1) kr ?_
    refine Runs.batch 3 kr ?_
    rcases tf (!r1) with hc | hc
    · have h := cond_t h hc
      refine Runs.known 19 (v := true) kr hc ?_
      refine Runs.alln ?_
      exact ⟨(p0, true), h, Le.of (mo := []) (mr := []) kr kr kr kr⟩
    have h := cond_f h hc
    refine Runs.known 19 (v := false) kr hc ?_
    refine Runs.batch 6 kr ?_
    obtain ⟨r2, e_r2, h⟩ := bind_some h
    refine Runs.callK false 26 101 [] [.fadr (Disk.enc p0), .t (.int .i64 p0.fR.fSlot)] _ _ _ rfl rfl kr kr kr kr kr (impl_Disk__slot__frz0_ok u p0 p0.fR.fSlot r2 e_r2) kr ?_
    refine Runs.batch 2 kr ?_
    refine Runs.lenT (y := .t (.sl 1 (r2.map (eInt .u8)))) (e := 5) (eInt .u8) r2 1 rfl rfl rfl kr kr kr kr kr ?_
    refine Runs.alln ?_
    exact ⟨(p0, decide (p0.fR.fLen > ((r2.length : Int)))), h, Le.of (mo := []) (mr := []) kr kr kr kr⟩
theorem impl_Disk__with_okd (u : Nat) (p0 : Disk) (p1 : Put) (r : Disk × Bool) (h : impl_Disk__with u p0 p1 = some r) : DOK Try.prog 85 [.agg [.t (.sl 1 (p0.fA.map (eInt .u8))), .t (.sl 1 (p0.fB.map (eInt .u8))), .t (.int .i64 p0.fR.fGen), .t (.int .i64 p0.fR.fSlot), .t (.int .i64 p0.fR.fLen), .t (.sl 6 (p0.fP.map Put.enc))], .agg [.t (.int .i64 p1.fWhat), .t (.int .i64 p1.fAt), .t (.sl 1 (p1.fB.map (eInt .u8))), .t (.int .i64 p1.fR.fGen), .t (.int .i64 p1.fR.fSlot), .t (.int .i64 p1.fR.fLen)]] (.tup [.agg [.ow 5 1 (r.1.fA.map (eInt .u8)), .ow 5 1 (r.1.fB.map (eInt .u8)), .t (.int .i64 r.1.fR.fGen), .t (.int .i64 r.1.fR.fSlot), .t (.int .i64 r.1.fR.fLen), .ow 48 6 (r.1.fP.map Put.enc)], .one (.t (.bool r.2))]) := by
  unfold impl_Disk__with at h
  refine DOK.of_bodyK (fn := Try.f85) (m := true) kr rfl kr kr kr ?_
  refine Wp.srg [] [] ?_
  refine Runs.alln ?_
  refine Wp.fg ⟨[(2, .obj 2 0), (3, .obj 3 0), (4, .obj 4 0), (5, .t (.bool false))], [(2, [.ext false (.sl 1 (p0.fA.map (eInt .u8))), .ext false (.sl 1 (p0.fB.map (eInt .u8))), .t (.int .i64 p0.fR.fGen), .t (.int .i64 p0.fR.fSlot), .t (.int .i64 p0.fR.fLen), .ext false (.sl 6 (p0.fP.map Put.enc))]), (3, [.t (.int .i64 p1.fWhat), .t (.int .i64 p1.fAt), .ext false (.sl 1 (p1.fB.map (eInt .u8))), .t (.int .i64 p1.fR.fGen), .t (.int .i64 p1.fR.fSlot), .t (.int .i64 p1.fR.fLen)]), (4, [.nil, .nil, .t (.int .i64 0), .t (.int .i64 0), .t (.int .i64 0), .nil])], []⟩ ?_
  refine Wp.srg [] [] ?_
  refine Runs.batch 1 kr ?_
  obtain ⟨r1, e_r1, h⟩ := bind_some h
  refine Runs.callDK 8 84 [] [.agg [.ext false (.sl 1 (p0.fA.map (eInt .u8))), .ext false (.sl 1 (p0.fB.map (eInt .u8))), .t (.int .i64 p0.fR.fGen), .t (.int .i64 p0.fR.fSlot), .t (.int .i64 p0.fR.fLen), .ext false (.sl 6 (p0.fP.map Put.enc))]] [.agg ((Disk.enc p0).map .t)] (.agg [.ow 5 1 (r1.fA.map (eInt .u8)), .ow 5 1 (r1.fB.map (eInt .u8)), .t (.int .i64 r1.fR.fGen), .t (.int .i64 r1.fR.fSlot), .t (.int .i64 r1.fR.fLen), .ow 48 6 (r1.fP.map Put.enc)]) rfl rfl kr kr kr kr kr (impl_copyDisk_okd u p0 r1 e_r1) kr ?_
  refine Runs.alln ?_
  refine Wp.fg ⟨[(2, .obj 2 0), (3, .obj 3 0), (4, .obj 4 0), (5, .t (.bool false)), (6, .obj 6 0)], [(2, [.ext false (.sl 1 (p0.fA.map (eInt .u8))), .ext false (.sl 1 (p0.fB.map (eInt .u8))), .t (.int .i64 p0.fR.fGen), .t (.int .i64 p0.fR.fSlot), .t (.int .i64 p0.fR.fLen), .ext false (.sl 6 (p0.fP.map Put.enc))]), (3, [.t (.int .i64 p1.fWhat), .t (.int .i64 p1.fAt), .ext false (.sl 1 (p1.fB.map (eInt .u8))), .t (.int .i64 p1.fR.fGen), .t (.int .i64 p1.fR.fSlot), .t (.int .i64 p1.fR.fLen)]), (4, [.nil, .nil, .t (.int .i64 0), .t (.int .i64 0), .t (.int .i64 0), .nil]), (6, [.own 524288, .own 524289, .t (.int .i64 r1.fR.fGen), .t (.int .i64 r1.fR.fSlot), .t (.int .i64 r1.fR.fLen), .own 524293])], [(524288, .live 5 1 (r1.fA.map (eInt .u8))), (524289, .live 5 1 (r1.fB.map (eInt .u8))), (524293, .live 48 6 (r1.fP.map Put.enc))]⟩ ?_
  refine Wp.seq ?_
  refine Wp.regionA (pOf []) (rhoOf [(3, .obj 3), (6, .obj 6), (9, .obj 6), (10, .own 8), (11, .frz), (12, .own 12), (13, .own 13), (14, .own 14), (15, .obj 6)]) kr kr ?_
  refine Runs.batch 3 kr ?_
  obtain ⟨r2, e_r2, h⟩ := bind_some h
  refine Runs.callDK 12 138 [] [.agg [.t (.int .i64 p1.fWhat), .t (.int .i64 p1.fAt), .ext false (.sl 1 (p1.fB.map (eInt .u8))), .t (.int .i64 p1.fR.fGen), .t (.int .i64 p1.fR.fSlot), .t (.int .i64 p1.fR.fLen)]] [.agg ((Put.enc p1).map .t)] (.agg [.t (.int .i64 r2.fWhat), .t (.int .i64 r2.fAt), .ow 5 1 (r2.fB.map (eInt .u8)), .t (.int .i64 r2.fR.fGen), .t (.int .i64 r2.fR.fSlot), .t (.int .i64 r2.fR.fLen)]) rfl rfl kr kr kr kr kr (impl_copyPut_okd u p1 r2 e_r2) kr ?_
  refine Runs.batch 1 kr ?_
  obtain ⟨_, e_3, h⟩ := bind_some h
  refine Runs.appT (y := .own 851968) Put.enc 14 6 48 6 64 524293 r1.fP ([r2]) rfl rfl rfl rfl kr kr kr kr kr kr (.inl rfl) kr (of_decide_eq_true (chk_some e_3)) kr kr ?_
  refine Runs.alln ?_
  refine Wp.fg ⟨[(2, .obj 2 0), (4, .obj 4 0), (5, .t (.bool false)), (6, .obj 6 0)], [(2, [.ext false (.sl 1 (p0.fA.map (eInt .u8))), .ext false (.sl 1 (p0.fB.map (eInt .u8))), .t (.int .i64 p0.fR.fGen), .t (.int .i64 p0.fR.fSlot), .t (.int .i64 p0.fR.fLen), .ext false (.sl 6 (p0.fP.map Put.enc))]), (4, [.nil, .nil, .t (.int .i64 0), .t (.int .i64 0), .t (.int .i64 0), .nil]), (6, [.own 524288, .own 524289, .t (.int .i64 r1.fR.fGen), .t (.int .i64 r1.fR.fSlot), .t (.int .i64 r1.fR.fLen), .own 917504])], [(524288, .live 5 1 (r1.fA.map (eInt .u8))), (524289, .live 5 1 (r1.fB.map (eInt .u8))), (917504, .live 48 6 ((r1.fP ++ ([r2])).map Put.enc))]⟩ ?_
  refine Wp.seq ?_
  refine Wp.srg [] [] ?_
  refine Runs.batch 1 kr ?_
  obtain ⟨r4, e_r4, h⟩ := bind_some h
  refine Runs.callBK 17 38 [] [.agg [.own 524288, .own 524289, .t (.int .i64 r1.fR.fGen), .t (.int .i64 r1.fR.fSlot), .t (.int .i64 r1.fR.fLen), .own 917504]] [.agg [.t (.sl 1 (r1.fA.map (eInt .u8))), .t (.sl 1 (r1.fB.map (eInt .u8))), .t (.int .i64 r1.fR.fGen), .t (.int .i64 r1.fR.fSlot), .t (.int .i64 r1.fR.fLen), .t (.sl 6 ((r1.fP ++ ([r2])).map Put.enc))]] (.one (.t (.bool r4))) rfl rfl kr kr kr kr kr (impl_DiskOk_ok u ((Disk.mk r1.fA r1.fB r1.fR (r1.fP ++ ([r2])))) r4 e_r4) (by simp [V.plain, V.plains, C.plain, T.sc]) kr ?_
  refine Runs.alln ?_
  refine Wp.fg ⟨[(2, .obj 2 0), (4, .obj 4 0), (5, .t (.bool false)), (6, .obj 6 0), (18, .t (.bool (!r4)))], [(2, [.ext false (.sl 1 (p0.fA.map (eInt .u8))), .ext false (.sl 1 (p0.fB.map (eInt .u8))), .t (.int .i64 p0.fR.fGen), .t (.int .i64 p0.fR.fSlot), .t (.int .i64 p0.fR.fLen), .ext false (.sl 6 (p0.fP.map Put.enc))]), (4, [.nil, .nil, .t (.int .i64 0), .t (.int .i64 0), .t (.int .i64 0), .nil]), (6, [.own 524288, .own 524289, .t (.int .i64 r1.fR.fGen), .t (.int .i64 r1.fR.fSlot), .t (.int .i64 r1.fR.fLen), .own 917504])], [(524288, .live 5 1 (r1.fA.map (eInt .u8))), (524289, .live 5 1 (r1.fB.map (eInt .u8))), (917504, .live 48 6 ((r1.fP ++ ([r2])).map Put.enc))]⟩ ?_
  refine Wp.cond2 (b := !r4) kr (fun hc => ?_) (fun hc => ?_)
  · have h := cond_t h hc
    refine Wp.srg [] [] ?_
    refine Runs.batch 1 kr ?_
    obtain ⟨r5, e_r5, h⟩ := bind_some h
    refine Runs.callDK 20 84 [] [.agg [.ext false (.sl 1 (p0.fA.map (eInt .u8))), .ext false (.sl 1 (p0.fB.map (eInt .u8))), .t (.int .i64 p0.fR.fGen), .t (.int .i64 p0.fR.fSlot), .t (.int .i64 p0.fR.fLen), .ext false (.sl 6 (p0.fP.map Put.enc))]] [.agg ((Disk.enc p0).map .t)] (.agg [.ow 5 1 (r5.fA.map (eInt .u8)), .ow 5 1 (r5.fB.map (eInt .u8)), .t (.int .i64 r5.fR.fGen), .t (.int .i64 r5.fR.fSlot), .t (.int .i64 r5.fR.fLen), .ow 48 6 (r5.fP.map Put.enc)]) rfl rfl kr kr kr kr kr (impl_copyDisk_okd u p0 r5 e_r5) kr ?_
    refine Runs.alln ?_
    refine Wp.fg ⟨[(4, .obj 4 0), (5, .t (.bool false)), (6, .obj 6 0)], [(4, [.own 1310720, .own 1310721, .t (.int .i64 r5.fR.fGen), .t (.int .i64 r5.fR.fSlot), .t (.int .i64 r5.fR.fLen), .own 1310725]), (6, [.own 524288, .own 524289, .t (.int .i64 r1.fR.fGen), .t (.int .i64 r1.fR.fSlot), .t (.int .i64 r1.fR.fLen), .own 917504])], [(524288, .live 5 1 (r1.fA.map (eInt .u8))), (524289, .live 5 1 (r1.fB.map (eInt .u8))), (917504, .live 48 6 ((r1.fP ++ ([r2])).map Put.enc)), (1310720, .live 5 1 (r5.fA.map (eInt .u8))), (1310721, .live 5 1 (r5.fB.map (eInt .u8))), (1310725, .live 48 6 (r5.fP.map Put.enc))]⟩ ?_
    refine Wp.ret ?_
    refine thenR ?_
    obtain rfl := Option.some.inj h
    exact RetK [.agg [.own 1310720, .own 1310721, .t (.int .i64 r5.fR.fGen), .t (.int .i64 r5.fR.fSlot), .t (.int .i64 r5.fR.fLen), .own 1310725], .t (.bool false)] _ [] kr kr (.refl _) .nil
  have h := cond_f h hc
  refine Wp.skip (thenN ?_)
  refine Wp.srg [] [] ?_
  refine Runs.alln ?_
  refine Wp.fg ⟨[(4, .obj 4 0), (5, .t (.bool true))], [(4, [.own 524288, .own 524289, .t (.int .i64 r1.fR.fGen), .t (.int .i64 r1.fR.fSlot), .t (.int .i64 r1.fR.fLen), .own 917504])], [(524288, .live 5 1 (r1.fA.map (eInt .u8))), (524289, .live 5 1 (r1.fB.map (eInt .u8))), (917504, .live 48 6 ((r1.fP ++ ([r2])).map Put.enc))]⟩ ?_
  refine Wp.ret ?_
  obtain rfl := Option.some.inj h
  exact RetK [.agg [.own 524288, .own 524289, .t (.int .i64 r1.fR.fGen), .t (.int .i64 r1.fR.fSlot), .t (.int .i64 r1.fR.fLen), .own 917504], .t (.bool true)] _ [] kr kr (.refl _) .nil
theorem impl_PutBytes_okd (u : Nat) (p0 : Disk) (p1 : Int) (p2 : Int) (p3 : List Int) (r : Disk × Bool) (h : impl_PutBytes u p0 p1 p2 p3 = some r) : DOK Try.prog 23 [.agg [.t (.sl 1 (p0.fA.map (eInt .u8))), .t (.sl 1 (p0.fB.map (eInt .u8))), .t (.int .i64 p0.fR.fGen), .t (.int .i64 p0.fR.fSlot), .t (.int .i64 p0.fR.fLen), .t (.sl 6 (p0.fP.map Put.enc))], .one (.t (.int .i64 p1)), .one (.t (.int .i64 p2)), .one (.t (.sl 1 (p3.map (eInt .u8))))] (.tup [.agg [.ow 5 1 (r.1.fA.map (eInt .u8)), .ow 5 1 (r.1.fB.map (eInt .u8)), .t (.int .i64 r.1.fR.fGen), .t (.int .i64 r.1.fR.fSlot), .t (.int .i64 r.1.fR.fLen), .ow 48 6 (r.1.fP.map Put.enc)], .one (.t (.bool r.2))]) := by
  unfold impl_PutBytes at h
  refine DOK.of_bodyK (fn := Try.f23) (m := true) kr rfl kr kr kr ?_
  refine Wp.srg [] [] ?_
  refine Runs.alln ?_
  refine Wp.fg ⟨[(1, .t (.int .i64 p1)), (2, .t (.int .i64 p2)), (3, .ext false (.sl 1 (p3.map (eInt .u8)))), (4, .obj 4 0), (8, .obj 8 0), (9, .t (.bool false))], [(4, [.ext false (.sl 1 (p0.fA.map (eInt .u8))), .ext false (.sl 1 (p0.fB.map (eInt .u8))), .t (.int .i64 p0.fR.fGen), .t (.int .i64 p0.fR.fSlot), .t (.int .i64 p0.fR.fLen), .ext false (.sl 6 (p0.fP.map Put.enc))]), (8, [.nil, .nil, .t (.int .i64 0), .t (.int .i64 0), .t (.int .i64 0), .nil])], []⟩ ?_
  refine Wp.seq ?_
  refine Wp.srg [] [] ?_
  refine Runs.batch 1 kr ?_
  obtain ⟨r1, e_r1, h⟩ := bind_some h
  refine Runs.callK false 11 83 [] [.t (.int .i64 p1)] _ _ _ rfl rfl kr kr kr kr kr (impl_isSlot_ok u p1 r1 e_r1) kr ?_
  refine Runs.alln ?_
  refine Wp.fg ⟨[(1, .t (.int .i64 p1)), (2, .t (.int .i64 p2)), (3, .ext false (.sl 1 (p3.map (eInt .u8)))), (4, .obj 4 0), (8, .obj 8 0), (9, .t (.bool false)), (12, .t (.bool (!r1)))], [(4, [.ext false (.sl 1 (p0.fA.map (eInt .u8))), .ext false (.sl 1 (p0.fB.map (eInt .u8))), .t (.int .i64 p0.fR.fGen), .t (.int .i64 p0.fR.fSlot), .t (.int .i64 p0.fR.fLen), .ext false (.sl 6 (p0.fP.map Put.enc))]), (8, [.nil, .nil, .t (.int .i64 0), .t (.int .i64 0), .t (.int .i64 0), .nil])], []⟩ ?_
  refine Wp.cond2 (b := !r1) kr (fun hc => ?_) (fun hc => ?_)
  · have h := cond_t h hc
    refine Wp.srg [] [] ?_
    refine Runs.batch 1 kr ?_
    obtain ⟨r2, e_r2, h⟩ := bind_some h
    refine Runs.callDK 14 84 [] [.agg [.ext false (.sl 1 (p0.fA.map (eInt .u8))), .ext false (.sl 1 (p0.fB.map (eInt .u8))), .t (.int .i64 p0.fR.fGen), .t (.int .i64 p0.fR.fSlot), .t (.int .i64 p0.fR.fLen), .ext false (.sl 6 (p0.fP.map Put.enc))]] [.agg ((Disk.enc p0).map .t)] (.agg [.ow 5 1 (r2.fA.map (eInt .u8)), .ow 5 1 (r2.fB.map (eInt .u8)), .t (.int .i64 r2.fR.fGen), .t (.int .i64 r2.fR.fSlot), .t (.int .i64 r2.fR.fLen), .ow 48 6 (r2.fP.map Put.enc)]) rfl rfl kr kr kr kr kr (impl_copyDisk_okd u p0 r2 e_r2) kr ?_
    refine Runs.alln ?_
    refine Wp.fg ⟨[(1, .t (.int .i64 p1)), (2, .t (.int .i64 p2)), (3, .ext false (.sl 1 (p3.map (eInt .u8)))), (4, .obj 4 0), (8, .obj 8 0), (9, .t (.bool false))], [(4, [.ext false (.sl 1 (p0.fA.map (eInt .u8))), .ext false (.sl 1 (p0.fB.map (eInt .u8))), .t (.int .i64 p0.fR.fGen), .t (.int .i64 p0.fR.fSlot), .t (.int .i64 p0.fR.fLen), .ext false (.sl 6 (p0.fP.map Put.enc))]), (8, [.own 917504, .own 917505, .t (.int .i64 r2.fR.fGen), .t (.int .i64 r2.fR.fSlot), .t (.int .i64 r2.fR.fLen), .own 917509])], [(917504, .live 5 1 (r2.fA.map (eInt .u8))), (917505, .live 5 1 (r2.fB.map (eInt .u8))), (917509, .live 48 6 (r2.fP.map Put.enc))]⟩ ?_
    refine Wp.ret ?_
    refine thenR ?_
    obtain rfl := Option.some.inj h
    exact RetK [.agg [.own 917504, .own 917505, .t (.int .i64 r2.fR.fGen), .t (.int .i64 r2.fR.fSlot), .t (.int .i64 r2.fR.fLen), .own 917509], .t (.bool false)] _ [] kr kr (.refl _) .nil
  have h := cond_f h hc
  refine Wp.skip (thenN ?_)
  refine Wp.srg [] [] ?_
  refine Runs.batch 5 kr ?_
  obtain ⟨r3, e_r3, h⟩ := bind_some h
  refine Runs.callDK 20 85 [] [.agg [.ext false (.sl 1 (p0.fA.map (eInt .u8))), .ext false (.sl 1 (p0.fB.map (eInt .u8))), .t (.int .i64 p0.fR.fGen), .t (.int .i64 p0.fR.fSlot), .t (.int .i64 p0.fR.fLen), .ext false (.sl 6 (p0.fP.map Put.enc))], .agg [.t (.int .i64 p1), .t (.int .i64 p2), .ext false (.sl 1 (p3.map (eInt .u8))), .t (.int .i64 0), .t (.int .i64 0), .t (.int .i64 0)]] [.agg ((Disk.enc p0).map .t), .agg [.t (.int .i64 p1), .t (.int .i64 p2), .t (.sl 1 (p3.map (eInt .u8))), .t (.int .i64 0), .t (.int .i64 0), .t (.int .i64 0)]] (.tup [.agg [.ow 5 1 (r3.1.fA.map (eInt .u8)), .ow 5 1 (r3.1.fB.map (eInt .u8)), .t (.int .i64 r3.1.fR.fGen), .t (.int .i64 r3.1.fR.fSlot), .t (.int .i64 r3.1.fR.fLen), .ow 48 6 (r3.1.fP.map Put.enc)], .one (.t (.bool r3.2))]) rfl rfl kr kr kr kr kr (impl_Disk__with_okd u p0 ((Put.mk p1 p2 p3 ((Record.mk 0 0 0)))) r3 e_r3) kr ?_
  refine Runs.alln ?_
  refine Wp.fg ⟨[(8, .obj 8 0), (9, .t (.bool r3.2))], [(8, [.own 1310720, .own 1310721, .t (.int .i64 r3.1.fR.fGen), .t (.int .i64 r3.1.fR.fSlot), .t (.int .i64 r3.1.fR.fLen), .own 1310725])], [(1310720, .live 5 1 (r3.1.fA.map (eInt .u8))), (1310721, .live 5 1 (r3.1.fB.map (eInt .u8))), (1310725, .live 48 6 (r3.1.fP.map Put.enc))]⟩ ?_
  refine Wp.ret ?_
  obtain rfl := Option.some.inj h
  exact RetK [.agg [.own 1310720, .own 1310721, .t (.int .i64 r3.1.fR.fGen), .t (.int .i64 r3.1.fR.fSlot), .t (.int .i64 r3.1.fR.fLen), .own 1310725], .t (.bool r3.2)] _ [] kr kr (.refl _) .nil
theorem spec_PutBytes_okd (u : Nat) (p0 : Disk) (p1 : Int) (p2 : Int) (p3 : List Int) (r : Disk × Bool) (h : spec_PutBytes u p0 p1 p2 p3 = some r) : DOK Try.prog 24 [.agg [.t (.sl 1 (p0.fA.map (eInt .u8))), .t (.sl 1 (p0.fB.map (eInt .u8))), .t (.int .i64 p0.fR.fGen), .t (.int .i64 p0.fR.fSlot), .t (.int .i64 p0.fR.fLen), .t (.sl 6 (p0.fP.map Put.enc))], .one (.t (.int .i64 p1)), .one (.t (.int .i64 p2)), .one (.t (.sl 1 (p3.map (eInt .u8))))] (.tup [.agg [.ow 5 1 (r.1.fA.map (eInt .u8)), .ow 5 1 (r.1.fB.map (eInt .u8)), .t (.int .i64 r.1.fR.fGen), .t (.int .i64 r.1.fR.fSlot), .t (.int .i64 r.1.fR.fLen), .ow 48 6 (r.1.fP.map Put.enc)], .one (.t (.bool r.2))]) := by
  unfold spec_PutBytes at h
  refine DOK.of_bodyK (fn := Try.f24) (m := true) kr rfl kr kr kr ?_
  refine Wp.srg [] [] ?_
  refine Runs.alln ?_
  refine Wp.fg ⟨[(1, .t (.int .i64 p1)), (2, .t (.int .i64 p2)), (3, .ext false (.sl 1 (p3.map (eInt .u8)))), (4, .obj 4 0), (8, .obj 8 0), (9, .t (.bool false))], [(4, [.ext false (.sl 1 (p0.fA.map (eInt .u8))), .ext false (.sl 1 (p0.fB.map (eInt .u8))), .t (.int .i64 p0.fR.fGen), .t (.int .i64 p0.fR.fSlot), .t (.int .i64 p0.fR.fLen), .ext false (.sl 6 (p0.fP.map Put.enc))]), (8, [.nil, .nil, .t (.int .i64 0), .t (.int .i64 0), .t (.int .i64 0), .nil])], []⟩ ?_
  refine Wp.seq ?_
  refine Wp.srg [] [] ?_
  refine Runs.batch 1 kr ?_
  obtain ⟨r1, e_r1, h⟩ := bind_some h
  refine Runs.callK false 11 86 [] [.t (.int .i64 p1), .t (.int .i64 0), .t (.int .i64 1)] _ _ _ rfl rfl kr kr kr kr kr (spec_l1In_ok u p1 0 1 r1 e_r1) kr ?_
  refine Runs.alln ?_
  refine Wp.fg ⟨[(1, .t (.int .i64 p1)), (2, .t (.int .i64 p2)), (3, .ext false (.sl 1 (p3.map (eInt .u8)))), (4, .obj 4 0), (8, .obj 8 0), (9, .t (.bool false)), (12, .t (.bool (!r1)))], [(4, [.ext false (.sl 1 (p0.fA.map (eInt .u8))), .ext false (.sl 1 (p0.fB.map (eInt .u8))), .t (.int .i64 p0.fR.fGen), .t (.int .i64 p0.fR.fSlot), .t (.int .i64 p0.fR.fLen), .ext false (.sl 6 (p0.fP.map Put.enc))]), (8, [.nil, .nil, .t (.int .i64 0), .t (.int .i64 0), .t (.int .i64 0), .nil])], []⟩ ?_
  refine Wp.cond2 (b := !r1) kr (fun hc => ?_) (fun hc => ?_)
  · have h := cond_t h hc
    refine Wp.srg [] [] ?_
    refine Runs.batch 1 kr ?_
    obtain ⟨r2, e_r2, h⟩ := bind_some h
    refine Runs.callDK 14 87 [] [.agg [.ext false (.sl 1 (p0.fA.map (eInt .u8))), .ext false (.sl 1 (p0.fB.map (eInt .u8))), .t (.int .i64 p0.fR.fGen), .t (.int .i64 p0.fR.fSlot), .t (.int .i64 p0.fR.fLen), .ext false (.sl 6 (p0.fP.map Put.enc))]] [.agg ((Disk.enc p0).map .t)] (.agg [.ow 5 1 (r2.fA.map (eInt .u8)), .ow 5 1 (r2.fB.map (eInt .u8)), .t (.int .i64 r2.fR.fGen), .t (.int .i64 r2.fR.fSlot), .t (.int .i64 r2.fR.fLen), .ow 48 6 (r2.fP.map Put.enc)]) rfl rfl kr kr kr kr kr (spec_l9Copy_okd u p0 r2 e_r2) kr ?_
    refine Runs.alln ?_
    refine Wp.fg ⟨[(1, .t (.int .i64 p1)), (2, .t (.int .i64 p2)), (3, .ext false (.sl 1 (p3.map (eInt .u8)))), (4, .obj 4 0), (8, .obj 8 0), (9, .t (.bool false))], [(4, [.ext false (.sl 1 (p0.fA.map (eInt .u8))), .ext false (.sl 1 (p0.fB.map (eInt .u8))), .t (.int .i64 p0.fR.fGen), .t (.int .i64 p0.fR.fSlot), .t (.int .i64 p0.fR.fLen), .ext false (.sl 6 (p0.fP.map Put.enc))]), (8, [.own 917504, .own 917505, .t (.int .i64 r2.fR.fGen), .t (.int .i64 r2.fR.fSlot), .t (.int .i64 r2.fR.fLen), .own 917509])], [(917504, .live 5 1 (r2.fA.map (eInt .u8))), (917505, .live 5 1 (r2.fB.map (eInt .u8))), (917509, .live 48 6 (r2.fP.map Put.enc))]⟩ ?_
    refine Wp.ret ?_
    refine thenR ?_
    obtain rfl := Option.some.inj h
    exact RetK [.agg [.own 917504, .own 917505, .t (.int .i64 r2.fR.fGen), .t (.int .i64 r2.fR.fSlot), .t (.int .i64 r2.fR.fLen), .own 917509], .t (.bool false)] _ [] kr kr (.refl _) .nil
  have h := cond_f h hc
  refine Wp.skip (thenN ?_)
  refine Wp.srg [] [] ?_
  refine Runs.batch 5 kr ?_
  obtain ⟨r3, e_r3, h⟩ := bind_some h
  refine Runs.callDK 20 88 [] [.agg [.ext false (.sl 1 (p0.fA.map (eInt .u8))), .ext false (.sl 1 (p0.fB.map (eInt .u8))), .t (.int .i64 p0.fR.fGen), .t (.int .i64 p0.fR.fSlot), .t (.int .i64 p0.fR.fLen), .ext false (.sl 6 (p0.fP.map Put.enc))], .agg [.t (.int .i64 p1), .t (.int .i64 p2), .ext false (.sl 1 (p3.map (eInt .u8))), .t (.int .i64 0), .t (.int .i64 0), .t (.int .i64 0)]] [.agg ((Disk.enc p0).map .t), .agg [.t (.int .i64 p1), .t (.int .i64 p2), .t (.sl 1 (p3.map (eInt .u8))), .t (.int .i64 0), .t (.int .i64 0), .t (.int .i64 0)]] (.tup [.agg [.ow 5 1 (r3.1.fA.map (eInt .u8)), .ow 5 1 (r3.1.fB.map (eInt .u8)), .t (.int .i64 r3.1.fR.fGen), .t (.int .i64 r3.1.fR.fSlot), .t (.int .i64 r3.1.fR.fLen), .ow 48 6 (r3.1.fP.map Put.enc)], .one (.t (.bool r3.2))]) rfl rfl kr kr kr kr kr (spec_l9Add_okd u p0 ((Put.mk p1 p2 p3 ((Record.mk 0 0 0)))) r3 e_r3) kr ?_
  refine Runs.alln ?_
  refine Wp.fg ⟨[(8, .obj 8 0), (9, .t (.bool r3.2))], [(8, [.own 1310720, .own 1310721, .t (.int .i64 r3.1.fR.fGen), .t (.int .i64 r3.1.fR.fSlot), .t (.int .i64 r3.1.fR.fLen), .own 1310725])], [(1310720, .live 5 1 (r3.1.fA.map (eInt .u8))), (1310721, .live 5 1 (r3.1.fB.map (eInt .u8))), (1310725, .live 48 6 (r3.1.fP.map Put.enc))]⟩ ?_
  refine Wp.ret ?_
  obtain rfl := Option.some.inj h
  exact RetK [.agg [.own 1310720, .own 1310721, .t (.int .i64 r3.1.fR.fGen), .t (.int .i64 r3.1.fR.fSlot), .t (.int .i64 r3.1.fR.fLen), .own 1310725], .t (.bool r3.2)] _ [] kr kr (.refl _) .nil
theorem spec_DrawPutRecord_ok (u : Nat) (p0 : List Int) (r : Disk × Record) (h : spec_DrawPutRecord u p0 = some r) : CallOK Try.prog 25 [.one (.t (.sl 1 (p0.map (eInt .u8))))] (.tup [.agg [.t (.sl 1 (r.1.fA.map (eInt .u8))), .t (.sl 1 (r.1.fB.map (eInt .u8))), .t (.int .i64 r.1.fR.fGen), .t (.int .i64 r.1.fR.fSlot), .t (.int .i64 r.1.fR.fLen), .t (.sl 6 (r.1.fP.map Put.enc))], .agg [.t (.int .i64 r.2.fGen), .t (.int .i64 r.2.fSlot), .t (.int .i64 r.2.fLen)]]) [] := by
  unfold spec_DrawPutRecord at h
  refine CallOK.of_bodyK (fn := Try.f25) (m := false) [.t (.sl 1 (p0.map (eInt .u8)))] kr rfl kr kr kr kr kr ?_
  refine Wp.srg [] [] ?_
  refine Runs.alln ?_
  refine Wp.fg ⟨[(0, .t (.sl 1 (p0.map (eInt .u8)))), (2, .obj 2 0), (3, .obj 3 0)], [(2, [.nil, .nil, .t (.int .i64 0), .t (.int .i64 0), .t (.int .i64 0), .nil]), (3, [.t (.int .i64 0), .t (.int .i64 0), .t (.int .i64 0)])], []⟩ ?_
  refine Wp.srg [] [] ?_
  refine Runs.batch 1 kr ?_
  obtain ⟨r1, e_r1, h⟩ := bind_some h
  refine Runs.callK false 7 75 [] [.t (.sl 1 (p0.map (eInt .u8)))] _ _ _ rfl rfl kr kr kr kr kr (spec_l1New_ok u p0 r1 e_r1) kr ?_
  refine Runs.alln ?_
  refine Wp.fg ⟨[(2, .obj 2 0), (3, .obj 3 0), (4, .obj 7 0)], [(2, [.nil, .nil, .t (.int .i64 0), .t (.int .i64 0), .t (.int .i64 0), .nil]), (3, [.t (.int .i64 0), .t (.int .i64 0), .t (.int .i64 0)]), (7, ((l1Cur.enc r1).map .t))], []⟩ ?_
  refine Wp.srg [] [] ?_
  refine Runs.batch 1 kr ?_
  obtain ⟨r2, e_r2, h⟩ := bind_some h
  refine Runs.callK false 9 77 [] [.obj 7 0] _ _ _ rfl rfl kr kr kr kr kr (spec_l9Any_ok u r1 r2 e_r2) kr ?_
  refine Runs.alln ?_
  refine Wp.fg ⟨[(2, .obj 2 0), (3, .obj 3 0), (4, .obj 7 0), (5, .obj 5 0)], [(2, [.nil, .nil, .t (.int .i64 0), .t (.int .i64 0), .t (.int .i64 0), .nil]), (3, [.t (.int .i64 0), .t (.int .i64 0), .t (.int .i64 0)]), (5, [.own 589824, .own 589825, .t (.int .i64 r2.1.fR.fGen), .t (.int .i64 r2.1.fR.fSlot), .t (.int .i64 r2.1.fR.fLen), .own 589829]), (7, ((l1Cur.enc r2.2).map .t))], [(589824, .live 5 1 (r2.1.fA.map (eInt .u8))), (589825, .live 5 1 (r2.1.fB.map (eInt .u8))), (589829, .live 48 6 (r2.1.fP.map Put.enc))]⟩ ?_
  refine Wp.seq ?_
  refine Wp.le (Le.trans (Le.frzO 5 0 589824 5 1 [.own 589824, .own 589825, .t (.int .i64 r2.1.fR.fGen), .t (.int .i64 r2.1.fR.fSlot), .t (.int .i64 r2.1.fR.fLen), .own 589829] (r2.1.fA.map (eInt .u8)) kr kr kr) (Le.trans (Le.frzO 5 1 589825 5 1 [.t (.sl 1 (r2.1.fA.map (eInt .u8))), .own 589825, .t (.int .i64 r2.1.fR.fGen), .t (.int .i64 r2.1.fR.fSlot), .t (.int .i64 r2.1.fR.fLen), .own 589829] (r2.1.fB.map (eInt .u8)) kr kr kr) (Le.trans (Le.frzO 5 5 589829 48 6 [.t (.sl 1 (r2.1.fA.map (eInt .u8))), .t (.sl 1 (r2.1.fB.map (eInt .u8))), .t (.int .i64 r2.1.fR.fGen), .t (.int .i64 r2.1.fR.fSlot), .t (.int .i64 r2.1.fR.fLen), .own 589829] (r2.1.fP.map Put.enc) kr kr kr) (Le.of (s := ⟨[(2, .obj 2 0), (3, .obj 3 0), (4, .obj 7 0), (5, .obj 5 0)], [(2, [.nil, .nil, .t (.int .i64 0), .t (.int .i64 0), .t (.int .i64 0), .nil]), (3, [.t (.int .i64 0), .t (.int .i64 0), .t (.int .i64 0)]), (5, ((Disk.enc r2.1).map .t)), (7, ((l1Cur.enc r2.2).map .t))], []⟩) (mo := []) (mr := []) kr kr kr kr)))) ?_
  refine Wp.regionA (pOf [7]) (rhoOf [(2, .obj 2), (3, .obj 3), (4, .obj 7), (5, .obj 5), (10, .frz), (11, .obj 7), (12, .own 12), (13, .frz), (14, .obj 7), (15, .frz), (16, .obj 7), (17, .own 17), (18, .frz), (19, .frz)]) kr kr ?_
  refine Runs.batch 3 kr ?_
  obtain ⟨r3, e_r3, h⟩ := bind_some h
  refine Runs.callK false 13 78 [] [.obj 7 0, .own 786432] _ _ _ rfl rfl kr kr kr kr kr (spec_l1Int_ok u r2.2 ([0, 1, -1, 1000001]) r3 e_r3) kr ?_
  refine Runs.batch 1 kr ?_
  obtain ⟨r4, e_r4, h⟩ := bind_some h
  refine Runs.callK false 15 81 [] [.obj 7 0, .t (.int .i64 3)] _ _ _ rfl rfl kr kr kr kr kr (spec_l1Below_ok u r3.2 3 r4 e_r4) kr ?_
  refine Runs.batch 2 kr ?_
  obtain ⟨r5, e_r5, h⟩ := bind_some h
  refine Runs.callK false 18 78 [] [.obj 7 0, .own 1114112] _ _ _ rfl rfl kr kr kr kr kr (spec_l1Int_ok u r4.2 ([0, 5, 240, 241]) r5 e_r5) kr ?_
  refine Runs.alln ?_
  refine Wp.fg ⟨[(2, .obj 2 0), (3, .obj 3 0)], [(2, ((Disk.enc r2.1).map .t)), (3, [.t (.int .i64 r3.1), .t (.int .i64 r4.1), .t (.int .i64 r5.1)])], []⟩ ?_
  refine Wp.ret ?_
  obtain rfl := Option.some.inj h
  exact RetK [.agg ((Disk.enc r2.1).map .t), .agg [.t (.int .i64 r3.1), .t (.int .i64 r4.1), .t (.int .i64 r5.1)]] _ [] kr kr (.refl _) .nil
theorem impl_cloned_ok (u : Nat) (p0 : List Int) (r : (List Int)) (h : impl_cloned u p0 = some r) : CallOK Try.prog 99 [.one (.t (.sl 1 (p0.map (eInt .u8))))] (.one (.ow 5 1 (r.map (eInt .u8)))) [] := by
  unfold impl_cloned at h
  refine CallOK.of_bodyK (fn := Try.f99) (m := true) [.t (.sl 1 (p0.map (eInt .u8)))] kr rfl kr kr kr kr kr ?_
  refine Wp.srg [] [] ?_
  refine Runs.alln ?_
  refine Wp.fg ⟨[(0, .t (.sl 1 (p0.map (eInt .u8)))), (2, .nil)], [], []⟩ ?_
  refine Wp.srg [] [] ?_
  refine Runs.batch 1 kr ?_
  refine Runs.lenT (y := .t (.sl 1 (p0.map (eInt .u8)))) (e := 5) (eInt .u8) p0 1 rfl rfl rfl kr kr kr kr kr ?_
  obtain ⟨_, e_1, h⟩ := bind_some h
  obtain ⟨_, e_2, h⟩ := bind_some h
  refine Runs.mkS (eInt .u8) (0 : Int) 5 5 1 1 0 ((p0.length : Int)) rfl rfl kr kr kr kr kr kr (chk_some e_1) (of_decide_eq_true (chk_some e_2)) kr ?_
  refine Runs.batch 1 kr ?_
  obtain ⟨_, e_3, h⟩ := bind_some h
  refine Runs.appT (y := .t (.sl 1 (p0.map (eInt .u8)))) (eInt .u8) 7 1 5 1 1 327680 (List.replicate (Int.toNat 0) (0 : Int)) p0 rfl rfl rfl rfl kr kr kr kr kr kr (.inl rfl) kr (of_decide_eq_true (chk_some e_3)) kr kr ?_
  refine Runs.alln ?_
  refine Wp.fg ⟨[(2, .own 458752)], [], [(458752, .live 5 1 (((List.replicate (Int.toNat 0) (0 : Int)) ++ p0).map (eInt .u8)))]⟩ ?_
  refine Wp.ret ?_
  obtain rfl := Option.some.inj h
  exact RetK [.own 458752] _ [] kr kr (.refl _) .nil
theorem impl_copyPut_ok (u : Nat) (p0 : Put) (r : Put) (h : impl_copyPut u p0 = some r) : CallOK Try.prog 138 [.agg [.t (.int .i64 p0.fWhat), .t (.int .i64 p0.fAt), .t (.sl 1 (p0.fB.map (eInt .u8))), .t (.int .i64 p0.fR.fGen), .t (.int .i64 p0.fR.fSlot), .t (.int .i64 p0.fR.fLen)]] (.agg [.t (.int .i64 r.fWhat), .t (.int .i64 r.fAt), .ow 5 1 (r.fB.map (eInt .u8)), .t (.int .i64 r.fR.fGen), .t (.int .i64 r.fR.fSlot), .t (.int .i64 r.fR.fLen)]) [] := by
  unfold impl_copyPut at h
  refine CallOK.of_bodyK (fn := Try.f138) (m := true) [.agg ((Put.enc p0).map .t)] kr rfl kr kr kr kr kr ?_
  refine Wp.srg [] [] ?_
  refine Runs.alln ?_
  refine Wp.fg ⟨[(1, .obj 1 0), (2, .obj 2 0)], [(1, ((Put.enc p0).map .t)), (2, [.t (.int .i64 0), .t (.int .i64 0), .nil, .t (.int .i64 0), .t (.int .i64 0), .t (.int .i64 0)])], []⟩ ?_
  refine Wp.srg [] [] ?_
  refine Runs.batch 2 kr ?_
  obtain ⟨r1, e_r1, h⟩ := bind_some h
  refine Runs.callK false 5 99 [] [.t (.sl 1 (p0.fB.map (eInt .u8)))] _ _ _ rfl rfl kr kr kr kr kr (impl_cloned_ok u p0.fB r1 e_r1) kr ?_
  refine Runs.alln ?_
  refine Wp.fg ⟨[(1, .obj 1 0), (2, .obj 2 0)], [(1, [.t (.int .i64 p0.fWhat), .t (.int .i64 p0.fAt), .own 327680, .t (.int .i64 p0.fR.fGen), .t (.int .i64 p0.fR.fSlot), .t (.int .i64 p0.fR.fLen)]), (2, [.t (.int .i64 0), .t (.int .i64 0), .nil, .t (.int .i64 0), .t (.int .i64 0), .t (.int .i64 0)])], [(327680, .live 5 1 (r1.map (eInt .u8)))]⟩ ?_
  refine Wp.srg [] [] ?_
  refine Runs.alln ?_
  refine Wp.fg ⟨[(2, .obj 2 0)], [(2, [.t (.int .i64 p0.fWhat), .t (.int .i64 p0.fAt), .own 327680, .t (.int .i64 p0.fR.fGen), .t (.int .i64 p0.fR.fSlot), .t (.int .i64 p0.fR.fLen)])], [(327680, .live 5 1 (r1.map (eInt .u8)))]⟩ ?_
  refine Wp.ret ?_
  obtain rfl := Option.some.inj h
  exact RetK [.agg [.t (.int .i64 p0.fWhat), .t (.int .i64 p0.fAt), .own 327680, .t (.int .i64 p0.fR.fGen), .t (.int .i64 p0.fR.fSlot), .t (.int .i64 p0.fR.fLen)]] _ [] kr kr (.refl _) .nil
theorem impl_copyDisk_ok (u : Nat) (p0 : Disk) (r : Disk) (h : impl_copyDisk u p0 = some r) : CallOK Try.prog 84 [.agg [.t (.sl 1 (p0.fA.map (eInt .u8))), .t (.sl 1 (p0.fB.map (eInt .u8))), .t (.int .i64 p0.fR.fGen), .t (.int .i64 p0.fR.fSlot), .t (.int .i64 p0.fR.fLen), .t (.sl 6 (p0.fP.map Put.enc))]] (.agg [.ow 5 1 (r.fA.map (eInt .u8)), .ow 5 1 (r.fB.map (eInt .u8)), .t (.int .i64 r.fR.fGen), .t (.int .i64 r.fR.fSlot), .t (.int .i64 r.fR.fLen), .ow 48 6 (r.fP.map Put.enc)]) [] := by
  unfold impl_copyDisk at h
  refine CallOK.of_bodyK (fn := Try.f84) (m := true) [.agg ((Disk.enc p0).map .t)] kr rfl kr kr kr kr kr ?_
  refine Wp.srg [] [] ?_
  refine Runs.alln ?_
  refine Wp.fg ⟨[(1, .obj 1 0), (2, .obj 2 0)], [(1, ((Disk.enc p0).map .t)), (2, [.nil, .nil, .t (.int .i64 0), .t (.int .i64 0), .t (.int .i64 0), .nil])], []⟩ ?_
  refine Wp.seq ?_
  refine Wp.regionA (pOf []) (rhoOf [(1, .obj 1), (3, .obj 3), (6, .obj 1), (7, .frz), (8, .own 8), (9, .obj 1), (10, .frz), (11, .own 11), (12, .obj 1), (13, .frz)]) kr kr ?_
  refine Runs.batch 2 kr ?_
  obtain ⟨r1, e_r1, h⟩ := bind_some h
  refine Runs.callK false 8 99 [] [.t (.sl 1 (p0.fA.map (eInt .u8)))] _ _ _ rfl rfl kr kr kr kr kr (impl_cloned_ok u p0.fA r1 e_r1) kr ?_
  refine Runs.batch 2 kr ?_
  obtain ⟨r2, e_r2, h⟩ := bind_some h
  refine Runs.callK false 11 99 [] [.t (.sl 1 (p0.fB.map (eInt .u8)))] _ _ _ rfl rfl kr kr kr kr kr (impl_cloned_ok u p0.fB r2 e_r2) kr ?_
  refine Runs.alln ?_
  refine Wp.fg ⟨[(1, .obj 1 0), (2, .obj 2 0), (3, .obj 3 0)], [(1, ((Disk.enc p0).map .t)), (2, [.nil, .nil, .t (.int .i64 0), .t (.int .i64 0), .t (.int .i64 0), .nil]), (3, [.own 524288, .own 720896, .t (.int .i64 p0.fR.fGen), .t (.int .i64 p0.fR.fSlot), .t (.int .i64 p0.fR.fLen), .nil])], [(524288, .live 5 1 (r1.map (eInt .u8))), (720896, .live 5 1 (r2.map (eInt .u8)))]⟩ ?_
  refine Wp.seqJ (α := ((List Int)) × ((List Int)) × Disk × (List Put)) (fun a => ⟨[(2, .obj 2 0), (3, .obj 3 0)], [(2, [.nil, .nil, .t (.int .i64 0), .t (.int .i64 0), .t (.int .i64 0), .nil]), (3, [.own 197120, .own 197121, .t (.int .i64 a.2.2.1.fR.fGen), .t (.int .i64 a.2.2.1.fR.fSlot), .t (.int .i64 a.2.2.1.fR.fLen), .own 197125])], [(197120, .live 5 1 (a.1.map (eInt .u8))), (197121, .live 5 1 (a.2.1.map (eInt .u8))), (197125, .live 48 6 (a.2.2.2.map Put.enc))]⟩) (fun a => impl_copyDisk_j1 u a.1 a.2.1 a.2.2.1 a.2.2.2 = some r) ?_ ?_
  · rintro ⟨r1, r2, p0, x11⟩ h
    change impl_copyDisk_j1 u r1 r2 p0 x11 = some r at h
    unfold impl_copyDisk_j1 at h
    refine Wp.srg [] [] ?_
    refine Runs.alln ?_
    refine Wp.fg ⟨[(2, .obj 2 0)], [(2, [.own 197120, .own 197121, .t (.int .i64 p0.fR.fGen), .t (.int .i64 p0.fR.fSlot), .t (.int .i64 p0.fR.fLen), .own 197125])], [(197120, .live 5 1 (r1.map (eInt .u8))), (197121, .live 5 1 (r2.map (eInt .u8))), (197125, .live 48 6 (x11.map Put.enc))]⟩ ?_
    refine Wp.ret ?_
    obtain rfl := Option.some.inj h
    exact RetK [.agg [.own 197120, .own 197121, .t (.int .i64 p0.fR.fGen), .t (.int .i64 p0.fR.fSlot), .t (.int .i64 p0.fR.fLen), .own 197125]] _ [] kr kr (.refl _) .nil
  · refine Wp.srg [] [] ?_
    refine Runs.batch 2 kr ?_
    refine Runs.lenT (y := .t (.sl 6 (p0.fP.map Put.enc))) (e := 48) Put.enc p0.fP 6 rfl rfl rfl kr kr kr kr kr ?_
    refine Runs.alln ?_
    refine Wp.fg ⟨[(2, .obj 2 0), (3, .obj 3 0), (16, .t (.sl 6 (p0.fP.map Put.enc))), (17, .t (.int .i64 ((p0.fP.length : Int)))), (18, .t (.int .i64 0))], [(2, [.nil, .nil, .t (.int .i64 0), .t (.int .i64 0), .t (.int .i64 0), .nil]), (3, [.own 524288, .own 720896, .t (.int .i64 p0.fR.fGen), .t (.int .i64 p0.fR.fSlot), .t (.int .i64 p0.fR.fLen), .nil])], [(524288, .live 5 1 (r1.map (eInt .u8))), (720896, .live 5 1 (r2.map (eInt .u8)))]⟩ ?_
    refine Wp.block ?_
    refine Wp.loopF (α := Disk × Int × ((List Int)) × ((List Int)) × (List Put)) (fun a => ⟨[(2, .obj 2 0), (3, .obj 3 0), (16, .t (.sl 6 (a.1.fP.map Put.enc))), (17, .t (.int .i64 ((a.1.fP.length : Int)))), (18, .t (.int .i64 a.2.1))], [(2, [.nil, .nil, .t (.int .i64 0), .t (.int .i64 0), .t (.int .i64 0), .nil]), (3, [.own 197120, .own 197121, .t (.int .i64 a.1.fR.fGen), .t (.int .i64 a.1.fR.fSlot), .t (.int .i64 a.1.fR.fLen), .own 197125])], [(197120, .live 5 1 (a.2.2.1.map (eInt .u8))), (197121, .live 5 1 (a.2.2.2.1.map (eInt .u8))), (197125, .live 48 6 (a.2.2.2.2.map Put.enc))]⟩) (fun k_impl_copyDisk_l2 a => impl_copyDisk_l2 u k_impl_copyDisk_l2 a.1 a.2.1 a.2.2.1 a.2.2.2.1 a.2.2.2.2 = some r) ?_ ?_ u (p0, 0, r1, r2, []) h (Le.trans (Le.emptyO 3 5 197125 48 6 [.own 524288, .own 720896, .t (.int .i64 p0.fR.fGen), .t (.int .i64 p0.fR.fSlot), .t (.int .i64 p0.fR.fLen), .nil] kr kr kr) (Le.of (mo := []) (mr := [(197120, 524288), (197121, 720896)]) kr kr kr kr))
    · intro a h; unfold impl_copyDisk_l2 at h; cases h
    · rintro k_impl_copyDisk_l2 ⟨p0, x5, r1, r2, x6⟩ h
      change impl_copyDisk_l2 u (k_impl_copyDisk_l2 + 1) p0 x5 r1 r2 x6 = some r at h
      rw [impl_copyDisk_l2] at h
      refine Wp.srg [] [] ?_
      refine Runs.alln ?_
      refine Wp.fg ⟨[(2, .obj 2 0), (3, .obj 3 0), (16, .t (.sl 6 (p0.fP.map Put.enc))), (17, .t (.int .i64 ((p0.fP.length : Int)))), (18, .t (.int .i64 x5)), (19, .t (.bool (decide (x5 < ((p0.fP.length : Int))))))], [(2, [.nil, .nil, .t (.int .i64 0), .t (.int .i64 0), .t (.int .i64 0), .nil]), (3, [.own 197120, .own 197121, .t (.int .i64 p0.fR.fGen), .t (.int .i64 p0.fR.fSlot), .t (.int .i64 p0.fR.fLen), .own 197125])], [(197120, .live 5 1 (r1.map (eInt .u8))), (197121, .live 5 1 (r2.map (eInt .u8))), (197125, .live 48 6 (x6.map Put.enc))]⟩ ?_
      refine Wp.seq ?_
      refine Wp.cond2 (b := decide (x5 < ((p0.fP.length : Int)))) kr (fun hc => ?_) (fun hc => ?_)
      · have h := cond_t h hc
        refine Wp.skip (thenN ?_)
        refine Wp.seq ?_
        refine Wp.block ?_
        refine Wp.srg [] [] ?_
        obtain ⟨y9, e_y9, h⟩ := bind_some h
        refine Runs.idxT (e := 48) (kk := .i64) (sz := 6) Put.enc p0.fP x5 rfl kr kr kr kr kr kr e_y9 ?_
        refine Runs.alln ?_
        refine Wp.fg ⟨[(2, .obj 2 0), (3, .obj 3 0), (5, .obj 5 0), (16, .t (.sl 6 (p0.fP.map Put.enc))), (17, .t (.int .i64 ((p0.fP.length : Int)))), (18, .t (.int .i64 x5))], [(2, [.nil, .nil, .t (.int .i64 0), .t (.int .i64 0), .t (.int .i64 0), .nil]), (3, [.own 197120, .own 197121, .t (.int .i64 p0.fR.fGen), .t (.int .i64 p0.fR.fSlot), .t (.int .i64 p0.fR.fLen), .own 197125]), (5, ((Put.enc y9).map .t))], [(197120, .live 5 1 (r1.map (eInt .u8))), (197121, .live 5 1 (r2.map (eInt .u8))), (197125, .live 48 6 (x6.map Put.enc))]⟩ ?_
        refine Wp.regionA (pOf []) (rhoOf [(3, .obj 3), (5, .obj 5), (22, .obj 3), (23, .own 3), (24, .frz), (25, .own 25), (26, .own 26), (27, .own 27), (28, .obj 3)]) kr kr ?_
        refine Runs.batch 3 kr ?_
        obtain ⟨r10, e_r10, h⟩ := bind_some h
        refine Runs.callK false 25 138 [] [.agg ((Put.enc y9).map .t)] _ _ _ rfl rfl kr kr kr kr kr (impl_copyPut_ok u y9 r10 e_r10) kr ?_
        refine Runs.batch 1 kr ?_
        obtain ⟨_, e_11, h⟩ := bind_some h
        refine Runs.appT (y := .own 1703936) Put.enc 27 6 48 6 64 197125 x6 ([r10]) rfl rfl rfl rfl kr kr kr kr kr kr (.inl rfl) kr (of_decide_eq_true (chk_some e_11)) kr kr ?_
        refine Runs.all kr ?_
        refine blkN ?_
        refine thenN ?_
        refine Wp.rg [] [] ?_
        refine Runs.alln ?_
        exact ⟨(p0, bAdd .i64 x5 1, r1, r2, x6 ++ ([r10])), h, Le.of (mo := []) (mr := [(197125, 1769472)]) kr kr kr kr⟩
      have h := cond_f h hc
      refine Wp.exit ?_
      refine thenE ?_
      refine thenE ?_
      refine blkE ?_
      refine thenN ?_
      exact ⟨(r1, r2, p0, x6), h, Le.of (mo := []) (mr := []) kr kr kr kr⟩
theorem impl_Disk__with_ok (u : Nat) (p0 : Disk) (p1 : Put) (r : Disk × Bool) (h : impl_Disk__with u p0 p1 = some r) : CallOK Try.prog 85 [.agg [.t (.sl 1 (p0.fA.map (eInt .u8))), .t (.sl 1 (p0.fB.map (eInt .u8))), .t (.int .i64 p0.fR.fGen), .t (.int .i64 p0.fR.fSlot), .t (.int .i64 p0.fR.fLen), .t (.sl 6 (p0.fP.map Put.enc))], .agg [.t (.int .i64 p1.fWhat), .t (.int .i64 p1.fAt), .t (.sl 1 (p1.fB.map (eInt .u8))), .t (.int .i64 p1.fR.fGen), .t (.int .i64 p1.fR.fSlot), .t (.int .i64 p1.fR.fLen)]] (.tup [.agg [.ow 5 1 (r.1.fA.map (eInt .u8)), .ow 5 1 (r.1.fB.map (eInt .u8)), .t (.int .i64 r.1.fR.fGen), .t (.int .i64 r.1.fR.fSlot), .t (.int .i64 r.1.fR.fLen), .ow 48 6 (r.1.fP.map Put.enc)], .one (.t (.bool r.2))]) [] := by
  unfold impl_Disk__with at h
  refine CallOK.of_bodyK (fn := Try.f85) (m := true) [.agg ((Disk.enc p0).map .t), .agg ((Put.enc p1).map .t)] kr rfl kr kr kr kr kr ?_
  refine Wp.srg [] [] ?_
  refine Runs.alln ?_
  refine Wp.fg ⟨[(2, .obj 2 0), (3, .obj 3 0), (4, .obj 4 0), (5, .t (.bool false))], [(2, ((Disk.enc p0).map .t)), (3, ((Put.enc p1).map .t)), (4, [.nil, .nil, .t (.int .i64 0), .t (.int .i64 0), .t (.int .i64 0), .nil])], []⟩ ?_
  refine Wp.srg [] [] ?_
  refine Runs.batch 1 kr ?_
  obtain ⟨r1, e_r1, h⟩ := bind_some h
  refine Runs.callK false 8 84 [] [.agg ((Disk.enc p0).map .t)] _ _ _ rfl rfl kr kr kr kr kr (impl_copyDisk_ok u p0 r1 e_r1) kr ?_
  refine Runs.alln ?_
  refine Wp.fg ⟨[(2, .obj 2 0), (3, .obj 3 0), (4, .obj 4 0), (5, .t (.bool false)), (6, .obj 6 0)], [(2, ((Disk.enc p0).map .t)), (3, ((Put.enc p1).map .t)), (4, [.nil, .nil, .t (.int .i64 0), .t (.int .i64 0), .t (.int .i64 0), .nil]), (6, [.own 524288, .own 524289, .t (.int .i64 r1.fR.fGen), .t (.int .i64 r1.fR.fSlot), .t (.int .i64 r1.fR.fLen), .own 524293])], [(524288, .live 5 1 (r1.fA.map (eInt .u8))), (524289, .live 5 1 (r1.fB.map (eInt .u8))), (524293, .live 48 6 (r1.fP.map Put.enc))]⟩ ?_
  refine Wp.seq ?_
  refine Wp.regionA (pOf []) (rhoOf [(3, .obj 3), (6, .obj 6), (9, .obj 6), (10, .own 8), (11, .frz), (12, .own 12), (13, .own 13), (14, .own 14), (15, .obj 6)]) kr kr ?_
  refine Runs.batch 3 kr ?_
  obtain ⟨r2, e_r2, h⟩ := bind_some h
  refine Runs.callK false 12 138 [] [.agg ((Put.enc p1).map .t)] _ _ _ rfl rfl kr kr kr kr kr (impl_copyPut_ok u p1 r2 e_r2) kr ?_
  refine Runs.batch 1 kr ?_
  obtain ⟨_, e_3, h⟩ := bind_some h
  refine Runs.appT (y := .own 851968) Put.enc 14 6 48 6 64 524293 r1.fP ([r2]) rfl rfl rfl rfl kr kr kr kr kr kr (.inl rfl) kr (of_decide_eq_true (chk_some e_3)) kr kr ?_
  refine Runs.alln ?_
  refine Wp.fg ⟨[(2, .obj 2 0), (4, .obj 4 0), (5, .t (.bool false)), (6, .obj 6 0)], [(2, ((Disk.enc p0).map .t)), (4, [.nil, .nil, .t (.int .i64 0), .t (.int .i64 0), .t (.int .i64 0), .nil]), (6, [.own 524288, .own 524289, .t (.int .i64 r1.fR.fGen), .t (.int .i64 r1.fR.fSlot), .t (.int .i64 r1.fR.fLen), .own 917504])], [(524288, .live 5 1 (r1.fA.map (eInt .u8))), (524289, .live 5 1 (r1.fB.map (eInt .u8))), (917504, .live 48 6 ((r1.fP ++ ([r2])).map Put.enc))]⟩ ?_
  refine Wp.seq ?_
  refine Wp.srg [] [] ?_
  refine Runs.batch 1 kr ?_
  obtain ⟨r4, e_r4, h⟩ := bind_some h
  refine Runs.callBK 17 38 [] [.agg [.own 524288, .own 524289, .t (.int .i64 r1.fR.fGen), .t (.int .i64 r1.fR.fSlot), .t (.int .i64 r1.fR.fLen), .own 917504]] [.agg [.t (.sl 1 (r1.fA.map (eInt .u8))), .t (.sl 1 (r1.fB.map (eInt .u8))), .t (.int .i64 r1.fR.fGen), .t (.int .i64 r1.fR.fSlot), .t (.int .i64 r1.fR.fLen), .t (.sl 6 ((r1.fP ++ ([r2])).map Put.enc))]] (.one (.t (.bool r4))) rfl rfl kr kr kr kr kr (impl_DiskOk_ok u ((Disk.mk r1.fA r1.fB r1.fR (r1.fP ++ ([r2])))) r4 e_r4) (by simp [V.plain, V.plains, C.plain, T.sc]) kr ?_
  refine Runs.alln ?_
  refine Wp.fg ⟨[(2, .obj 2 0), (4, .obj 4 0), (5, .t (.bool false)), (6, .obj 6 0), (18, .t (.bool (!r4)))], [(2, ((Disk.enc p0).map .t)), (4, [.nil, .nil, .t (.int .i64 0), .t (.int .i64 0), .t (.int .i64 0), .nil]), (6, [.own 524288, .own 524289, .t (.int .i64 r1.fR.fGen), .t (.int .i64 r1.fR.fSlot), .t (.int .i64 r1.fR.fLen), .own 917504])], [(524288, .live 5 1 (r1.fA.map (eInt .u8))), (524289, .live 5 1 (r1.fB.map (eInt .u8))), (917504, .live 48 6 ((r1.fP ++ ([r2])).map Put.enc))]⟩ ?_
  refine Wp.cond2 (b := !r4) kr (fun hc => ?_) (fun hc => ?_)
  · have h := cond_t h hc
    refine Wp.srg [] [] ?_
    refine Runs.batch 1 kr ?_
    obtain ⟨r5, e_r5, h⟩ := bind_some h
    refine Runs.callK false 20 84 [] [.agg ((Disk.enc p0).map .t)] _ _ _ rfl rfl kr kr kr kr kr (impl_copyDisk_ok u p0 r5 e_r5) kr ?_
    refine Runs.alln ?_
    refine Wp.fg ⟨[(4, .obj 4 0), (5, .t (.bool false)), (6, .obj 6 0)], [(4, [.own 1310720, .own 1310721, .t (.int .i64 r5.fR.fGen), .t (.int .i64 r5.fR.fSlot), .t (.int .i64 r5.fR.fLen), .own 1310725]), (6, [.own 524288, .own 524289, .t (.int .i64 r1.fR.fGen), .t (.int .i64 r1.fR.fSlot), .t (.int .i64 r1.fR.fLen), .own 917504])], [(524288, .live 5 1 (r1.fA.map (eInt .u8))), (524289, .live 5 1 (r1.fB.map (eInt .u8))), (917504, .live 48 6 ((r1.fP ++ ([r2])).map Put.enc)), (1310720, .live 5 1 (r5.fA.map (eInt .u8))), (1310721, .live 5 1 (r5.fB.map (eInt .u8))), (1310725, .live 48 6 (r5.fP.map Put.enc))]⟩ ?_
    refine Wp.ret ?_
    refine thenR ?_
    obtain rfl := Option.some.inj h
    exact RetK [.agg [.own 1310720, .own 1310721, .t (.int .i64 r5.fR.fGen), .t (.int .i64 r5.fR.fSlot), .t (.int .i64 r5.fR.fLen), .own 1310725], .t (.bool false)] _ [] kr kr (.refl _) .nil
  have h := cond_f h hc
  refine Wp.skip (thenN ?_)
  refine Wp.srg [] [] ?_
  refine Runs.alln ?_
  refine Wp.fg ⟨[(4, .obj 4 0), (5, .t (.bool true))], [(4, [.own 524288, .own 524289, .t (.int .i64 r1.fR.fGen), .t (.int .i64 r1.fR.fSlot), .t (.int .i64 r1.fR.fLen), .own 917504])], [(524288, .live 5 1 (r1.fA.map (eInt .u8))), (524289, .live 5 1 (r1.fB.map (eInt .u8))), (917504, .live 48 6 ((r1.fP ++ ([r2])).map Put.enc))]⟩ ?_
  refine Wp.ret ?_
  obtain rfl := Option.some.inj h
  exact RetK [.agg [.own 524288, .own 524289, .t (.int .i64 r1.fR.fGen), .t (.int .i64 r1.fR.fSlot), .t (.int .i64 r1.fR.fLen), .own 917504], .t (.bool true)] _ [] kr kr (.refl _) .nil
theorem impl_PutRecord_ok (u : Nat) (p0 : Disk) (p1 : Record) (r : Disk × Bool) (h : impl_PutRecord u p0 p1 = some r) : CallOK Try.prog 26 [.agg [.t (.sl 1 (p0.fA.map (eInt .u8))), .t (.sl 1 (p0.fB.map (eInt .u8))), .t (.int .i64 p0.fR.fGen), .t (.int .i64 p0.fR.fSlot), .t (.int .i64 p0.fR.fLen), .t (.sl 6 (p0.fP.map Put.enc))], .agg [.t (.int .i64 p1.fGen), .t (.int .i64 p1.fSlot), .t (.int .i64 p1.fLen)]] (.tup [.agg [.ow 5 1 (r.1.fA.map (eInt .u8)), .ow 5 1 (r.1.fB.map (eInt .u8)), .t (.int .i64 r.1.fR.fGen), .t (.int .i64 r.1.fR.fSlot), .t (.int .i64 r.1.fR.fLen), .ow 48 6 (r.1.fP.map Put.enc)], .one (.t (.bool r.2))]) [] := by
  unfold impl_PutRecord at h
  refine CallOK.of_bodyK (fn := Try.f26) (m := true) [.agg ((Disk.enc p0).map .t), .agg ((Record.enc p1).map .t)] kr rfl kr kr kr kr kr ?_
  refine Wp.srg [] [] ?_
  refine Runs.alln ?_
  refine Wp.fg ⟨[(2, .obj 2 0), (3, .obj 3 0), (4, .obj 4 0), (5, .t (.bool false))], [(2, ((Disk.enc p0).map .t)), (3, ((Record.enc p1).map .t)), (4, [.nil, .nil, .t (.int .i64 0), .t (.int .i64 0), .t (.int .i64 0), .nil])], []⟩ ?_
  refine Wp.srg [] [] ?_
  refine Runs.batch 3 kr ?_
  obtain ⟨r1, e_r1, h⟩ := bind_some h
  refine Runs.callK false 9 85 [] [.agg ((Disk.enc p0).map .t), .agg [.t (.int .i64 2), .t (.int .i64 0), .nil, .t (.int .i64 p1.fGen), .t (.int .i64 p1.fSlot), .t (.int .i64 p1.fLen)]] [.agg ((Disk.enc p0).map .t), .agg [.t (.int .i64 2), .t (.int .i64 0), .t (.sl 0 []), .t (.int .i64 p1.fGen), .t (.int .i64 p1.fSlot), .t (.int .i64 p1.fLen)]] (.tup [.agg [.ow 5 1 (r1.1.fA.map (eInt .u8)), .ow 5 1 (r1.1.fB.map (eInt .u8)), .t (.int .i64 r1.1.fR.fGen), .t (.int .i64 r1.1.fR.fSlot), .t (.int .i64 r1.1.fR.fLen), .ow 48 6 (r1.1.fP.map Put.enc)], .one (.t (.bool r1.2))]) [] rfl rfl kr kr kr kr kr ((impl_Disk__with_ok u p0 ((Put.mk 2 0 ([]) p1)) r1 e_r1).le (.cons (.refl _) (.cons (.agg (.cons (.refl _) (.cons (.refl _) (.cons (.sz _ _) (.cons (.refl _) (.cons (.refl _) (.cons (.refl _) .nil))))))) .nil))) kr ?_
  refine Runs.alln ?_
  refine Wp.fg ⟨[(4, .obj 4 0), (5, .t (.bool r1.2))], [(4, [.own 589824, .own 589825, .t (.int .i64 r1.1.fR.fGen), .t (.int .i64 r1.1.fR.fSlot), .t (.int .i64 r1.1.fR.fLen), .own 589829])], [(589824, .live 5 1 (r1.1.fA.map (eInt .u8))), (589825, .live 5 1 (r1.1.fB.map (eInt .u8))), (589829, .live 48 6 (r1.1.fP.map Put.enc))]⟩ ?_
  refine Wp.ret ?_
  obtain rfl := Option.some.inj h
  exact RetK [.agg [.own 589824, .own 589825, .t (.int .i64 r1.1.fR.fGen), .t (.int .i64 r1.1.fR.fSlot), .t (.int .i64 r1.1.fR.fLen), .own 589829], .t (.bool r1.2)] _ [] kr kr (.refl _) .nil
theorem spec_l9CopyPut_ok (u : Nat) (p0 : Put) (r : Put) (h : spec_l9CopyPut u p0 = some r) : CallOK Try.prog 139 [.agg [.t (.int .i64 p0.fWhat), .t (.int .i64 p0.fAt), .t (.sl 1 (p0.fB.map (eInt .u8))), .t (.int .i64 p0.fR.fGen), .t (.int .i64 p0.fR.fSlot), .t (.int .i64 p0.fR.fLen)]] (.agg [.t (.int .i64 r.fWhat), .t (.int .i64 r.fAt), .ow 5 1 (r.fB.map (eInt .u8)), .t (.int .i64 r.fR.fGen), .t (.int .i64 r.fR.fSlot), .t (.int .i64 r.fR.fLen)]) [] := by
  unfold spec_l9CopyPut at h
  refine CallOK.of_bodyK (fn := Try.f139) (m := true) [.agg ((Put.enc p0).map .t)] kr rfl kr kr kr kr kr ?_
  refine Wp.srg [] [] ?_
  refine Runs.alln ?_
  refine Wp.fg ⟨[(1, .obj 1 0), (2, .obj 2 0)], [(1, ((Put.enc p0).map .t)), (2, [.t (.int .i64 0), .t (.int .i64 0), .nil, .t (.int .i64 0), .t (.int .i64 0), .t (.int .i64 0)])], []⟩ ?_
  refine Wp.srg [] [] ?_
  refine Runs.alln ?_
  refine Wp.fg ⟨[(1, .obj 1 0), (2, .obj 2 0), (3, .obj 3 0)], [(1, ((Put.enc p0).map .t)), (2, [.t (.int .i64 0), .t (.int .i64 0), .nil, .t (.int .i64 0), .t (.int .i64 0), .t (.int .i64 0)]), (3, ((Put.enc p0).map .t))], []⟩ ?_
  refine Wp.srg [] [] ?_
  refine Runs.batch 3 kr ?_
  obtain ⟨_, e_1, h⟩ := bind_some h
  refine Runs.appT (y := .t (.sl 1 (p0.fB.map (eInt .u8)))) (eInt .u8) 8 1 5 1 1 327680 (([] : List Int)) p0.fB rfl rfl rfl rfl kr kr kr kr kr kr (.inl rfl) kr (of_decide_eq_true (chk_some e_1)) kr kr ?_
  refine Runs.alln ?_
  refine Wp.fg ⟨[(2, .obj 2 0), (3, .obj 3 0)], [(2, [.t (.int .i64 0), .t (.int .i64 0), .nil, .t (.int .i64 0), .t (.int .i64 0), .t (.int .i64 0)]), (3, [.t (.int .i64 p0.fWhat), .t (.int .i64 p0.fAt), .own 524288, .t (.int .i64 p0.fR.fGen), .t (.int .i64 p0.fR.fSlot), .t (.int .i64 p0.fR.fLen)])], [(524288, .live 5 1 (((([] : List Int)) ++ p0.fB).map (eInt .u8)))]⟩ ?_
  refine Wp.srg [] [] ?_
  refine Runs.alln ?_
  refine Wp.fg ⟨[(2, .obj 2 0)], [(2, [.t (.int .i64 p0.fWhat), .t (.int .i64 p0.fAt), .own 524288, .t (.int .i64 p0.fR.fGen), .t (.int .i64 p0.fR.fSlot), .t (.int .i64 p0.fR.fLen)])], [(524288, .live 5 1 (((([] : List Int)) ++ p0.fB).map (eInt .u8)))]⟩ ?_
  refine Wp.ret ?_
  obtain rfl := Option.some.inj h
  exact RetK [.agg [.t (.int .i64 p0.fWhat), .t (.int .i64 p0.fAt), .own 524288, .t (.int .i64 p0.fR.fGen), .t (.int .i64 p0.fR.fSlot), .t (.int .i64 p0.fR.fLen)]] _ [] kr kr (.refl _) .nil
theorem spec_l9Copy_ok (u : Nat) (p0 : Disk) (r : Disk) (h : spec_l9Copy u p0 = some r) : CallOK Try.prog 87 [.agg [.t (.sl 1 (p0.fA.map (eInt .u8))), .t (.sl 1 (p0.fB.map (eInt .u8))), .t (.int .i64 p0.fR.fGen), .t (.int .i64 p0.fR.fSlot), .t (.int .i64 p0.fR.fLen), .t (.sl 6 (p0.fP.map Put.enc))]] (.agg [.ow 5 1 (r.fA.map (eInt .u8)), .ow 5 1 (r.fB.map (eInt .u8)), .t (.int .i64 r.fR.fGen), .t (.int .i64 r.fR.fSlot), .t (.int .i64 r.fR.fLen), .ow 48 6 (r.fP.map Put.enc)]) [] := by
  unfold spec_l9Copy at h
  refine CallOK.of_bodyK (fn := Try.f87) (m := true) [.agg ((Disk.enc p0).map .t)] kr rfl kr kr kr kr kr ?_
  refine Wp.srg [] [] ?_
  refine Runs.alln ?_
  refine Wp.fg ⟨[(1, .obj 1 0), (2, .obj 2 0)], [(1, ((Disk.enc p0).map .t)), (2, [.nil, .nil, .t (.int .i64 0), .t (.int .i64 0), .t (.int .i64 0), .nil])], []⟩ ?_
  refine Wp.seq ?_
  refine Wp.regionA (pOf []) (rhoOf [(1, .obj 1), (3, .obj 3), (6, .own 6), (7, .obj 1), (8, .frz), (9, .own 9), (10, .own 10), (11, .obj 1), (12, .frz), (13, .own 13), (14, .obj 1), (15, .frz), (16, .own 16)]) kr kr ?_
  refine Runs.batch 3 kr ?_
  obtain ⟨_, e_1, h⟩ := bind_some h
  refine Runs.appT (y := .t (.sl 1 (p0.fA.map (eInt .u8)))) (eInt .u8) 9 1 5 1 1 393216 (([] : List Int)) p0.fA rfl rfl rfl rfl kr kr kr kr kr kr (.inl rfl) kr (of_decide_eq_true (chk_some e_1)) kr kr ?_
  refine Runs.batch 3 kr ?_
  obtain ⟨_, e_2, h⟩ := bind_some h
  refine Runs.appT (y := .t (.sl 1 (p0.fB.map (eInt .u8)))) (eInt .u8) 13 1 5 1 1 655360 (([] : List Int)) p0.fB rfl rfl rfl rfl kr kr kr kr kr kr (.inl rfl) kr (of_decide_eq_true (chk_some e_2)) kr kr ?_
  refine Runs.alln ?_
  refine Wp.fg ⟨[(1, .obj 1 0), (2, .obj 2 0), (3, .obj 3 0)], [(1, ((Disk.enc p0).map .t)), (2, [.nil, .nil, .t (.int .i64 0), .t (.int .i64 0), .t (.int .i64 0), .nil]), (3, [.own 589824, .own 851968, .t (.int .i64 p0.fR.fGen), .t (.int .i64 p0.fR.fSlot), .t (.int .i64 p0.fR.fLen), .own 1048576])], [(589824, .live 5 1 (((([] : List Int)) ++ p0.fA).map (eInt .u8))), (851968, .live 5 1 (((([] : List Int)) ++ p0.fB).map (eInt .u8))), (1048576, .live 48 6 ((([] : List Put)).map Put.enc))]⟩ ?_
  refine Wp.seqJ (α := Disk × (List Put)) (fun a => ⟨[(2, .obj 2 0), (3, .obj 3 0)], [(2, [.nil, .nil, .t (.int .i64 0), .t (.int .i64 0), .t (.int .i64 0), .nil]), (3, [.own 197120, .own 197121, .t (.int .i64 a.1.fR.fGen), .t (.int .i64 a.1.fR.fSlot), .t (.int .i64 a.1.fR.fLen), .own 197125])], [(197120, .live 5 1 (((([] : List Int)) ++ a.1.fA).map (eInt .u8))), (197121, .live 5 1 (((([] : List Int)) ++ a.1.fB).map (eInt .u8))), (197125, .live 48 6 (a.2.map Put.enc))]⟩) (fun a => spec_l9Copy_j1 u a.1 a.2 = some r) ?_ ?_
  · rintro ⟨p0, x11⟩ h
    change spec_l9Copy_j1 u p0 x11 = some r at h
    unfold spec_l9Copy_j1 at h
    refine Wp.srg [] [] ?_
    refine Runs.alln ?_
    refine Wp.fg ⟨[(2, .obj 2 0)], [(2, [.own 197120, .own 197121, .t (.int .i64 p0.fR.fGen), .t (.int .i64 p0.fR.fSlot), .t (.int .i64 p0.fR.fLen), .own 197125])], [(197120, .live 5 1 (((([] : List Int)) ++ p0.fA).map (eInt .u8))), (197121, .live 5 1 (((([] : List Int)) ++ p0.fB).map (eInt .u8))), (197125, .live 48 6 (x11.map Put.enc))]⟩ ?_
    refine Wp.ret ?_
    obtain rfl := Option.some.inj h
    exact RetK [.agg [.own 197120, .own 197121, .t (.int .i64 p0.fR.fGen), .t (.int .i64 p0.fR.fSlot), .t (.int .i64 p0.fR.fLen), .own 197125]] _ [] kr kr (.refl _) .nil
  · refine Wp.srg [] [] ?_
    refine Runs.alln ?_
    refine Wp.fg ⟨[(1, .obj 1 0), (2, .obj 2 0), (3, .obj 3 0), (4, .t (.int .i64 0))], [(1, ((Disk.enc p0).map .t)), (2, [.nil, .nil, .t (.int .i64 0), .t (.int .i64 0), .t (.int .i64 0), .nil]), (3, [.own 589824, .own 851968, .t (.int .i64 p0.fR.fGen), .t (.int .i64 p0.fR.fSlot), .t (.int .i64 p0.fR.fLen), .own 1048576])], [(589824, .live 5 1 (((([] : List Int)) ++ p0.fA).map (eInt .u8))), (851968, .live 5 1 (((([] : List Int)) ++ p0.fB).map (eInt .u8))), (1048576, .live 48 6 ((([] : List Put)).map Put.enc))]⟩ ?_
    refine Wp.block ?_
    refine Wp.loopF (α := Int × Disk × (List Put)) (fun a => ⟨[(1, .obj 1 0), (2, .obj 2 0), (3, .obj 3 0), (4, .t (.int .i64 a.1))], [(1, ((Disk.enc a.2.1).map .t)), (2, [.nil, .nil, .t (.int .i64 0), .t (.int .i64 0), .t (.int .i64 0), .nil]), (3, [.own 197120, .own 197121, .t (.int .i64 a.2.1.fR.fGen), .t (.int .i64 a.2.1.fR.fSlot), .t (.int .i64 a.2.1.fR.fLen), .own 197125])], [(197120, .live 5 1 (((([] : List Int)) ++ a.2.1.fA).map (eInt .u8))), (197121, .live 5 1 (((([] : List Int)) ++ a.2.1.fB).map (eInt .u8))), (197125, .live 48 6 (a.2.2.map Put.enc))]⟩) (fun k_spec_l9Copy_l2 a => spec_l9Copy_l2 u k_spec_l9Copy_l2 a.1 a.2.1 a.2.2 = some r) ?_ ?_ u (0, p0, ([] : List Put)) h (Le.of (mo := []) (mr := [(197120, 589824), (197121, 851968), (197125, 1048576)]) kr kr kr kr)
    · intro a h; unfold spec_l9Copy_l2 at h; cases h
    · rintro k_spec_l9Copy_l2 ⟨x5, p0, x6⟩ h
      change spec_l9Copy_l2 u (k_spec_l9Copy_l2 + 1) x5 p0 x6 = some r at h
      rw [spec_l9Copy_l2] at h
      refine Wp.seq ?_
      refine Wp.srg [] [] ?_
      refine Runs.batch 3 kr ?_
      refine Runs.lenT (y := .t (.sl 6 (p0.fP.map Put.enc))) (e := 48) Put.enc p0.fP 6 rfl rfl rfl kr kr kr kr kr ?_
      refine Runs.alln ?_
      refine Wp.fg ⟨[(1, .obj 1 0), (2, .obj 2 0), (3, .obj 3 0), (4, .t (.int .i64 x5)), (22, .t (.bool (decide (x5 < ((p0.fP.length : Int))))))], [(1, ((Disk.enc p0).map .t)), (2, [.nil, .nil, .t (.int .i64 0), .t (.int .i64 0), .t (.int .i64 0), .nil]), (3, [.own 197120, .own 197121, .t (.int .i64 p0.fR.fGen), .t (.int .i64 p0.fR.fSlot), .t (.int .i64 p0.fR.fLen), .own 197125])], [(197120, .live 5 1 (((([] : List Int)) ++ p0.fA).map (eInt .u8))), (197121, .live 5 1 (((([] : List Int)) ++ p0.fB).map (eInt .u8))), (197125, .live 48 6 (x6.map Put.enc))]⟩ ?_
      refine Wp.cond2 (b := decide (x5 < ((p0.fP.length : Int)))) kr (fun hc => ?_) (fun hc => ?_)
      · have h := cond_t h hc
        refine Wp.skip (thenN ?_)
        refine Wp.seq ?_
        refine Wp.block ?_
        refine Wp.srg [] [] ?_
        refine Runs.batch 3 kr ?_
        obtain ⟨y9, e_y9, h⟩ := bind_some h
        refine Runs.idxT (e := 48) (kk := .i64) (sz := 6) Put.enc p0.fP x5 rfl kr kr kr kr kr kr e_y9 ?_
        refine Runs.batch 1 kr ?_
        obtain ⟨r10, e_r10, h⟩ := bind_some h
        refine Runs.callK false 30 139 [] [.agg ((Put.enc y9).map .t)] _ _ _ rfl rfl kr kr kr kr kr (spec_l9CopyPut_ok u y9 r10 e_r10) kr ?_
        refine Runs.alln ?_
        refine Wp.fg ⟨[(1, .obj 1 0), (2, .obj 2 0), (3, .obj 3 0), (4, .t (.int .i64 x5)), (5, .obj 5 0)], [(1, ((Disk.enc p0).map .t)), (2, [.nil, .nil, .t (.int .i64 0), .t (.int .i64 0), .t (.int .i64 0), .nil]), (3, [.own 197120, .own 197121, .t (.int .i64 p0.fR.fGen), .t (.int .i64 p0.fR.fSlot), .t (.int .i64 p0.fR.fLen), .own 197125]), (5, [.t (.int .i64 r10.fWhat), .t (.int .i64 r10.fAt), .own 1966082, .t (.int .i64 r10.fR.fGen), .t (.int .i64 r10.fR.fSlot), .t (.int .i64 r10.fR.fLen)])], [(197120, .live 5 1 (((([] : List Int)) ++ p0.fA).map (eInt .u8))), (197121, .live 5 1 (((([] : List Int)) ++ p0.fB).map (eInt .u8))), (197125, .live 48 6 (x6.map Put.enc)), (1966082, .live 5 1 (r10.fB.map (eInt .u8)))]⟩ ?_
        refine Wp.rg [] [] ?_
        refine Runs.batch 4 kr ?_
        obtain ⟨_, e_11, h⟩ := bind_some h
        refine Runs.appT (y := .own 2228224) Put.enc 35 6 48 6 64 197125 x6 ([r10]) rfl rfl rfl rfl kr kr kr kr kr kr (.inl rfl) kr (of_decide_eq_true (chk_some e_11)) kr kr ?_
        refine Runs.all kr ?_
        refine blkN ?_
        refine thenN ?_
        refine Wp.rg [] [] ?_
        refine Runs.alln ?_
        exact ⟨(bAdd .i64 x5 1, p0, x6 ++ ([r10])), h, Le.of (mo := []) (mr := [(197125, 2293760)]) kr kr kr kr⟩
      have h := cond_f h hc
      refine Wp.exit ?_
      refine thenE ?_
      refine thenE ?_
      refine blkE ?_
      refine thenN ?_
      exact ⟨(p0, x6), h, Le.of (mo := []) (mr := []) kr kr kr kr⟩
theorem spec_l9Add_ok (u : Nat) (p0 : Disk) (p1 : Put) (r : Disk × Bool) (h : spec_l9Add u p0 p1 = some r) : CallOK Try.prog 88 [.agg [.t (.sl 1 (p0.fA.map (eInt .u8))), .t (.sl 1 (p0.fB.map (eInt .u8))), .t (.int .i64 p0.fR.fGen), .t (.int .i64 p0.fR.fSlot), .t (.int .i64 p0.fR.fLen), .t (.sl 6 (p0.fP.map Put.enc))], .agg [.t (.int .i64 p1.fWhat), .t (.int .i64 p1.fAt), .t (.sl 1 (p1.fB.map (eInt .u8))), .t (.int .i64 p1.fR.fGen), .t (.int .i64 p1.fR.fSlot), .t (.int .i64 p1.fR.fLen)]] (.tup [.agg [.ow 5 1 (r.1.fA.map (eInt .u8)), .ow 5 1 (r.1.fB.map (eInt .u8)), .t (.int .i64 r.1.fR.fGen), .t (.int .i64 r.1.fR.fSlot), .t (.int .i64 r.1.fR.fLen), .ow 48 6 (r.1.fP.map Put.enc)], .one (.t (.bool r.2))]) [] := by
  unfold spec_l9Add at h
  refine CallOK.of_bodyK (fn := Try.f88) (m := true) [.agg ((Disk.enc p0).map .t), .agg ((Put.enc p1).map .t)] kr rfl kr kr kr kr kr ?_
  refine Wp.srg [] [] ?_
  refine Runs.alln ?_
  refine Wp.fg ⟨[(2, .obj 2 0), (3, .obj 3 0), (4, .obj 4 0), (5, .t (.bool false))], [(2, ((Disk.enc p0).map .t)), (3, ((Put.enc p1).map .t)), (4, [.nil, .nil, .t (.int .i64 0), .t (.int .i64 0), .t (.int .i64 0), .nil])], []⟩ ?_
  refine Wp.srg [] [] ?_
  refine Runs.batch 1 kr ?_
  obtain ⟨r1, e_r1, h⟩ := bind_some h
  refine Runs.callK false 8 87 [] [.agg ((Disk.enc p0).map .t)] _ _ _ rfl rfl kr kr kr kr kr (spec_l9Copy_ok u p0 r1 e_r1) kr ?_
  refine Runs.alln ?_
  refine Wp.fg ⟨[(2, .obj 2 0), (3, .obj 3 0), (4, .obj 4 0), (5, .t (.bool false)), (6, .obj 6 0)], [(2, ((Disk.enc p0).map .t)), (3, ((Put.enc p1).map .t)), (4, [.nil, .nil, .t (.int .i64 0), .t (.int .i64 0), .t (.int .i64 0), .nil]), (6, [.own 524288, .own 524289, .t (.int .i64 r1.fR.fGen), .t (.int .i64 r1.fR.fSlot), .t (.int .i64 r1.fR.fLen), .own 524293])], [(524288, .live 5 1 (r1.fA.map (eInt .u8))), (524289, .live 5 1 (r1.fB.map (eInt .u8))), (524293, .live 48 6 (r1.fP.map Put.enc))]⟩ ?_
  refine Wp.seq ?_
  refine Wp.regionA (pOf []) (rhoOf [(3, .obj 3), (6, .obj 6), (9, .obj 6), (10, .own 8), (11, .frz), (12, .own 12), (13, .own 13), (14, .own 14), (15, .obj 6)]) kr kr ?_
  refine Runs.batch 3 kr ?_
  obtain ⟨r2, e_r2, h⟩ := bind_some h
  refine Runs.callK false 12 139 [] [.agg ((Put.enc p1).map .t)] _ _ _ rfl rfl kr kr kr kr kr (spec_l9CopyPut_ok u p1 r2 e_r2) kr ?_
  refine Runs.batch 1 kr ?_
  obtain ⟨_, e_3, h⟩ := bind_some h
  refine Runs.appT (y := .own 851968) Put.enc 14 6 48 6 64 524293 r1.fP ([r2]) rfl rfl rfl rfl kr kr kr kr kr kr (.inl rfl) kr (of_decide_eq_true (chk_some e_3)) kr kr ?_
  refine Runs.alln ?_
  refine Wp.fg ⟨[(2, .obj 2 0), (4, .obj 4 0), (5, .t (.bool false)), (6, .obj 6 0)], [(2, ((Disk.enc p0).map .t)), (4, [.nil, .nil, .t (.int .i64 0), .t (.int .i64 0), .t (.int .i64 0), .nil]), (6, [.own 524288, .own 524289, .t (.int .i64 r1.fR.fGen), .t (.int .i64 r1.fR.fSlot), .t (.int .i64 r1.fR.fLen), .own 917504])], [(524288, .live 5 1 (r1.fA.map (eInt .u8))), (524289, .live 5 1 (r1.fB.map (eInt .u8))), (917504, .live 48 6 ((r1.fP ++ ([r2])).map Put.enc))]⟩ ?_
  refine Wp.seq ?_
  refine Wp.srg [] [] ?_
  refine Runs.batch 1 kr ?_
  obtain ⟨r4, e_r4, h⟩ := bind_some h
  refine Runs.callBK 17 39 [] [.agg [.own 524288, .own 524289, .t (.int .i64 r1.fR.fGen), .t (.int .i64 r1.fR.fSlot), .t (.int .i64 r1.fR.fLen), .own 917504]] [.agg [.t (.sl 1 (r1.fA.map (eInt .u8))), .t (.sl 1 (r1.fB.map (eInt .u8))), .t (.int .i64 r1.fR.fGen), .t (.int .i64 r1.fR.fSlot), .t (.int .i64 r1.fR.fLen), .t (.sl 6 ((r1.fP ++ ([r2])).map Put.enc))]] (.one (.t (.bool r4))) rfl rfl kr kr kr kr kr (spec_DiskOk_ok u ((Disk.mk r1.fA r1.fB r1.fR (r1.fP ++ ([r2])))) r4 e_r4) (by simp [V.plain, V.plains, C.plain, T.sc]) kr ?_
  refine Runs.alln ?_
  refine Wp.fg ⟨[(2, .obj 2 0), (4, .obj 4 0), (5, .t (.bool false)), (6, .obj 6 0), (18, .t (.bool (!r4)))], [(2, ((Disk.enc p0).map .t)), (4, [.nil, .nil, .t (.int .i64 0), .t (.int .i64 0), .t (.int .i64 0), .nil]), (6, [.own 524288, .own 524289, .t (.int .i64 r1.fR.fGen), .t (.int .i64 r1.fR.fSlot), .t (.int .i64 r1.fR.fLen), .own 917504])], [(524288, .live 5 1 (r1.fA.map (eInt .u8))), (524289, .live 5 1 (r1.fB.map (eInt .u8))), (917504, .live 48 6 ((r1.fP ++ ([r2])).map Put.enc))]⟩ ?_
  refine Wp.cond2 (b := !r4) kr (fun hc => ?_) (fun hc => ?_)
  · have h := cond_t h hc
    refine Wp.srg [] [] ?_
    refine Runs.batch 1 kr ?_
    obtain ⟨r5, e_r5, h⟩ := bind_some h
    refine Runs.callK false 20 87 [] [.agg ((Disk.enc p0).map .t)] _ _ _ rfl rfl kr kr kr kr kr (spec_l9Copy_ok u p0 r5 e_r5) kr ?_
    refine Runs.alln ?_
    refine Wp.fg ⟨[(4, .obj 4 0), (5, .t (.bool false)), (6, .obj 6 0)], [(4, [.own 1310720, .own 1310721, .t (.int .i64 r5.fR.fGen), .t (.int .i64 r5.fR.fSlot), .t (.int .i64 r5.fR.fLen), .own 1310725]), (6, [.own 524288, .own 524289, .t (.int .i64 r1.fR.fGen), .t (.int .i64 r1.fR.fSlot), .t (.int .i64 r1.fR.fLen), .own 917504])], [(524288, .live 5 1 (r1.fA.map (eInt .u8))), (524289, .live 5 1 (r1.fB.map (eInt .u8))), (917504, .live 48 6 ((r1.fP ++ ([r2])).map Put.enc)), (1310720, .live 5 1 (r5.fA.map (eInt .u8))), (1310721, .live 5 1 (r5.fB.map (eInt .u8))), (1310725, .live 48 6 (r5.fP.map Put.enc))]⟩ ?_
    refine Wp.ret ?_
    refine thenR ?_
    obtain rfl := Option.some.inj h
    exact RetK [.agg [.own 1310720, .own 1310721, .t (.int .i64 r5.fR.fGen), .t (.int .i64 r5.fR.fSlot), .t (.int .i64 r5.fR.fLen), .own 1310725], .t (.bool false)] _ [] kr kr (.refl _) .nil
  have h := cond_f h hc
  refine Wp.skip (thenN ?_)
  refine Wp.srg [] [] ?_
  refine Runs.alln ?_
  refine Wp.fg ⟨[(4, .obj 4 0), (5, .t (.bool true))], [(4, [.own 524288, .own 524289, .t (.int .i64 r1.fR.fGen), .t (.int .i64 r1.fR.fSlot), .t (.int .i64 r1.fR.fLen), .own 917504])], [(524288, .live 5 1 (r1.fA.map (eInt .u8))), (524289, .live 5 1 (r1.fB.map (eInt .u8))), (917504, .live 48 6 ((r1.fP ++ ([r2])).map Put.enc))]⟩ ?_
  refine Wp.ret ?_
  obtain rfl := Option.some.inj h
  exact RetK [.agg [.own 524288, .own 524289, .t (.int .i64 r1.fR.fGen), .t (.int .i64 r1.fR.fSlot), .t (.int .i64 r1.fR.fLen), .own 917504], .t (.bool true)] _ [] kr kr (.refl _) .nil
theorem spec_PutRecord_ok (u : Nat) (p0 : Disk) (p1 : Record) (r : Disk × Bool) (h : spec_PutRecord u p0 p1 = some r) : CallOK Try.prog 27 [.agg [.t (.sl 1 (p0.fA.map (eInt .u8))), .t (.sl 1 (p0.fB.map (eInt .u8))), .t (.int .i64 p0.fR.fGen), .t (.int .i64 p0.fR.fSlot), .t (.int .i64 p0.fR.fLen), .t (.sl 6 (p0.fP.map Put.enc))], .agg [.t (.int .i64 p1.fGen), .t (.int .i64 p1.fSlot), .t (.int .i64 p1.fLen)]] (.tup [.agg [.ow 5 1 (r.1.fA.map (eInt .u8)), .ow 5 1 (r.1.fB.map (eInt .u8)), .t (.int .i64 r.1.fR.fGen), .t (.int .i64 r.1.fR.fSlot), .t (.int .i64 r.1.fR.fLen), .ow 48 6 (r.1.fP.map Put.enc)], .one (.t (.bool r.2))]) [] := by
  unfold spec_PutRecord at h
  refine CallOK.of_bodyK (fn := Try.f27) (m := true) [.agg ((Disk.enc p0).map .t), .agg ((Record.enc p1).map .t)] kr rfl kr kr kr kr kr ?_
  refine Wp.srg [] [] ?_
  refine Runs.alln ?_
  refine Wp.fg ⟨[(2, .obj 2 0), (3, .obj 3 0), (4, .obj 4 0), (5, .t (.bool false))], [(2, ((Disk.enc p0).map .t)), (3, ((Record.enc p1).map .t)), (4, [.nil, .nil, .t (.int .i64 0), .t (.int .i64 0), .t (.int .i64 0), .nil])], []⟩ ?_
  refine Wp.srg [] [] ?_
  refine Runs.batch 3 kr ?_
  obtain ⟨r1, e_r1, h⟩ := bind_some h
  refine Runs.callK false 9 88 [] [.agg ((Disk.enc p0).map .t), .agg [.t (.int .i64 2), .t (.int .i64 0), .nil, .t (.int .i64 p1.fGen), .t (.int .i64 p1.fSlot), .t (.int .i64 p1.fLen)]] [.agg ((Disk.enc p0).map .t), .agg [.t (.int .i64 2), .t (.int .i64 0), .t (.sl 0 []), .t (.int .i64 p1.fGen), .t (.int .i64 p1.fSlot), .t (.int .i64 p1.fLen)]] (.tup [.agg [.ow 5 1 (r1.1.fA.map (eInt .u8)), .ow 5 1 (r1.1.fB.map (eInt .u8)), .t (.int .i64 r1.1.fR.fGen), .t (.int .i64 r1.1.fR.fSlot), .t (.int .i64 r1.1.fR.fLen), .ow 48 6 (r1.1.fP.map Put.enc)], .one (.t (.bool r1.2))]) [] rfl rfl kr kr kr kr kr ((spec_l9Add_ok u p0 ((Put.mk 2 0 ([]) p1)) r1 e_r1).le (.cons (.refl _) (.cons (.agg (.cons (.refl _) (.cons (.refl _) (.cons (.sz _ _) (.cons (.refl _) (.cons (.refl _) (.cons (.refl _) .nil))))))) .nil))) kr ?_
  refine Runs.alln ?_
  refine Wp.fg ⟨[(4, .obj 4 0), (5, .t (.bool r1.2))], [(4, [.own 589824, .own 589825, .t (.int .i64 r1.1.fR.fGen), .t (.int .i64 r1.1.fR.fSlot), .t (.int .i64 r1.1.fR.fLen), .own 589829])], [(589824, .live 5 1 (r1.1.fA.map (eInt .u8))), (589825, .live 5 1 (r1.1.fB.map (eInt .u8))), (589829, .live 48 6 (r1.1.fP.map Put.enc))]⟩ ?_
  refine Wp.ret ?_
  obtain rfl := Option.some.inj h
  exact RetK [.agg [.own 589824, .own 589825, .t (.int .i64 r1.1.fR.fGen), .t (.int .i64 r1.1.fR.fSlot), .t (.int .i64 r1.1.fR.fLen), .own 589829], .t (.bool r1.2)] _ [] kr kr (.refl _) .nil
theorem spec_DrawDiskNew_ok (u : Nat) (p0 : List Int) (r : Int × (List Int)) (h : spec_DrawDiskNew u p0 = some r) : CallOK Try.prog 28 [.one (.t (.sl 1 (p0.map (eInt .u8))))] (.tup [.one (.t (.int .i64 r.1)), .one (.ow 5 1 (r.2.map (eInt .u8)))]) [] := by
  unfold spec_DrawDiskNew at h
  refine CallOK.of_bodyK (fn := Try.f28) (m := true) [.t (.sl 1 (p0.map (eInt .u8)))] kr rfl kr kr kr kr kr ?_
  refine Wp.srg [] [] ?_
  refine Runs.alln ?_
  refine Wp.fg ⟨[(0, .t (.sl 1 (p0.map (eInt .u8)))), (2, .t (.int .i64 0)), (3, .nil)], [], []⟩ ?_
  refine Wp.srg [] [] ?_
  refine Runs.batch 1 kr ?_
  obtain ⟨r1, e_r1, h⟩ := bind_some h
  refine Runs.callK false 7 75 [] [.t (.sl 1 (p0.map (eInt .u8)))] _ _ _ rfl rfl kr kr kr kr kr (spec_l1New_ok u p0 r1 e_r1) kr ?_
  refine Runs.alln ?_
  refine Wp.fg ⟨[(2, .t (.int .i64 0)), (3, .nil), (4, .obj 7 0)], [(7, ((l1Cur.enc r1).map .t))], []⟩ ?_
  refine Wp.srg [] [] ?_
  refine Runs.batch 1 kr ?_
  obtain ⟨r2, e_r2, h⟩ := bind_some h
  refine Runs.callK false 9 82 [] [.obj 7 0, .t (.int .i64 9)] _ _ _ rfl rfl kr kr kr kr kr (spec_l3Bytes_ok u r1 9 r2 e_r2) kr ?_
  refine Runs.alln ?_
  refine Wp.fg ⟨[(2, .t (.int .i64 0)), (3, .nil), (4, .obj 7 0), (5, .own 589824)], [(7, ((l1Cur.enc r2.2).map .t))], [(589824, .live 5 1 (r2.1.map (eInt .u8)))]⟩ ?_
  refine Wp.seqJ (α := (List Int) × (List Int) × Int × Int) (fun a => ⟨[(2, .t (.int .i64 0)), (3, .nil), (4, .obj 7 0), (5, .own 327681)], [(7, [.t (.sl 1 (a.2.1.map (eInt .u8))), .t (.int .i64 a.2.2.1), .t (.int .i64 a.2.2.2)])], [(327681, .live 5 1 (a.1.map (eInt .u8)))]⟩) (fun a => spec_DrawDiskNew_j1 u a.1 a.2.1 a.2.2.1 a.2.2.2 = some r) ?_ ?_
  · rintro ⟨x5, x6, x7, x8⟩ h
    change spec_DrawDiskNew_j1 u x5 x6 x7 x8 = some r at h
    unfold spec_DrawDiskNew_j1 at h
    refine Wp.srg [] [] ?_
    refine Runs.batch 2 kr ?_
    obtain ⟨r9, e_r9, h⟩ := bind_some h
    refine Runs.callK false 18 78 [] [.obj 7 0, .own 1114112] _ _ _ rfl rfl kr kr kr kr kr (spec_l1Int_ok u ((l1Cur.mk x6 x7 x8)) ([0, 1, 1000000, 1000001, -1]) r9 e_r9) kr ?_
    refine Runs.alln ?_
    refine Wp.fg ⟨[(2, .t (.int .i64 r9.1)), (3, .own 327681)], [], [(327681, .live 5 1 (x5.map (eInt .u8)))]⟩ ?_
    refine Wp.ret ?_
    obtain rfl := Option.some.inj h
    exact RetK [.t (.int .i64 r9.1), .own 327681] _ [] kr kr (.refl _) .nil
  · refine Wp.srg [] [] ?_
    refine Runs.batch 1 kr ?_
    obtain ⟨r3, e_r3, h⟩ := bind_some h
    refine Runs.callK false 11 80 [] [.obj 7 0, .t (.int .i64 12)] _ _ _ rfl rfl kr kr kr kr kr (spec_l1Once_ok u r2.2 12 r3 e_r3) kr ?_
    refine Runs.done ?_
    refine thenN ?_
    refine Wp.fg ⟨[(2, .t (.int .i64 0)), (3, .nil), (4, .obj 7 0), (5, .own 589824), (11, .t (.bool r3.1))], [(7, ((l1Cur.enc r3.2).map .t))], [(589824, .live 5 1 (r2.1.map (eInt .u8)))]⟩ ?_
    refine Wp.cond2 (b := r3.1) kr (fun hc => ?_) (fun hc => ?_)
    · have h := cond_t h hc
      refine Wp.rg [] [] ?_
      refine Runs.batch 1 kr ?_
      obtain ⟨r4, e_r4, h⟩ := bind_some h
      refine Runs.callK false 13 81 [] [.obj 7 0, .t (.int .i64 2)] _ _ _ rfl rfl kr kr kr kr kr (spec_l1Below_ok u r3.2 2 r4 e_r4) kr ?_
      refine Runs.batch 1 kr ?_
      obtain ⟨_, e_5, h⟩ := bind_some h
      obtain ⟨_, e_6, h⟩ := bind_some h
      refine Runs.mkS (eInt .u8) (0 : Int) 15 5 1 1 (bAdd .i64 240 r4.1) (bAdd .i64 240 r4.1) rfl rfl kr kr kr kr kr kr (chk_some e_5) (of_decide_eq_true (chk_some e_6)) kr ?_
      refine Runs.alln ?_
      exact ⟨(List.replicate (Int.toNat (bAdd .i64 240 r4.1)) (0 : Int), r4.2.fB, r4.2.fI, r4.2.fH), h, Le.of (mo := []) (mr := [(327681, 983040)]) kr kr kr kr⟩
    have h := cond_f h hc
    refine Wp.skip (thenN ?_)
    exact ⟨(r2.1, r3.2.fB, r3.2.fI, r3.2.fH), h, Le.of (mo := []) (mr := [(327681, 589824)]) kr kr kr kr⟩
theorem impl_SetOk_ok (u : Nat) (p0 : Int) (r : Bool) (h : impl_SetOk u p0 = some r) : CallOK Try.prog 140 [.one (.t (.int .i64 p0))] (.one (.t (.bool r))) [] := by
  unfold impl_SetOk at h
  refine CallOK.of_bodyK (fn := Try.f140) (m := false) [.t (.int .i64 p0)] kr rfl kr kr kr kr kr ?_
  refine Wp.srg [] [] ?_
  refine Runs.alln ?_
  refine Wp.fg ⟨[(0, .t (.int .i64 p0)), (2, .t (.bool false))], [], []⟩ ?_
  refine Wp.srg [] [] ?_
  refine Runs.batch 1 kr ?_
  obtain ⟨r1, e_r1, h⟩ := bind_some h
  refine Runs.callK false 4 106 [] [.t (.int .i64 p0), .t (.int .i64 0), .t (.int .i64 1099511627775)] _ _ _ rfl rfl kr kr kr kr kr (impl_within_ok u p0 0 1099511627775 r1 e_r1) kr ?_
  refine Runs.alln ?_
  refine Wp.fg ⟨[(2, .t (.bool r1))], [], []⟩ ?_
  refine Wp.ret ?_
  obtain rfl := Option.some.inj h
  exact RetK [.t (.bool r1)] _ [] kr kr (.refl _) .nil
theorem impl_isPlace_ok (u : Nat) (p0 : Int) (r : Bool) (h : impl_isPlace u p0 = some r) : CallOK Try.prog 141 [.one (.t (.int .i64 p0))] (.one (.t (.bool r))) [] := by
  unfold impl_isPlace at h
  refine CallOK.of_bodyK (fn := Try.f141) (m := false) [.t (.int .i64 p0)] kr rfl kr kr kr kr kr ?_
  refine Wp.srg [] [] ?_
  refine Runs.alln ?_
  refine Wp.fg ⟨[(0, .t (.int .i64 p0)), (2, .t (.bool false))], [], []⟩ ?_
  refine Wp.srg [] [] ?_
  refine Runs.batch 1 kr ?_
  obtain ⟨r1, e_r1, h⟩ := bind_some h
  refine Runs.callK false 4 106 [] [.t (.int .i64 p0), .t (.int .i64 0), .t (.int .i64 39)] _ _ _ rfl rfl kr kr kr kr kr (impl_within_ok u p0 0 39 r1 e_r1) kr ?_
  refine Runs.alln ?_
  refine Wp.fg ⟨[(2, .t (.bool r1))], [], []⟩ ?_
  refine Wp.ret ?_
  obtain rfl := Option.some.inj h
  exact RetK [.t (.bool r1)] _ [] kr kr (.refl _) .nil
theorem impl_InSet_ok (u : Nat) (p0 : Int) (p1 : Int) (r : Bool) (h : impl_InSet u p0 p1 = some r) : CallOK Try.prog 91 [.one (.t (.int .i64 p0)), .one (.t (.int .i64 p1))] (.one (.t (.bool r))) [] := by
  unfold impl_InSet at h
  refine CallOK.of_bodyK (fn := Try.f91) (m := false) [.t (.int .i64 p0), .t (.int .i64 p1)] kr rfl kr kr kr kr kr ?_
  refine Wp.srg [] [] ?_
  refine Runs.alln ?_
  refine Wp.fg ⟨[(0, .t (.int .i64 p0)), (1, .t (.int .i64 p1)), (4, .t (.bool false))], [], []⟩ ?_
  refine Wp.srg [] [] ?_
  refine Runs.batch 1 kr ?_
  obtain ⟨r1, e_r1, h⟩ := bind_some h
  refine Runs.callK false 6 140 [] [.t (.int .i64 p0)] _ _ _ rfl rfl kr kr kr kr kr (impl_SetOk_ok u p0 r1 e_r1) kr ?_
  refine Runs.batch 1 kr ?_
  rcases tf (r1) with hc | hc
  · have h := cond_t h hc
    refine Runs.known 7 (v := true) kr hc ?_
    refine Runs.batch 1 kr ?_
    obtain ⟨r2, e_r2, h⟩ := bind_some h
    refine Runs.callK false 9 141 [] [.t (.int .i64 p1)] _ _ _ rfl rfl kr kr kr kr kr (impl_isPlace_ok u p1 r2 e_r2) kr ?_
    refine Runs.batch 2 kr ?_
    rcases tf (r2) with hc | hc
    · have h := cond_t h hc
      refine Runs.known 11 (v := true) kr hc ?_
      refine Runs.batch 2 kr ?_
      obtain ⟨_, e_3, h⟩ := bind_some h
      refine Runs.num .shr (.int .i64 p0) (.int .i64 p1) (.int .i64 (bShr .i64 p0 p1)) rfl kr kr kr kr (bin_shr _ _ _ _ _ (chk_some e_3)) ?_
      refine Runs.alln ?_
      refine Wp.fg ⟨[(4, .t (.bool ((bAnd .i64 (bShr .i64 p0 p1) 1) == 1)))], [], []⟩ ?_
      refine Wp.ret ?_
      obtain rfl := Option.some.inj h
      exact RetK [.t (.bool ((bAnd .i64 (bShr .i64 p0 p1) 1) == 1))] _ [] kr kr (.refl _) .nil
    have h := cond_f h hc
    refine Runs.known 11 (v := false) kr hc ?_
    refine Runs.alln ?_
    refine Wp.fg ⟨[(4, .t (.bool false))], [], []⟩ ?_
    refine Wp.ret ?_
    obtain rfl := Option.some.inj h
    exact RetK [.t (.bool false)] _ [] kr kr (.refl _) .nil
  have h := cond_f h hc
  refine Runs.known 7 (v := false) kr hc ?_
  refine Runs.alln ?_
  refine Wp.fg ⟨[(4, .t (.bool false))], [], []⟩ ?_
  refine Wp.ret ?_
  obtain rfl := Option.some.inj h
  exact RetK [.t (.bool false)] _ [] kr kr (.refl _) .nil
theorem impl_Fall_1_ok (u : Nat) (p0 : Int) (q0 : Int) (r : Bool) (h : impl_Fall_1 u p0 q0 = some r) : CallOK Try.prog 90 [.one (.t (.int .i64 p0)), .fptr [.int .i64 q0]] (.one (.t (.bool r))) [] := by
  unfold impl_Fall_1 at h
  refine CallOK.of_bodyK (fn := Try.f90) (m := false) [.t (.int .i64 p0), .fadr [.int .i64 q0]] kr rfl kr kr kr kr kr ?_
  refine Wp.srg [] [] ?_
  refine Runs.alln ?_
  refine Wp.fg ⟨[(0, .t (.int .i64 p0)), (1, .fadr [.int .i64 q0]), (3, .t (.bool false))], [], []⟩ ?_
  refine Wp.srg [] [] ?_
  refine Runs.batch 2 kr ?_
  obtain ⟨r1, e_r1, h⟩ := bind_some h
  refine Runs.callK false 6 91 [] [.t (.int .i64 q0), .t (.int .i64 p0)] _ _ _ rfl rfl kr kr kr kr kr (impl_InSet_ok u q0 p0 r1 e_r1) kr ?_
  refine Runs.alln ?_
  refine Wp.fg ⟨[(3, .t (.bool r1))], [], []⟩ ?_
  refine Wp.ret ?_
  obtain rfl := Option.some.inj h
  exact RetK [.t (.bool r1)] _ [] kr kr (.refl _) .nil
theorem impl_Disk__slot__own_p0_fA_p0_fB_p0_fP_ok (u : Nat) (p0 : Disk) (p1 : Int) (r : Nat × Disk) (h : impl_Disk__slot__own_p0_fA_p0_fB_p0_fP u p0 p1 = some r) : IntoOK Try.prog 101 [.ptr [.ow 5 1 (p0.fA.map (eInt .u8)), .ow 5 1 (p0.fB.map (eInt .u8)), .t (.int .i64 p0.fR.fGen), .t (.int .i64 p0.fR.fSlot), .t (.int .i64 p0.fR.fLen), .ow 48 6 (p0.fP.map Put.enc)], .one (.t (.int .i64 p1))] r.1 [[.ow 5 1 (r.2.fA.map (eInt .u8)), .ow 5 1 (r.2.fB.map (eInt .u8)), .t (.int .i64 r.2.fR.fGen), .t (.int .i64 r.2.fR.fSlot), .t (.int .i64 r.2.fR.fLen), .ow 48 6 (r.2.fP.map Put.enc)]] := by
  unfold impl_Disk__slot__own_p0_fA_p0_fB_p0_fP at h
  refine IntoOK.of_bodyK (fn := Try.f101) [.obj 900 0, .t (.int .i64 p1)] kr rfl kr kr kr kr kr rfl ?_
  refine Wp.srg [] [] ?_
  refine Runs.alln ?_
  refine Wp.fg ⟨[(0, .obj 900 0), (1, .t (.int .i64 p1))], [(900, [.own 58982400, .own 58982401, .t (.int .i64 p0.fR.fGen), .t (.int .i64 p0.fR.fSlot), .t (.int .i64 p0.fR.fLen), .own 58982405])], [(58982400, .live 5 1 (p0.fA.map (eInt .u8))), (58982401, .live 5 1 (p0.fB.map (eInt .u8))), (58982405, .live 48 6 (p0.fP.map Put.enc))]⟩ ?_
  refine Wp.seq ?_
  refine Wp.srg [] [] ?_
  refine Runs.alln ?_
  refine Wp.fg ⟨[(0, .obj 900 0), (6, .t (.bool (p1 == 0)))], [(900, [.own 58982400, .own 58982401, .t (.int .i64 p0.fR.fGen), .t (.int .i64 p0.fR.fSlot), .t (.int .i64 p0.fR.fLen), .own 58982405])], [(58982400, .live 5 1 (p0.fA.map (eInt .u8))), (58982401, .live 5 1 (p0.fB.map (eInt .u8))), (58982405, .live 48 6 (p0.fP.map Put.enc))]⟩ ?_
  refine Wp.cond2 (b := p1 == 0) kr (fun hc => ?_) (fun hc => ?_)
  · have h := cond_t h hc
    refine Wp.srg [] [] ?_
    refine Runs.alln ?_
    refine Wp.fg ⟨[(0, .obj 900 0), (4, .obj 900 0)], [(900, [.own 58982400, .own 58982401, .t (.int .i64 p0.fR.fGen), .t (.int .i64 p0.fR.fSlot), .t (.int .i64 p0.fR.fLen), .own 58982405])], [(58982400, .live 5 1 (p0.fA.map (eInt .u8))), (58982401, .live 5 1 (p0.fB.map (eInt .u8))), (58982405, .live 48 6 (p0.fP.map Put.enc))]⟩ ?_
    refine Wp.ret ?_
    refine thenR ?_
    obtain rfl := Option.some.inj h
    exact RetIK [[.ow 5 1 (p0.fA.map (eInt .u8)), .ow 5 1 (p0.fB.map (eInt .u8)), .t (.int .i64 p0.fR.fGen), .t (.int .i64 p0.fR.fSlot), .t (.int .i64 p0.fR.fLen), .ow 48 6 (p0.fP.map Put.enc)]] kr kr (.cons ((.cons (.refl _) (.cons (.refl _) (.cons (.refl _) (.cons (.refl _) (.cons (.refl _) (.cons (.refl _) .nil))))))) .nil)
  have h := cond_f h hc
  refine Wp.skip (thenN ?_)
  refine Wp.srg [] [] ?_
  refine Runs.alln ?_
  refine Wp.fg ⟨[(4, .obj 900 1)], [(900, [.own 58982400, .own 58982401, .t (.int .i64 p0.fR.fGen), .t (.int .i64 p0.fR.fSlot), .t (.int .i64 p0.fR.fLen), .own 58982405])], [(58982400, .live 5 1 (p0.fA.map (eInt .u8))), (58982401, .live 5 1 (p0.fB.map (eInt .u8))), (58982405, .live 48 6 (p0.fP.map Put.enc))]⟩ ?_
  refine Wp.ret ?_
  obtain rfl := Option.some.inj h
  exact RetIK [[.ow 5 1 (p0.fA.map (eInt .u8)), .ow 5 1 (p0.fB.map (eInt .u8)), .t (.int .i64 p0.fR.fGen), .t (.int .i64 p0.fR.fSlot), .t (.int .i64 p0.fR.fLen), .ow 48 6 (p0.fP.map Put.enc)]] kr kr (.cons ((.cons (.refl _) (.cons (.refl _) (.cons (.refl _) (.cons (.refl _) (.cons (.refl _) (.cons (.refl _) .nil))))))) .nil)
end Go.Tm
