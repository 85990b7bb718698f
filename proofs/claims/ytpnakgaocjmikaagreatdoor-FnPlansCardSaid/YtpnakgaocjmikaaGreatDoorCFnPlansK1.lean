/- The functions as they are translated do what the pure functions say (printed). -/
import Derived.Test.YtpnakgaocjmikaaGreatDoorCFnPlansD
import Derived.Test.YtpnakgaocjmikaaGreatDoorTm45
import Derived.Shelf.Strings.OnBuilder
import Derived.Test.YtpnakgaocjmikaaGreatDoorProg
set_option maxRecDepth 100000
set_option maxHeartbeats 20000000
set_option linter.unusedVariables false
set_option linter.unusedSimpArgs false
namespace Go.Tm
open Go.Proofs
theorem laws_big_ok (u : Nat) (p0 : List Int) (r : Bool) (h : laws_big u p0 = some r) : CallOK Tryz.prog 4 [.one (.t (.sl 1 (p0.map (eInt .u8))))] (.one (.t (.bool r))) [] := by
  unfold laws_big at h
  refine CallOK.of_bodyK (fn := Tryz.f4) (m := false) [.t (.sl 1 (p0.map (eInt .u8)))] kr rfl kr kr kr kr kr ?_
  refine Wp.srg [] [] ?_
  refine Runs.alln ?_
  refine Wp.fg ⟨[(0, .t (.sl 1 (p0.map (eInt .u8)))), (2, .t (.bool false))], [], []⟩ ?_
  refine Wp.srg [] [] ?_
  refine Runs.batch 1 kr ?_
  refine Runs.lenT (y := .t (.sl 1 (p0.map (eInt .u8)))) (e := 5) (eInt .u8) p0 1 rfl rfl rfl kr kr kr kr kr ?_
  refine Runs.alln ?_
  refine Wp.fg ⟨[(2, .t (.bool (decide (((p0.length : Int)) > 1048576))))], [], []⟩ ?_
  refine Wp.ret ?_
  obtain rfl := Option.some.inj h
  exact RetK [.t (.bool (decide (((p0.length : Int)) > 1048576)))] _ [] kr kr (.refl _) .nil
theorem spec_l1New_ok (u : Nat) (p0 : List Int) (r : l1Cur) (h : spec_l1New u p0 = some r) : CallOK Tryz.prog 23 [.one (.t (.sl 1 (p0.map (eInt .u8))))] (.ptr [.t (.sl 1 (r.fB.map (eInt .u8))), .t (.int .i64 r.fI), .t (.int .i64 r.fH)]) [] := by
  unfold spec_l1New at h
  refine CallOK.of_bodyK (fn := Tryz.f23) (m := false) [.t (.sl 1 (p0.map (eInt .u8)))] kr rfl kr kr kr kr kr ?_
  refine Wp.srg [] [] ?_
  refine Runs.alln ?_
  refine Wp.fg ⟨[(0, .t (.sl 1 (p0.map (eInt .u8))))], [], []⟩ ?_
  refine Wp.srg [] [] ?_
  refine Runs.batch 1 kr ?_
  refine Runs.lenT (y := .t (.sl 1 (p0.map (eInt .u8)))) (e := 5) (eInt .u8) p0 1 rfl rfl rfl kr kr kr kr kr ?_
  refine Runs.alln ?_
  refine Wp.fg ⟨[(0, .t (.sl 1 (p0.map (eInt .u8)))), (3, .t (.int .i64 (bAdd .i64 162416 ((p0.length : Int)))))], [], []⟩ ?_
  refine Wp.seqJ (α := (List Int) × Int) (fun a => ⟨[(0, .t (.sl 1 (a.1.map (eInt .u8)))), (3, .t (.int .i64 a.2))], [], []⟩) (fun a => spec_l1New_j1 u a.1 a.2 = some r) ?_ ?_
  · rintro ⟨p0, x9⟩ h
    change spec_l1New_j1 u p0 x9 = some r at h
    unfold spec_l1New_j1 at h
    refine Wp.srg [] [] ?_
    refine Runs.alln ?_
    refine Wp.fg ⟨[(2, .obj 31 0)], [(31, [.t (.sl 1 (p0.map (eInt .u8))), .t (.int .i64 0), .t (.int .i64 x9)])], []⟩ ?_
    refine Wp.ret ?_
    obtain rfl := Option.some.inj h
    exact RetK [.obj 31 0] _ [] kr kr (.refl _) .nil
  · refine Wp.srg [] [] ?_
    refine Runs.alln ?_
    refine Wp.fg ⟨[(0, .t (.sl 1 (p0.map (eInt .u8)))), (3, .t (.int .i64 (bAdd .i64 162416 ((p0.length : Int))))), (4, .t (.int .i64 0))], [], []⟩ ?_
    refine Wp.block ?_
    refine Wp.loopF (α := (List Int) × Int × Int) (fun a => ⟨[(0, .t (.sl 1 (a.1.map (eInt .u8)))), (3, .t (.int .i64 a.2.1)), (4, .t (.int .i64 a.2.2))], [], []⟩) (fun k_spec_l1New_l2 a => spec_l1New_l2 u k_spec_l1New_l2 a.1 a.2.1 a.2.2 = some r) ?_ ?_ u (p0, bAdd .i64 162416 ((p0.length : Int)), 0) h (Le.of (mo := []) (mr := []) kr kr kr kr)
    · intro a h; unfold spec_l1New_l2 at h; cases h
    · rintro k_spec_l1New_l2 ⟨p0, x3, x4⟩ h
      change spec_l1New_l2 u (k_spec_l1New_l2 + 1) p0 x3 x4 = some r at h
      rw [spec_l1New_l2] at h
      refine Wp.seq ?_
      refine Wp.seqJ (α := (List Int) × Int × Int × Bool) (fun a => ⟨[(0, .t (.sl 1 (a.1.map (eInt .u8)))), (3, .t (.int .i64 a.2.1)), (4, .t (.int .i64 a.2.2.1)), (15, .t (.bool a.2.2.2))], [], []⟩) (fun a => spec_l1New_j3 u (fun z0 z1 z2 => spec_l1New_l2 u k_spec_l1New_l2 z0 z1 z2) a.1 a.2.1 a.2.2.1 a.2.2.2 = some r) ?_ ?_
      · rintro ⟨p0, x3, x4, x7⟩ h
        change spec_l1New_j3 u (fun z0 z1 z2 => spec_l1New_l2 u k_spec_l1New_l2 z0 z1 z2) p0 x3 x4 x7 = some r at h
        unfold spec_l1New_j3 at h
        refine Wp.cond2 (b := x7) kr (fun hc => ?_) (fun hc => ?_)
        · have h := cond_t h hc
          refine Wp.skip (thenN ?_)
          refine Wp.seq ?_
          refine Wp.block ?_
          refine Wp.rg [] [] ?_
          refine Runs.batch 4 kr ?_
          obtain ⟨y8, e_y8, h⟩ := bind_some h
          refine Runs.idxT (e := 5) (kk := .i64) (sz := 1) (eInt .u8) p0 x4 rfl kr kr kr kr kr kr e_y8 ?_
          refine Runs.all kr ?_
          refine blkN ?_
          refine thenN ?_
          refine Wp.rg [] [] ?_
          refine Runs.alln ?_
          exact ⟨(p0, bAnd .i64 (bAdd .i64 (bAdd .i64 (bMul .i64 x3 137) (IntKind.wrap .i64 y8)) 11) 1073741823, bAdd .i64 x4 1), h, Le.of (mo := []) (mr := []) kr kr kr kr⟩
        have h := cond_f h hc
        refine Wp.exit ?_
        refine thenE ?_
        refine thenE ?_
        refine blkE ?_
        refine thenN ?_
        exact ⟨(p0, x3), h, Le.of (mo := []) (mr := []) kr kr kr kr⟩
      · refine Wp.rg [] [] ?_
        refine Runs.batch 2 kr ?_
        refine Runs.lenT (y := .t (.sl 1 (p0.map (eInt .u8)))) (e := 5) (eInt .u8) p0 1 rfl rfl rfl kr kr kr kr kr ?_
        refine Runs.batch 2 kr ?_
        rcases tf (decide (x4 < ((p0.length : Int)))) with hc | hc
        · have h := cond_t h hc
          refine Runs.known 12 (v := true) kr hc ?_
          refine Runs.alln ?_
          exact ⟨(p0, x3, x4, decide (x4 < 4000)), h, Le.of (mo := []) (mr := []) kr kr kr kr⟩
        have h := cond_f h hc
        refine Runs.known 12 (v := false) kr hc ?_
        refine Runs.alln ?_
        exact ⟨(p0, x3, x4, false), h, Le.of (mo := []) (mr := []) kr kr kr kr⟩
theorem spec_l1Byte_ok (u : Nat) (p0 : l1Cur) (r : Int × l1Cur) (h : spec_l1Byte u p0 = some r) : CallOK Tryz.prog 63 [.ptr [.t (.sl 1 (p0.fB.map (eInt .u8))), .t (.int .i64 p0.fI), .t (.int .i64 p0.fH)]] (.one (.t (.int .i64 r.1))) [[.t (.sl 1 (r.2.fB.map (eInt .u8))), .t (.int .i64 r.2.fI), .t (.int .i64 r.2.fH)]] := by
  unfold spec_l1Byte at h
  refine CallOK.of_bodyK (fn := Tryz.f63) (m := false) [.obj 900 0] kr rfl kr kr kr kr kr ?_
  refine Wp.srg [] [] ?_
  refine Runs.alln ?_
  refine Wp.fg ⟨[(0, .obj 900 0), (2, .t (.int .i64 0))], [(900, ((l1Cur.enc p0).map .t))], []⟩ ?_
  refine Wp.srg [] [] ?_
  refine Runs.alln ?_
  refine Wp.fg ⟨[(0, .obj 900 0), (2, .t (.int .i64 0))], [(900, [.t (.sl 1 (p0.fB.map (eInt .u8))), .t (.int .i64 p0.fI), .t (.int .i64 (bAdd .i64 (bMul .i64 p0.fH 6364136223846793005) 1442695040888963407))])], []⟩ ?_
  refine Wp.seq ?_
  refine Wp.regionA (pOf []) (rhoOf [(0, .obj 900), (13, .obj 900), (14, .obj 900), (15, .obj 900), (16, .frz), (17, .frz), (18, .obj 900), (19, .obj 900), (20, .obj 900), (21, .frz), (22, .frz), (23, .frz), (24, .frz)]) kr kr ?_
  refine Runs.alln ?_
  refine Wp.fg ⟨[(0, .obj 900 0), (2, .t (.int .i64 0)), (3, .t (.int .i64 (bAnd .i64 (bXor .i64 (bShr .i64 (bAdd .i64 (bMul .i64 p0.fH 6364136223846793005) 1442695040888963407) 33) (bShr .i64 (bAdd .i64 (bMul .i64 p0.fH 6364136223846793005) 1442695040888963407) 47)) 255)))], [(900, [.t (.sl 1 (p0.fB.map (eInt .u8))), .t (.int .i64 p0.fI), .t (.int .i64 (bAdd .i64 (bMul .i64 p0.fH 6364136223846793005) 1442695040888963407))])], []⟩ ?_
  refine Wp.seqJ (α := Int × l1Cur × Int) (fun a => ⟨[(2, .t (.int .i64 0)), (3, .t (.int .i64 a.1))], [(900, [.t (.sl 1 (a.2.1.fB.map (eInt .u8))), .t (.int .i64 a.2.2), .t (.int .i64 (bAdd .i64 (bMul .i64 a.2.1.fH 6364136223846793005) 1442695040888963407))])], []⟩) (fun a => spec_l1Byte_j1 u a.1 a.2.1 a.2.2 = some r) ?_ ?_
  · rintro ⟨x2, p0, x3⟩ h
    change spec_l1Byte_j1 u x2 p0 x3 = some r at h
    unfold spec_l1Byte_j1 at h
    refine Wp.srg [] [] ?_
    refine Runs.alln ?_
    refine Wp.fg ⟨[(2, .t (.int .i64 x2))], [(900, [.t (.sl 1 (p0.fB.map (eInt .u8))), .t (.int .i64 x3), .t (.int .i64 (bAdd .i64 (bMul .i64 p0.fH 6364136223846793005) 1442695040888963407))])], []⟩ ?_
    refine Wp.ret ?_
    obtain rfl := Option.some.inj h
    exact RetK [.t (.int .i64 x2)] _ [[.t (.sl 1 (p0.fB.map (eInt .u8))), .t (.int .i64 x3), .t (.int .i64 (bAdd .i64 (bMul .i64 p0.fH 6364136223846793005) 1442695040888963407))]] kr kr (.refl _) (.cons ((.cons (.refl _) (.cons (.refl _) (.cons (.refl _) .nil)))) .nil)
  · refine Wp.seq ?_
    refine Wp.regionA (pOf []) (rhoOf [(0, .obj 900), (25, .obj 900), (26, .obj 900), (27, .obj 900), (28, .frz), (29, .obj 900), (30, .obj 900), (31, .obj 900), (32, .frz), (33, .frz)]) kr kr ?_
    refine Runs.batch 8 kr ?_
    refine Runs.lenT (y := .t (.sl 1 (p0.fB.map (eInt .u8)))) (e := 5) (eInt .u8) p0.fB 1 rfl rfl rfl kr kr kr kr kr ?_
    refine Runs.alln ?_
    refine Wp.fg ⟨[(0, .obj 900 0), (2, .t (.int .i64 0)), (3, .t (.int .i64 (bAnd .i64 (bXor .i64 (bShr .i64 (bAdd .i64 (bMul .i64 p0.fH 6364136223846793005) 1442695040888963407) 33) (bShr .i64 (bAdd .i64 (bMul .i64 p0.fH 6364136223846793005) 1442695040888963407) 47)) 255))), (34, .t (.bool (decide (p0.fI < ((p0.fB.length : Int))))))], [(900, [.t (.sl 1 (p0.fB.map (eInt .u8))), .t (.int .i64 p0.fI), .t (.int .i64 (bAdd .i64 (bMul .i64 p0.fH 6364136223846793005) 1442695040888963407))])], []⟩ ?_
    refine Wp.cond2 (b := decide (p0.fI < ((p0.fB.length : Int)))) kr (fun hc => ?_) (fun hc => ?_)
    · have h := cond_t h hc
      refine Wp.seq ?_
      refine Wp.regionA (pOf []) (rhoOf [(0, .obj 900), (3, .frz), (35, .frz), (36, .obj 900), (37, .obj 900), (38, .obj 900), (39, .frz), (40, .obj 900), (41, .obj 900), (42, .obj 900), (43, .frz), (44, .frz), (45, .frz), (46, .frz), (47, .frz), (48, .frz)]) kr kr ?_
      refine Runs.batch 9 kr ?_
      obtain ⟨y1, e_y1, h⟩ := bind_some h
      refine Runs.idxT (e := 5) (kk := .i64) (sz := 1) (eInt .u8) p0.fB p0.fI rfl kr kr kr kr kr kr e_y1 ?_
      refine Runs.alln ?_
      refine Wp.fg ⟨[(0, .obj 900 0), (2, .t (.int .i64 0)), (3, .t (.int .i64 (bAnd .i64 (bAdd .i64 (bAnd .i64 (bXor .i64 (bShr .i64 (bAdd .i64 (bMul .i64 p0.fH 6364136223846793005) 1442695040888963407) 33) (bShr .i64 (bAdd .i64 (bMul .i64 p0.fH 6364136223846793005) 1442695040888963407) 47)) 255) (IntKind.wrap .i64 y1)) 255)))], [(900, [.t (.sl 1 (p0.fB.map (eInt .u8))), .t (.int .i64 p0.fI), .t (.int .i64 (bAdd .i64 (bMul .i64 p0.fH 6364136223846793005) 1442695040888963407))])], []⟩ ?_
      refine Wp.rg [] [] ?_
      refine Runs.alln ?_
      exact ⟨(bAnd .i64 (bAdd .i64 (bAnd .i64 (bXor .i64 (bShr .i64 (bAdd .i64 (bMul .i64 p0.fH 6364136223846793005) 1442695040888963407) 33) (bShr .i64 (bAdd .i64 (bMul .i64 p0.fH 6364136223846793005) 1442695040888963407) 47)) 255) (IntKind.wrap .i64 y1)) 255, p0, bAdd .i64 p0.fI 1), h, Le.of (mo := []) (mr := []) kr kr kr kr⟩
    have h := cond_f h hc
    refine Wp.skip (thenN ?_)
    exact ⟨(bAnd .i64 (bXor .i64 (bShr .i64 (bAdd .i64 (bMul .i64 p0.fH 6364136223846793005) 1442695040888963407) 33) (bShr .i64 (bAdd .i64 (bMul .i64 p0.fH 6364136223846793005) 1442695040888963407) 47)) 255, p0, p0.fI), h, Le.of (mo := []) (mr := []) kr kr kr kr⟩
theorem spec_l1Below_ok (u : Nat) (p0 : l1Cur) (p1 : Int) (r : Int × l1Cur) (h : spec_l1Below u p0 p1 = some r) : CallOK Tryz.prog 40 [.ptr [.t (.sl 1 (p0.fB.map (eInt .u8))), .t (.int .i64 p0.fI), .t (.int .i64 p0.fH)], .one (.t (.int .i64 p1))] (.one (.t (.int .i64 r.1))) [[.t (.sl 1 (r.2.fB.map (eInt .u8))), .t (.int .i64 r.2.fI), .t (.int .i64 r.2.fH)]] := by
  unfold spec_l1Below at h
  refine CallOK.of_bodyK (fn := Tryz.f40) (m := false) [.obj 900 0, .t (.int .i64 p1)] kr rfl kr kr kr kr kr ?_
  refine Wp.srg [] [] ?_
  refine Runs.alln ?_
  refine Wp.fg ⟨[(0, .obj 900 0), (1, .t (.int .i64 p1)), (4, .t (.int .i64 0))], [(900, ((l1Cur.enc p0).map .t))], []⟩ ?_
  refine Wp.seq ?_
  refine Wp.srg [] [] ?_
  refine Runs.alln ?_
  refine Wp.fg ⟨[(0, .obj 900 0), (1, .t (.int .i64 p1)), (4, .t (.int .i64 0)), (9, .t (.bool (decide (p1 ≤ 0))))], [(900, ((l1Cur.enc p0).map .t))], []⟩ ?_
  refine Wp.cond2 (b := decide (p1 ≤ 0)) kr (fun hc => ?_) (fun hc => ?_)
  · have h := cond_t h hc
    refine Wp.srg [] [] ?_
    refine Runs.alln ?_
    refine Wp.fg ⟨[(0, .obj 900 0), (1, .t (.int .i64 p1)), (4, .t (.int .i64 0))], [(900, ((l1Cur.enc p0).map .t))], []⟩ ?_
    refine Wp.ret ?_
    refine thenR ?_
    obtain rfl := Option.some.inj h
    exact RetK [.t (.int .i64 0)] _ [((l1Cur.enc p0).map .t)] kr kr (.refl _) (.cons ((.cons (.refl _) (.cons (.refl _) (.cons (.refl _) .nil)))) .nil)
  have h := cond_f h hc
  refine Wp.skip (thenN ?_)
  refine Wp.seq ?_
  refine Wp.srg [] [] ?_
  refine Runs.alln ?_
  refine Wp.fg ⟨[(0, .obj 900 0), (1, .t (.int .i64 p1)), (4, .t (.int .i64 0)), (11, .t (.bool (decide (p1 ≤ 256))))], [(900, ((l1Cur.enc p0).map .t))], []⟩ ?_
  refine Wp.cond2 (b := decide (p1 ≤ 256)) kr (fun hc => ?_) (fun hc => ?_)
  · have h := cond_t h hc
    refine Wp.srg [] [] ?_
    refine Runs.batch 1 kr ?_
    obtain ⟨r1, e_r1, h⟩ := bind_some h
    refine Runs.callK false 13 63 [] [.obj 900 0] _ _ _ rfl rfl kr kr kr kr kr (spec_l1Byte_ok u p0 r1 e_r1) kr ?_
    refine Runs.batch 1 kr ?_
    obtain ⟨_, e_2, h⟩ := bind_some h
    refine Runs.num .rem (.int .i64 r1.1) (.int .i64 p1) (.int .i64 (bRem .i64 r1.1 p1)) rfl kr kr kr kr (bin_rem _ _ _ _ (by simpa using chk_some e_2)) ?_
    refine Runs.alln ?_
    refine Wp.fg ⟨[(0, .obj 900 0), (1, .t (.int .i64 p1)), (4, .t (.int .i64 (bRem .i64 r1.1 p1)))], [(900, ((l1Cur.enc r1.2).map .t))], []⟩ ?_
    refine Wp.ret ?_
    refine thenR ?_
    obtain rfl := Option.some.inj h
    exact RetK [.t (.int .i64 (bRem .i64 r1.1 p1))] _ [((l1Cur.enc r1.2).map .t)] kr kr (.refl _) (.cons ((.cons (.refl _) (.cons (.refl _) (.cons (.refl _) .nil)))) .nil)
  have h := cond_f h hc
  refine Wp.skip (thenN ?_)
  refine Wp.srg [] [] ?_
  refine Runs.batch 1 kr ?_
  obtain ⟨r3, e_r3, h⟩ := bind_some h
  refine Runs.callK false 17 63 [] [.obj 900 0] _ _ _ rfl rfl kr kr kr kr kr (spec_l1Byte_ok u p0 r3 e_r3) kr ?_
  refine Runs.alln ?_
  refine Wp.fg ⟨[(0, .obj 900 0), (1, .t (.int .i64 p1)), (4, .t (.int .i64 0)), (5, .t (.int .i64 r3.1))], [(900, ((l1Cur.enc r3.2).map .t))], []⟩ ?_
  refine Wp.srg [] [] ?_
  refine Runs.batch 1 kr ?_
  obtain ⟨r4, e_r4, h⟩ := bind_some h
  refine Runs.callK false 19 63 [] [.obj 900 0] _ _ _ rfl rfl kr kr kr kr kr (spec_l1Byte_ok u r3.2 r4 e_r4) kr ?_
  refine Runs.alln ?_
  refine Wp.fg ⟨[(0, .obj 900 0), (1, .t (.int .i64 p1)), (4, .t (.int .i64 0)), (5, .t (.int .i64 r3.1)), (6, .t (.int .i64 r4.1))], [(900, ((l1Cur.enc r4.2).map .t))], []⟩ ?_
  refine Wp.srg [] [] ?_
  refine Runs.batch 1 kr ?_
  obtain ⟨r5, e_r5, h⟩ := bind_some h
  refine Runs.callK false 21 63 [] [.obj 900 0] _ _ _ rfl rfl kr kr kr kr kr (spec_l1Byte_ok u r4.2 r5 e_r5) kr ?_
  refine Runs.alln ?_
  refine Wp.fg ⟨[(1, .t (.int .i64 p1)), (4, .t (.int .i64 0)), (5, .t (.int .i64 r3.1)), (6, .t (.int .i64 r4.1)), (7, .t (.int .i64 r5.1))], [(900, ((l1Cur.enc r5.2).map .t))], []⟩ ?_
  refine Wp.srg [] [] ?_
  refine Runs.batch 8 kr ?_
  obtain ⟨_, e_6, h⟩ := bind_some h
  refine Runs.num .rem (.int .i64 (bAdd .i64 (bAdd .i64 (bMul .i64 r3.1 65536) (bMul .i64 r4.1 256)) r5.1)) (.int .i64 p1) (.int .i64 (bRem .i64 (bAdd .i64 (bAdd .i64 (bMul .i64 r3.1 65536) (bMul .i64 r4.1 256)) r5.1) p1)) rfl kr kr kr kr (bin_rem _ _ _ _ (by simpa using chk_some e_6)) ?_
  refine Runs.alln ?_
  refine Wp.fg ⟨[(4, .t (.int .i64 (bRem .i64 (bAdd .i64 (bAdd .i64 (bMul .i64 r3.1 65536) (bMul .i64 r4.1 256)) r5.1) p1)))], [(900, ((l1Cur.enc r5.2).map .t))], []⟩ ?_
  refine Wp.ret ?_
  obtain rfl := Option.some.inj h
  exact RetK [.t (.int .i64 (bRem .i64 (bAdd .i64 (bAdd .i64 (bMul .i64 r3.1 65536) (bMul .i64 r4.1 256)) r5.1) p1))] _ [((l1Cur.enc r5.2).map .t)] kr kr (.refl _) (.cons ((.cons (.refl _) (.cons (.refl _) (.cons (.refl _) .nil)))) .nil)
theorem spec_l1Int_ok (u : Nat) (p0 : l1Cur) (p1 : List Int) (r : Int × l1Cur) (h : spec_l1Int u p0 p1 = some r) : CallOK Tryz.prog 27 [.ptr [.t (.sl 1 (p0.fB.map (eInt .u8))), .t (.int .i64 p0.fI), .t (.int .i64 p0.fH)], .one (.t (.sl 1 (p1.map (eInt .i64))))] (.one (.t (.int .i64 r.1))) [[.t (.sl 1 (r.2.fB.map (eInt .u8))), .t (.int .i64 r.2.fI), .t (.int .i64 r.2.fH)]] := by
  unfold spec_l1Int at h
  refine CallOK.of_bodyK (fn := Tryz.f27) (m := false) [.obj 900 0, .t (.sl 1 (p1.map (eInt .i64)))] kr rfl kr kr kr kr kr ?_
  refine Wp.srg [] [] ?_
  refine Runs.alln ?_
  refine Wp.fg ⟨[(0, .obj 900 0), (1, .t (.sl 1 (p1.map (eInt .i64)))), (4, .t (.int .i64 0))], [(900, ((l1Cur.enc p0).map .t))], []⟩ ?_
  refine Wp.srg [] [] ?_
  refine Runs.batch 3 kr ?_
  refine Runs.lenT (y := .t (.sl 1 (p1.map (eInt .i64)))) (e := 3) (eInt .i64) p1 1 rfl rfl rfl kr kr kr kr kr ?_
  obtain ⟨r1, e_r1, h⟩ := bind_some h
  refine Runs.callK false 9 40 [] [.obj 900 0, .t (.int .i64 ((p1.length : Int)))] _ _ _ rfl rfl kr kr kr kr kr (spec_l1Below_ok u p0 ((p1.length : Int)) r1 e_r1) kr ?_
  obtain ⟨y2, e_y2, h⟩ := bind_some h
  refine Runs.idxT (e := 3) (kk := .i64) (sz := 1) (eInt .i64) p1 r1.1 rfl kr kr kr kr kr kr e_y2 ?_
  refine Runs.alln ?_
  refine Wp.fg ⟨[(4, .t (.int .i64 y2))], [(900, ((l1Cur.enc r1.2).map .t))], []⟩ ?_
  refine Wp.ret ?_
  obtain rfl := Option.some.inj h
  exact RetK [.t (.int .i64 y2)] _ [((l1Cur.enc r1.2).map .t)] kr kr (.refl _) (.cons ((.cons (.refl _) (.cons (.refl _) (.cons (.refl _) .nil)))) .nil)
theorem spec_l3Bytes_ok (u : Nat) (p0 : l1Cur) (p1 : Int) (r : (List Int) × l1Cur) (h : spec_l3Bytes u p0 p1 = some r) : CallOK Tryz.prog 42 [.ptr [.t (.sl 1 (p0.fB.map (eInt .u8))), .t (.int .i64 p0.fI), .t (.int .i64 p0.fH)], .one (.t (.int .i64 p1))] (.one (.ow 5 1 (r.1.map (eInt .u8)))) [[.t (.sl 1 (r.2.fB.map (eInt .u8))), .t (.int .i64 r.2.fI), .t (.int .i64 r.2.fH)]] := by
  unfold spec_l3Bytes at h
  refine CallOK.of_bodyK (fn := Tryz.f42) (m := true) [.obj 900 0, .t (.int .i64 p1)] kr rfl kr kr kr kr kr ?_
  refine Wp.srg [] [] ?_
  refine Runs.alln ?_
  refine Wp.fg ⟨[(0, .obj 900 0), (1, .t (.int .i64 p1)), (4, .nil)], [(900, ((l1Cur.enc p0).map .t))], []⟩ ?_
  refine Wp.srg [] [] ?_
  refine Runs.alln ?_
  refine Wp.fg ⟨[(0, .obj 900 0), (1, .t (.int .i64 p1)), (4, .nil), (5, .own 458752)], [(900, ((l1Cur.enc p0).map .t))], [(458752, .live 5 1 ((([] : List Int)).map (eInt .u8)))]⟩ ?_
  refine Wp.seqJ (α := (List Int) × (List Int) × Int × Int) (fun a => ⟨[(4, .nil), (5, .own 327681)], [(900, [.t (.sl 1 (a.2.1.map (eInt .u8))), .t (.int .i64 a.2.2.1), .t (.int .i64 a.2.2.2)])], [(327681, .live 5 1 (a.1.map (eInt .u8)))]⟩) (fun a => spec_l3Bytes_j1 u a.1 a.2.1 a.2.2.1 a.2.2.2 = some r) ?_ ?_
  · rintro ⟨x18, x19, x20, x21⟩ h
    change spec_l3Bytes_j1 u x18 x19 x20 x21 = some r at h
    unfold spec_l3Bytes_j1 at h
    refine Wp.srg [] [] ?_
    refine Runs.alln ?_
    refine Wp.fg ⟨[(4, .own 327681)], [(900, [.t (.sl 1 (x19.map (eInt .u8))), .t (.int .i64 x20), .t (.int .i64 x21)])], [(327681, .live 5 1 (x18.map (eInt .u8)))]⟩ ?_
    refine Wp.ret ?_
    obtain rfl := Option.some.inj h
    exact RetK [.own 327681] _ [[.t (.sl 1 (x19.map (eInt .u8))), .t (.int .i64 x20), .t (.int .i64 x21)]] kr kr (.refl _) (.cons ((.cons (.refl _) (.cons (.refl _) (.cons (.refl _) .nil)))) .nil)
  · refine Wp.srg [] [] ?_
    refine Runs.batch 3 kr ?_
    obtain ⟨r1, e_r1, h⟩ := bind_some h
    refine Runs.callK false 11 40 [] [.obj 900 0, .t (.int .i64 (bAdd .i64 p1 1))] _ _ _ rfl rfl kr kr kr kr kr (spec_l1Below_ok u p0 (bAdd .i64 p1 1) r1 e_r1) kr ?_
    refine Runs.alln ?_
    refine Wp.fg ⟨[(0, .obj 900 0), (4, .nil), (5, .own 458752), (6, .t (.int .i64 r1.1))], [(900, ((l1Cur.enc r1.2).map .t))], [(458752, .live 5 1 ((([] : List Int)).map (eInt .u8)))]⟩ ?_
    refine Wp.block ?_
    refine Wp.loopF (α := (List Int) × Int × (List Int) × Int × Int) (fun a => ⟨[(0, .obj 900 0), (4, .nil), (5, .own 327681), (6, .t (.int .i64 a.2.1))], [(900, [.t (.sl 1 (a.2.2.1.map (eInt .u8))), .t (.int .i64 a.2.2.2.1), .t (.int .i64 a.2.2.2.2)])], [(327681, .live 5 1 (a.1.map (eInt .u8)))]⟩) (fun k_spec_l3Bytes_l2 a => spec_l3Bytes_l2 u k_spec_l3Bytes_l2 a.1 a.2.1 a.2.2.1 a.2.2.2.1 a.2.2.2.2 = some r) ?_ ?_ u (([] : List Int), r1.1, r1.2.fB, r1.2.fI, r1.2.fH) h (Le.of (mo := []) (mr := [(327681, 458752)]) kr kr kr kr)
    · intro a h; unfold spec_l3Bytes_l2 at h; cases h
    · rintro k_spec_l3Bytes_l2 ⟨x7, x8, x9, x10, x11⟩ h
      change spec_l3Bytes_l2 u (k_spec_l3Bytes_l2 + 1) x7 x8 x9 x10 x11 = some r at h
      rw [spec_l3Bytes_l2] at h
      refine Wp.seq ?_
      refine Wp.srg [] [] ?_
      refine Runs.alln ?_
      refine Wp.fg ⟨[(0, .obj 900 0), (4, .nil), (5, .own 327681), (6, .t (.int .i64 x8)), (13, .t (.bool (decide (x8 > 0))))], [(900, [.t (.sl 1 (x9.map (eInt .u8))), .t (.int .i64 x10), .t (.int .i64 x11)])], [(327681, .live 5 1 (x7.map (eInt .u8)))]⟩ ?_
      refine Wp.cond2 (b := decide (x8 > 0)) kr (fun hc => ?_) (fun hc => ?_)
      · have h := cond_t h hc
        refine Wp.skip (thenN ?_)
        refine Wp.seq ?_
        refine Wp.block ?_
        refine Wp.rg [] [] ?_
        refine Runs.batch 3 kr ?_
        obtain ⟨r17, e_r17, h⟩ := bind_some h
        refine Runs.callK false 19 27 [] [.obj 900 0, .own 1179648] _ _ _ rfl rfl kr kr kr kr kr (spec_l1Int_ok u ((l1Cur.mk x9 x10 x11)) ([97, 98, 99, 0, 255]) r17 e_r17) kr ?_
        refine Runs.batch 2 kr ?_
        obtain ⟨_, e_18, h⟩ := bind_some h
        refine Runs.appT (y := .own 1376256) (eInt .u8) 22 1 5 1 1 327681 x7 ([IntKind.wrap .u8 r17.1]) rfl rfl rfl rfl kr kr kr kr kr kr (.inl rfl) kr (of_decide_eq_true (chk_some e_18)) kr kr ?_
        refine Runs.all kr ?_
        refine blkN ?_
        refine thenN ?_
        refine Wp.rg [] [] ?_
        refine Runs.alln ?_
        exact ⟨(x7 ++ ([IntKind.wrap .u8 r17.1]), bSub .i64 x8 1, r17.2.fB, r17.2.fI, r17.2.fH), h, Le.of (mo := []) (mr := [(327681, 1441792)]) kr kr kr kr⟩
      have h := cond_f h hc
      refine Wp.exit ?_
      refine thenE ?_
      refine thenE ?_
      refine blkE ?_
      refine thenN ?_
      exact ⟨(x7, x9, x10, x11), h, Le.of (mo := []) (mr := []) kr kr kr kr⟩
theorem spec_l6Image_ok (u : Nat) (p0 : l1Cur) (r : (List Int) × l1Cur) (h : spec_l6Image u p0 = some r) : CallOK Tryz.prog 39 [.ptr [.t (.sl 1 (p0.fB.map (eInt .u8))), .t (.int .i64 p0.fI), .t (.int .i64 p0.fH)]] (.one (.ow 5 1 (r.1.map (eInt .u8)))) [[.t (.sl 1 (r.2.fB.map (eInt .u8))), .t (.int .i64 r.2.fI), .t (.int .i64 r.2.fH)]] := by
  unfold spec_l6Image at h
  refine CallOK.of_bodyK (fn := Tryz.f39) (m := true) [.obj 900 0] kr rfl kr kr kr kr kr ?_
  refine Wp.srg [] [] ?_
  refine Runs.alln ?_
  refine Wp.fg ⟨[(0, .obj 900 0), (2, .nil)], [(900, ((l1Cur.enc p0).map .t))], []⟩ ?_
  refine Wp.srg [] [] ?_
  refine Runs.batch 1 kr ?_
  obtain ⟨r1, e_r1, h⟩ := bind_some h
  refine Runs.callK false 4 42 [] [.obj 900 0, .t (.int .i64 16)] _ _ _ rfl rfl kr kr kr kr kr (spec_l3Bytes_ok u p0 16 r1 e_r1) kr ?_
  refine Runs.alln ?_
  refine Wp.fg ⟨[(2, .own 262144)], [(900, ((l1Cur.enc r1.2).map .t))], [(262144, .live 5 1 (r1.1.map (eInt .u8)))]⟩ ?_
  refine Wp.ret ?_
  obtain rfl := Option.some.inj h
  exact RetK [.own 262144] _ [((l1Cur.enc r1.2).map .t)] kr kr (.refl _) (.cons ((.cons (.refl _) (.cons (.refl _) (.cons (.refl _) .nil)))) .nil)
theorem spec_l1Bent_ok (u : Nat) (p0 : l1Cur) (p1 : List Int) (r : (List Int) × l1Cur) (h : spec_l1Bent u p0 p1 = some r) : CallOK Tryz.prog 43 [.ptr [.t (.sl 1 (p0.fB.map (eInt .u8))), .t (.int .i64 p0.fI), .t (.int .i64 p0.fH)], .one (.t (.sl 1 (p1.map (eInt .u8))))] (.one (.t (.sl 1 (r.1.map (eInt .u8))))) [[.t (.sl 1 (r.2.fB.map (eInt .u8))), .t (.int .i64 r.2.fI), .t (.int .i64 r.2.fH)]] := by
  unfold spec_l1Bent at h
  refine CallOK.of_bodyK (fn := Tryz.f43) (m := false) [.obj 900 0, .t (.sl 1 (p1.map (eInt .u8)))] kr rfl kr kr kr kr kr ?_
  refine Wp.srg [] [] ?_
  refine Runs.alln ?_
  refine Wp.fg ⟨[(0, .obj 900 0), (1, .t (.sl 1 (p1.map (eInt .u8)))), (4, .nil)], [(900, ((l1Cur.enc p0).map .t))], []⟩ ?_
  refine Wp.srg [] [] ?_
  refine Runs.batch 2 kr ?_
  obtain ⟨_, e_1, h⟩ := bind_some h
  refine Runs.appT (y := .t (.sl 1 (p1.map (eInt .u8)))) (eInt .u8) 9 1 5 1 1 458752 (([] : List Int)) p1 rfl rfl rfl rfl kr kr kr kr kr kr (.inl rfl) kr (of_decide_eq_true (chk_some e_1)) kr kr ?_
  refine Runs.alln ?_
  refine Wp.fg ⟨[(0, .obj 900 0), (4, .nil), (5, .own 589824)], [(900, ((l1Cur.enc p0).map .t))], [(589824, .live 5 1 (((([] : List Int)) ++ p1).map (eInt .u8)))]⟩ ?_
  refine Wp.seqJ (α := (List Int) × (List Int) × Int × Int) (fun a => ⟨[(4, .nil), (5, .t (.sl 1 (a.1.map (eInt .u8))))], [(900, [.t (.sl 1 (a.2.1.map (eInt .u8))), .t (.int .i64 a.2.2.1), .t (.int .i64 a.2.2.2)])], []⟩) (fun a => spec_l1Bent_j1 u a.1 a.2.1 a.2.2.1 a.2.2.2 = some r) ?_ ?_
  · rintro ⟨x15, x16, x17, x18⟩ h
    change spec_l1Bent_j1 u x15 x16 x17 x18 = some r at h
    unfold spec_l1Bent_j1 at h
    refine Wp.srg [] [] ?_
    refine Runs.alln ?_
    refine Wp.fg ⟨[(4, .t (.sl 1 (x15.map (eInt .u8))))], [(900, [.t (.sl 1 (x16.map (eInt .u8))), .t (.int .i64 x17), .t (.int .i64 x18)])], []⟩ ?_
    refine Wp.ret ?_
    obtain rfl := Option.some.inj h
    exact RetK [.t (.sl 1 (x15.map (eInt .u8)))] _ [[.t (.sl 1 (x16.map (eInt .u8))), .t (.int .i64 x17), .t (.int .i64 x18)]] kr kr (.refl _) (.cons ((.cons (.refl _) (.cons (.refl _) (.cons (.refl _) .nil)))) .nil)
  · refine Wp.srg [] [] ?_
    refine Runs.batch 1 kr ?_
    obtain ⟨r2, e_r2, h⟩ := bind_some h
    refine Runs.callK false 11 40 [] [.obj 900 0, .t (.int .i64 6)] _ _ _ rfl rfl kr kr kr kr kr (spec_l1Below_ok u p0 6 r2 e_r2) kr ?_
    refine Runs.done ?_
    refine thenN ?_
    refine Wp.fg ⟨[(0, .obj 900 0), (4, .nil), (5, .own 589824), (11, .t (.int .i64 r2.1))], [(900, ((l1Cur.enc r2.2).map .t))], [(589824, .live 5 1 (((([] : List Int)) ++ p1).map (eInt .u8)))]⟩ ?_
    refine Wp.block ?_
    refine Wp.srg [] [] ?_
    refine Runs.alln ?_
    refine Wp.fg ⟨[(0, .obj 900 0), (4, .nil), (5, .own 589824), (11, .t (.int .i64 r2.1)), (12, .t (.bool (r2.1 == 0)))], [(900, ((l1Cur.enc r2.2).map .t))], [(589824, .live 5 1 (((([] : List Int)) ++ p1).map (eInt .u8)))]⟩ ?_
    refine Wp.cond2 (b := r2.1 == 0) kr (fun hc => ?_) (fun hc => ?_)
    · have h := cond_t h hc
      refine Wp.srg [] [] ?_
      refine Runs.batch 1 kr ?_
      refine Runs.lenT (y := .own 589824) (e := 5) (eInt .u8) ((([] : List Int)) ++ p1) 1 rfl rfl rfl kr kr kr kr kr ?_
      refine Runs.alln ?_
      refine Wp.fg ⟨[(0, .obj 900 0), (4, .nil), (5, .own 589824), (16, .t (.bool (decide (((((([] : List Int)) ++ p1).length : Int)) > 0))))], [(900, ((l1Cur.enc r2.2).map .t))], [(589824, .live 5 1 (((([] : List Int)) ++ p1).map (eInt .u8)))]⟩ ?_
      refine Wp.cond2 (b := decide (((((([] : List Int)) ++ p1).length : Int)) > 0)) kr (fun hc => ?_) (fun hc => ?_)
      · have h := cond_t h hc
        refine Wp.rg [] [] ?_
        refine Runs.batch 3 kr ?_
        refine Runs.lenT (y := .own 589824) (e := 5) (eInt .u8) ((([] : List Int)) ++ p1) 1 rfl rfl rfl kr kr kr kr kr ?_
        obtain ⟨r3, e_r3, h⟩ := bind_some h
        refine Runs.callK false 21 40 [] [.obj 900 0, .t (.int .i64 ((((([] : List Int)) ++ p1).length : Int)))] _ _ _ rfl rfl kr kr kr kr kr (spec_l1Below_ok u r2.2 ((((([] : List Int)) ++ p1).length : Int)) r3 e_r3) kr ?_
        refine Runs.batch 1 kr ?_
        obtain ⟨r4, e_r4, h⟩ := bind_some h
        refine Runs.callK false 23 40 [] [.obj 900 0, .t (.int .i64 256)] _ _ _ rfl rfl kr kr kr kr kr (spec_l1Below_ok u r3.2 256 r4 e_r4) kr ?_
        refine Runs.batch 1 kr ?_
        obtain ⟨y5, e_y5, h⟩ := bind_some h
        refine Runs.idxO (e := 5) (e' := 5) (kk := .i64) (sz := 1) (eInt .u8) ((([] : List Int)) ++ p1) r3.1 589824 rfl kr kr kr kr kr kr kr e_y5 ?_
        refine Runs.storeT (e := 5) (sz := 1) (m := 1) (eInt .u8) ((([] : List Int)) ++ p1) 589824 (Int.toNat r3.1) 0 (IntKind.wrap .u8 r4.1) (.t (.int .u8 (IntKind.wrap .u8 r4.1))) [.int .u8 (IntKind.wrap .u8 r4.1)] rfl kr kr kr kr kr kr kr kr (idx_some e_y5).2 kr kr ?_
        refine Runs.done ?_
        refine blkN ?_
        refine thenN ?_
        exact ⟨(((([] : List Int)) ++ p1).set (Int.toNat r3.1) (IntKind.wrap .u8 r4.1), r4.2.fB, r4.2.fI, r4.2.fH), h, Le.trans (Le.frz 5 589824 5 1 ((((([] : List Int)) ++ p1).set (Int.toNat r3.1) (IntKind.wrap .u8 r4.1)).map (eInt .u8)) kr kr kr) (Le.of (mo := []) (mr := []) kr kr kr kr)⟩
      have h := cond_f h hc
      refine Wp.skip ?_
      refine blkN ?_
      refine thenN ?_
      exact ⟨((([] : List Int)) ++ p1, r2.2.fB, r2.2.fI, r2.2.fH), h, Le.trans (Le.frz 5 589824 5 1 (((([] : List Int)) ++ p1).map (eInt .u8)) kr kr kr) (Le.of (mo := []) (mr := []) kr kr kr kr)⟩
    have h := cond_f h hc
    refine Wp.srg [] [] ?_
    refine Runs.alln ?_
    refine Wp.fg ⟨[(0, .obj 900 0), (4, .nil), (5, .own 589824), (11, .t (.int .i64 r2.1)), (26, .t (.bool (r2.1 == 1)))], [(900, ((l1Cur.enc r2.2).map .t))], [(589824, .live 5 1 (((([] : List Int)) ++ p1).map (eInt .u8)))]⟩ ?_
    refine Wp.cond2 (b := r2.1 == 1) kr (fun hc => ?_) (fun hc => ?_)
    · have h := cond_t h hc
      refine Wp.rg [] [] ?_
      refine Runs.batch 3 kr ?_
      refine Runs.lenT (y := .own 589824) (e := 5) (eInt .u8) ((([] : List Int)) ++ p1) 1 rfl rfl rfl kr kr kr kr kr ?_
      refine Runs.batch 1 kr ?_
      obtain ⟨r6, e_r6, h⟩ := bind_some h
      refine Runs.callK false 33 40 [] [.obj 900 0, .t (.int .i64 (bAdd .i64 ((((([] : List Int)) ++ p1).length : Int)) 1))] _ _ _ rfl rfl kr kr kr kr kr (spec_l1Below_ok u r2.2 (bAdd .i64 ((((([] : List Int)) ++ p1).length : Int)) 1) r6 e_r6) kr ?_
      obtain ⟨_, e_7, h⟩ := bind_some h
      refine Runs.subsl (e := 5) (ax := .own 589824) (alo := none) (ahi := (some (.t (.int .i64 r6.1)))) (eInt .u8) ((([] : List Int)) ++ p1) 1 0 r6.1 rfl kr kr kr kr kr kr kr kr kr kr kr (chk_some e_7) ?_
      refine Runs.all kr ?_
      refine blkN ?_
      refine thenN ?_
      exact ⟨((((([] : List Int)) ++ p1).take (Int.toNat r6.1)).drop (Int.toNat 0), r6.2.fB, r6.2.fI, r6.2.fH), h, Le.of (mo := []) (mr := []) kr kr kr kr⟩
    have h := cond_f h hc
    refine Wp.srg [] [] ?_
    refine Runs.alln ?_
    refine Wp.fg ⟨[(0, .obj 900 0), (4, .nil), (5, .own 589824), (11, .t (.int .i64 r2.1)), (35, .t (.bool (r2.1 == 2)))], [(900, ((l1Cur.enc r2.2).map .t))], [(589824, .live 5 1 (((([] : List Int)) ++ p1).map (eInt .u8)))]⟩ ?_
    refine Wp.cond2 (b := r2.1 == 2) kr (fun hc => ?_) (fun hc => ?_)
    · have h := cond_t h hc
      refine Wp.rg [] [] ?_
      refine Runs.batch 3 kr ?_
      obtain ⟨r8, e_r8, h⟩ := bind_some h
      refine Runs.callK false 40 27 [] [.obj 900 0, .own 2555904] _ _ _ rfl rfl kr kr kr kr kr (spec_l1Int_ok u r2.2 ([0, 1, 128, 255]) r8 e_r8) kr ?_
      refine Runs.batch 2 kr ?_
      obtain ⟨_, e_9, h⟩ := bind_some h
      refine Runs.appT (y := .own 2752512) (eInt .u8) 43 1 5 1 1 589824 ((([] : List Int)) ++ p1) ([IntKind.wrap .u8 r8.1]) rfl rfl rfl rfl kr kr kr kr kr kr (.inl rfl) kr (of_decide_eq_true (chk_some e_9)) kr kr ?_
      refine Runs.all kr ?_
      refine blkN ?_
      refine thenN ?_
      exact ⟨(((([] : List Int)) ++ p1) ++ ([IntKind.wrap .u8 r8.1]), r8.2.fB, r8.2.fI, r8.2.fH), h, Le.trans (Le.frz 5 2818048 5 1 ((((([] : List Int)) ++ p1) ++ ([IntKind.wrap .u8 r8.1])).map (eInt .u8)) kr kr kr) (Le.of (mo := []) (mr := []) kr kr kr kr)⟩
    have h := cond_f h hc
    refine Wp.srg [] [] ?_
    refine Runs.alln ?_
    refine Wp.fg ⟨[(0, .obj 900 0), (4, .nil), (5, .own 589824), (44, .t (.bool (r2.1 == 3)))], [(900, ((l1Cur.enc r2.2).map .t))], [(589824, .live 5 1 (((([] : List Int)) ++ p1).map (eInt .u8)))]⟩ ?_
    refine Wp.cond2 (b := r2.1 == 3) kr (fun hc => ?_) (fun hc => ?_)
    · have h := cond_t h hc
      refine Wp.srg [] [] ?_
      refine Runs.batch 1 kr ?_
      refine Runs.lenT (y := .own 589824) (e := 5) (eInt .u8) ((([] : List Int)) ++ p1) 1 rfl rfl rfl kr kr kr kr kr ?_
      refine Runs.alln ?_
      refine Wp.fg ⟨[(0, .obj 900 0), (4, .nil), (5, .own 589824), (48, .t (.bool (decide (((((([] : List Int)) ++ p1).length : Int)) > 0))))], [(900, ((l1Cur.enc r2.2).map .t))], [(589824, .live 5 1 (((([] : List Int)) ++ p1).map (eInt .u8)))]⟩ ?_
      refine Wp.cond2 (b := decide (((((([] : List Int)) ++ p1).length : Int)) > 0)) kr (fun hc => ?_) (fun hc => ?_)
      · have h := cond_t h hc
        refine Wp.srg [] [] ?_
        refine Runs.batch 2 kr ?_
        refine Runs.lenT (y := .own 589824) (e := 5) (eInt .u8) ((([] : List Int)) ++ p1) 1 rfl rfl rfl kr kr kr kr kr ?_
        obtain ⟨r10, e_r10, h⟩ := bind_some h
        refine Runs.callK false 52 40 [] [.obj 900 0, .t (.int .i64 ((((([] : List Int)) ++ p1).length : Int)))] _ _ _ rfl rfl kr kr kr kr kr (spec_l1Below_ok u r2.2 ((((([] : List Int)) ++ p1).length : Int)) r10 e_r10) kr ?_
        refine Runs.alln ?_
        refine Wp.fg ⟨[(0, .obj 900 0), (4, .nil), (5, .own 589824), (6, .t (.int .i64 r10.1))], [(900, ((l1Cur.enc r10.2).map .t))], [(589824, .live 5 1 (((([] : List Int)) ++ p1).map (eInt .u8)))]⟩ ?_
        refine Wp.regionA (pOf [900]) (rhoOf [(0, .obj 900), (5, .own 9), (6, .frz), (53, .own 9), (54, .frz), (55, .own 9), (56, .frz), (57, .el 9), (58, .frz), (59, .obj 900), (60, .frz), (61, .frz), (62, .frz), (63, .el 9)]) kr kr ?_
        refine Runs.batch 4 kr ?_
        obtain ⟨y11, e_y11, h⟩ := bind_some h
        refine Runs.idxO (e := 5) (e' := 5) (kk := .i64) (sz := 1) (eInt .u8) ((([] : List Int)) ++ p1) r10.1 589824 rfl kr kr kr kr kr kr kr e_y11 ?_
        refine Runs.loadE (e' := 5) (sz := 1) (m := 1) (gg := false) (eInt .u8) ((([] : List Int)) ++ p1) 589824 (Int.toNat r10.1) 0 (.t (.int .u8 y11)) rfl kr kr kr kr kr kr (idx_some e_y11).2 kr ?_
        refine Runs.batch 1 kr ?_
        obtain ⟨r12, e_r12, h⟩ := bind_some h
        refine Runs.callK false 60 40 [] [.obj 900 0, .t (.int .i64 8)] _ _ _ rfl rfl kr kr kr kr kr (spec_l1Below_ok u r10.2 8 r12 e_r12) kr ?_
        obtain ⟨_, e_13, h⟩ := bind_some h
        refine Runs.num .shl (.int .u8 1) (.int .i64 r12.1) (.int .u8 (bShl .u8 1 r12.1)) rfl kr kr kr kr (bin_shl _ _ _ _ _ (chk_some e_13)) ?_
        refine Runs.batch 1 kr ?_
        obtain ⟨y14, e_y14, h⟩ := bind_some h
        refine Runs.idxO (e := 5) (e' := 5) (kk := .i64) (sz := 1) (eInt .u8) ((([] : List Int)) ++ p1) r10.1 589824 rfl kr kr kr kr kr kr kr e_y14 ?_
        refine Runs.storeT (e := 5) (sz := 1) (m := 1) (eInt .u8) ((([] : List Int)) ++ p1) 589824 (Int.toNat r10.1) 0 (bXor .u8 y11 (bShl .u8 1 r12.1)) (.t (.int .u8 (bXor .u8 y11 (bShl .u8 1 r12.1)))) [.int .u8 (bXor .u8 y11 (bShl .u8 1 r12.1))] rfl kr kr kr kr kr kr kr kr (idx_some e_y14).2 kr kr ?_
        refine Runs.done ?_
        refine blkN ?_
        refine thenN ?_
        exact ⟨(((([] : List Int)) ++ p1).set (Int.toNat r10.1) (bXor .u8 y11 (bShl .u8 1 r12.1)), r12.2.fB, r12.2.fI, r12.2.fH), h, Le.trans (Le.frz 5 589824 5 1 ((((([] : List Int)) ++ p1).set (Int.toNat r10.1) (bXor .u8 y11 (bShl .u8 1 r12.1))).map (eInt .u8)) kr kr kr) (Le.of (mo := []) (mr := []) kr kr kr kr)⟩
      have h := cond_f h hc
      refine Wp.skip ?_
      refine blkN ?_
      refine thenN ?_
      exact ⟨((([] : List Int)) ++ p1, r2.2.fB, r2.2.fI, r2.2.fH), h, Le.trans (Le.frz 5 589824 5 1 (((([] : List Int)) ++ p1).map (eInt .u8)) kr kr kr) (Le.of (mo := []) (mr := []) kr kr kr kr)⟩
    have h := cond_f h hc
    refine Wp.skip ?_
    refine blkN ?_
    refine thenN ?_
    exact ⟨((([] : List Int)) ++ p1, r2.2.fB, r2.2.fI, r2.2.fH), h, Le.trans (Le.frz 5 589824 5 1 (((([] : List Int)) ++ p1).map (eInt .u8)) kr kr kr) (Le.of (mo := []) (mr := []) kr kr kr kr)⟩
theorem spec_l7Old_ok (u : Nat) (p0 : l1Cur) (p1 : List Int) (r : (List Int) × l1Cur) (h : spec_l7Old u p0 p1 = some r) : CallOK Tryz.prog 26 [.ptr [.t (.sl 1 (p0.fB.map (eInt .u8))), .t (.int .i64 p0.fI), .t (.int .i64 p0.fH)], .one (.t (.sl 1 (p1.map (eInt .u8))))] (.one (.ow 5 1 (r.1.map (eInt .u8)))) [[.t (.sl 1 (r.2.fB.map (eInt .u8))), .t (.int .i64 r.2.fI), .t (.int .i64 r.2.fH)]] := by
  unfold spec_l7Old at h
  refine CallOK.of_bodyK (fn := Tryz.f26) (m := true) [.obj 900 0, .t (.sl 1 (p1.map (eInt .u8)))] kr rfl kr kr kr kr kr ?_
  refine Wp.srg [] [] ?_
  refine Runs.alln ?_
  refine Wp.fg ⟨[(0, .obj 900 0), (1, .t (.sl 1 (p1.map (eInt .u8)))), (4, .nil)], [(900, ((l1Cur.enc p0).map .t))], []⟩ ?_
  refine Wp.seq ?_
  refine Wp.srg [] [] ?_
  refine Runs.batch 1 kr ?_
  obtain ⟨r1, e_r1, h⟩ := bind_some h
  refine Runs.callK false 7 40 [] [.obj 900 0, .t (.int .i64 5)] _ _ _ rfl rfl kr kr kr kr kr (spec_l1Below_ok u p0 5 r1 e_r1) kr ?_
  refine Runs.done ?_
  refine thenN ?_
  refine Wp.fg ⟨[(0, .obj 900 0), (1, .t (.sl 1 (p1.map (eInt .u8)))), (4, .nil), (7, .t (.int .i64 r1.1))], [(900, ((l1Cur.enc r1.2).map .t))], []⟩ ?_
  refine Wp.block ?_
  refine Wp.srg [] [] ?_
  refine Runs.alln ?_
  refine Wp.fg ⟨[(0, .obj 900 0), (1, .t (.sl 1 (p1.map (eInt .u8)))), (4, .nil), (7, .t (.int .i64 r1.1)), (8, .t (.bool (r1.1 == 0)))], [(900, ((l1Cur.enc r1.2).map .t))], []⟩ ?_
  refine Wp.cond2 (b := r1.1 == 0) kr (fun hc => ?_) (fun hc => ?_)
  · have h := cond_t h hc
    refine Wp.srg [] [] ?_
    refine Runs.batch 1 kr ?_
    obtain ⟨r2, e_r2, h⟩ := bind_some h
    refine Runs.callK false 11 42 [] [.obj 900 0, .t (.int .i64 16)] _ _ _ rfl rfl kr kr kr kr kr (spec_l3Bytes_ok u r1.2 16 r2 e_r2) kr ?_
    refine Runs.alln ?_
    refine Wp.fg ⟨[(0, .obj 900 0), (1, .t (.sl 1 (p1.map (eInt .u8)))), (4, .own 720896)], [(900, ((l1Cur.enc r2.2).map .t))], [(720896, .live 5 1 (r2.1.map (eInt .u8)))]⟩ ?_
    refine Wp.ret ?_
    refine blkR ?_
    refine thenR ?_
    obtain rfl := Option.some.inj h
    exact RetK [.own 720896] _ [((l1Cur.enc r2.2).map .t)] kr kr (.refl _) (.cons ((.cons (.refl _) (.cons (.refl _) (.cons (.refl _) .nil)))) .nil)
  have h := cond_f h hc
  refine Wp.srg [] [] ?_
  refine Runs.alln ?_
  refine Wp.fg ⟨[(0, .obj 900 0), (1, .t (.sl 1 (p1.map (eInt .u8)))), (4, .nil), (7, .t (.int .i64 r1.1)), (12, .t (.bool (r1.1 == 1)))], [(900, ((l1Cur.enc r1.2).map .t))], []⟩ ?_
  refine Wp.cond2 (b := r1.1 == 1) kr (fun hc => ?_) (fun hc => ?_)
  · have h := cond_t h hc
    refine Wp.srg [] [] ?_
    refine Runs.batch 2 kr ?_
    obtain ⟨_, e_3, h⟩ := bind_some h
    refine Runs.appT (y := .t (.sl 1 (p1.map (eInt .u8)))) (eInt .u8) 16 1 5 1 1 917504 (([] : List Int)) p1 rfl rfl rfl rfl kr kr kr kr kr kr (.inl rfl) kr (of_decide_eq_true (chk_some e_3)) kr kr ?_
    refine Runs.alln ?_
    refine Wp.fg ⟨[(0, .obj 900 0), (1, .t (.sl 1 (p1.map (eInt .u8)))), (4, .own 1048576)], [(900, ((l1Cur.enc r1.2).map .t))], [(1048576, .live 5 1 (((([] : List Int)) ++ p1).map (eInt .u8)))]⟩ ?_
    refine Wp.ret ?_
    refine blkR ?_
    refine thenR ?_
    obtain rfl := Option.some.inj h
    exact RetK [.own 1048576] _ [((l1Cur.enc r1.2).map .t)] kr kr (.refl _) (.cons ((.cons (.refl _) (.cons (.refl _) (.cons (.refl _) .nil)))) .nil)
  have h := cond_f h hc
  refine Wp.srg [] [] ?_
  refine Runs.alln ?_
  refine Wp.fg ⟨[(0, .obj 900 0), (1, .t (.sl 1 (p1.map (eInt .u8)))), (4, .nil), (7, .t (.int .i64 r1.1)), (17, .t (.bool (r1.1 == 2)))], [(900, ((l1Cur.enc r1.2).map .t))], []⟩ ?_
  refine Wp.cond2 (b := r1.1 == 2) kr (fun hc => ?_) (fun hc => ?_)
  · have h := cond_t h hc
    refine Wp.srg [] [] ?_
    refine Runs.batch 2 kr ?_
    refine Runs.lenT (y := .t (.sl 1 (p1.map (eInt .u8)))) (e := 5) (eInt .u8) p1 1 rfl rfl rfl kr kr kr kr kr ?_
    refine Runs.batch 1 kr ?_
    obtain ⟨r4, e_r4, h⟩ := bind_some h
    refine Runs.callK false 23 40 [] [.obj 900 0, .t (.int .i64 (bAdd .i64 ((p1.length : Int)) 1))] _ _ _ rfl rfl kr kr kr kr kr (spec_l1Below_ok u r1.2 (bAdd .i64 ((p1.length : Int)) 1) r4 e_r4) kr ?_
    refine Runs.alln ?_
    refine Wp.fg ⟨[(0, .obj 900 0), (1, .t (.sl 1 (p1.map (eInt .u8)))), (4, .nil), (5, .t (.int .i64 r4.1))], [(900, ((l1Cur.enc r4.2).map .t))], []⟩ ?_
    refine Wp.seq ?_
    refine Wp.regionA (pOf []) (rhoOf [(1, .frz), (5, .frz), (24, .own 24), (25, .frz), (26, .frz), (27, .frz), (28, .own 28), (29, .frz), (30, .frz), (31, .frz), (32, .own 32)]) kr kr ?_
    refine Runs.batch 3 kr ?_
    obtain ⟨_, e_5, h⟩ := bind_some h
    refine Runs.subsl (e := 5) (ax := .t (.sl 1 (p1.map (eInt .u8)))) (alo := (some (.t (.int .i64 r4.1)))) (ahi := none) (eInt .u8) p1 1 r4.1 ((p1.length : Int)) rfl kr kr kr kr kr kr kr kr kr kr kr (chk_some e_5) ?_
    obtain ⟨_, e_6, h⟩ := bind_some h
    refine Runs.appT (y := .t (.sl 1 (((p1.take (Int.toNat ((p1.length : Int)))).drop (Int.toNat r4.1)).map (eInt .u8)))) (eInt .u8) 28 1 5 1 1 1572864 ([120]) ((p1.take (Int.toNat ((p1.length : Int)))).drop (Int.toNat r4.1)) rfl rfl rfl rfl kr kr kr kr kr kr (.inl rfl) kr (of_decide_eq_true (chk_some e_6)) kr kr ?_
    refine Runs.batch 2 kr ?_
    obtain ⟨_, e_7, h⟩ := bind_some h
    refine Runs.subsl (e := 5) (ax := .t (.sl 1 (p1.map (eInt .u8)))) (alo := none) (ahi := (some (.t (.int .i64 r4.1)))) (eInt .u8) p1 1 0 r4.1 rfl kr kr kr kr kr kr kr kr kr kr kr (chk_some e_7) ?_
    obtain ⟨_, e_8, h⟩ := bind_some h
    refine Runs.appT (y := .t (.sl 1 (((p1.take (Int.toNat r4.1)).drop (Int.toNat 0)).map (eInt .u8)))) (eInt .u8) 32 1 5 1 1 1835008 (([120]) ++ ((p1.take (Int.toNat ((p1.length : Int)))).drop (Int.toNat r4.1))) ((p1.take (Int.toNat r4.1)).drop (Int.toNat 0)) rfl rfl rfl rfl kr kr kr kr kr kr (.inl rfl) kr (of_decide_eq_true (chk_some e_8)) kr kr ?_
    refine Runs.alln ?_
    refine Wp.fg ⟨[(0, .obj 900 0), (1, .t (.sl 1 (p1.map (eInt .u8)))), (4, .own 2097152)], [(900, ((l1Cur.enc r4.2).map .t))], [(2097152, .live 5 1 (((([120]) ++ ((p1.take (Int.toNat ((p1.length : Int)))).drop (Int.toNat r4.1))) ++ ((p1.take (Int.toNat r4.1)).drop (Int.toNat 0))).map (eInt .u8)))]⟩ ?_
    refine Wp.ret ?_
    refine blkR ?_
    refine thenR ?_
    obtain rfl := Option.some.inj h
    exact RetK [.own 2097152] _ [((l1Cur.enc r4.2).map .t)] kr kr (.refl _) (.cons ((.cons (.refl _) (.cons (.refl _) (.cons (.refl _) .nil)))) .nil)
  have h := cond_f h hc
  refine Wp.srg [] [] ?_
  refine Runs.alln ?_
  refine Wp.fg ⟨[(0, .obj 900 0), (1, .t (.sl 1 (p1.map (eInt .u8)))), (4, .nil), (33, .t (.bool (r1.1 == 3)))], [(900, ((l1Cur.enc r1.2).map .t))], []⟩ ?_
  refine Wp.cond2 (b := r1.1 == 3) kr (fun hc => ?_) (fun hc => ?_)
  · have h := cond_t h hc
    refine Wp.srg [] [] ?_
    refine Runs.alln ?_
    refine Wp.fg ⟨[(0, .obj 900 0), (1, .t (.sl 1 (p1.map (eInt .u8)))), (4, .own 2293760)], [(900, ((l1Cur.enc r1.2).map .t))], [(2293760, .live 5 1 ((([] : List Int)).map (eInt .u8)))]⟩ ?_
    refine Wp.ret ?_
    refine blkR ?_
    refine thenR ?_
    obtain rfl := Option.some.inj h
    exact RetK [.own 2293760] _ [((l1Cur.enc r1.2).map .t)] kr kr (.refl _) (.cons ((.cons (.refl _) (.cons (.refl _) (.cons (.refl _) .nil)))) .nil)
  have h := cond_f h hc
  refine Wp.skip ?_
  refine blkN ?_
  refine thenN ?_
  refine Wp.srg [] [] ?_
  refine Runs.batch 1 kr ?_
  obtain ⟨r9, e_r9, h⟩ := bind_some h
  refine Runs.callK false 37 42 [] [.obj 900 0, .t (.int .i64 3)] _ _ _ rfl rfl kr kr kr kr kr (spec_l3Bytes_ok u r1.2 3 r9 e_r9) kr ?_
  refine Runs.batch 2 kr ?_
  obtain ⟨r10, e_r10, h⟩ := bind_some h
  refine Runs.callK false 40 43 [] [.obj 900 0, .t (.sl 1 (p1.map (eInt .u8)))] _ _ _ rfl rfl kr kr kr kr kr (spec_l1Bent_ok u r9.2 p1 r10 e_r10) kr ?_
  obtain ⟨_, e_11, h⟩ := bind_some h
  refine Runs.appT (y := .t (.sl 1 (r10.1.map (eInt .u8)))) (eInt .u8) 41 1 5 1 1 2424832 r9.1 r10.1 rfl rfl rfl rfl kr kr kr kr kr kr (.inl rfl) kr (of_decide_eq_true (chk_some e_11)) kr kr ?_
  refine Runs.alln ?_
  refine Wp.fg ⟨[(4, .own 2686976)], [(900, ((l1Cur.enc r10.2).map .t))], [(2686976, .live 5 1 ((r9.1 ++ r10.1).map (eInt .u8)))]⟩ ?_
  refine Wp.ret ?_
  obtain rfl := Option.some.inj h
  exact RetK [.own 2686976] _ [((l1Cur.enc r10.2).map .t)] kr kr (.refl _) (.cons ((.cons (.refl _) (.cons (.refl _) (.cons (.refl _) .nil)))) .nil)
theorem spec_l1Once_ok (u : Nat) (p0 : l1Cur) (p1 : Int) (r : Bool × l1Cur) (h : spec_l1Once u p0 p1 = some r) : CallOK Tryz.prog 41 [.ptr [.t (.sl 1 (p0.fB.map (eInt .u8))), .t (.int .i64 p0.fI), .t (.int .i64 p0.fH)], .one (.t (.int .i64 p1))] (.one (.t (.bool r.1))) [[.t (.sl 1 (r.2.fB.map (eInt .u8))), .t (.int .i64 r.2.fI), .t (.int .i64 r.2.fH)]] := by
  unfold spec_l1Once at h
  refine CallOK.of_bodyK (fn := Tryz.f41) (m := false) [.obj 900 0, .t (.int .i64 p1)] kr rfl kr kr kr kr kr ?_
  refine Wp.srg [] [] ?_
  refine Runs.alln ?_
  refine Wp.fg ⟨[(0, .obj 900 0), (1, .t (.int .i64 p1)), (4, .t (.bool false))], [(900, ((l1Cur.enc p0).map .t))], []⟩ ?_
  refine Wp.srg [] [] ?_
  refine Runs.batch 2 kr ?_
  obtain ⟨r1, e_r1, h⟩ := bind_some h
  refine Runs.callK false 7 40 [] [.obj 900 0, .t (.int .i64 p1)] _ _ _ rfl rfl kr kr kr kr kr (spec_l1Below_ok u p0 p1 r1 e_r1) kr ?_
  refine Runs.alln ?_
  refine Wp.fg ⟨[(4, .t (.bool (r1.1 == 0)))], [(900, ((l1Cur.enc r1.2).map .t))], []⟩ ?_
  refine Wp.ret ?_
  obtain rfl := Option.some.inj h
  exact RetK [.t (.bool (r1.1 == 0))] _ [((l1Cur.enc r1.2).map .t)] kr kr (.refl _) (.cons ((.cons (.refl _) (.cons (.refl _) (.cons (.refl _) .nil)))) .nil)
theorem spec_l27Olds_ok (u : Nat) (p0 : l1Cur) (r : (List Int) × (List Image) × l1Cur) (h : spec_l27Olds u p0 = some r) : CallOK Tryz.prog 24 [.ptr [.t (.sl 1 (p0.fB.map (eInt .u8))), .t (.int .i64 p0.fI), .t (.int .i64 p0.fH)]] (.tup [.one (.t (.sl 1 (r.1.map (eInt .u8)))), .one (.ow 54 1 (r.2.1.map Image.enc))]) [[.t (.sl 1 (r.2.2.fB.map (eInt .u8))), .t (.int .i64 r.2.2.fI), .t (.int .i64 r.2.2.fH)]] := by
  unfold spec_l27Olds at h
  refine CallOK.of_bodyK (fn := Tryz.f24) (m := true) [.obj 900 0] kr rfl kr kr kr kr kr ?_
  refine Wp.srg [] [] ?_
  refine Runs.alln ?_
  refine Wp.fg ⟨[(0, .obj 900 0), (2, .nil), (3, .nil)], [(900, ((l1Cur.enc p0).map .t))], []⟩ ?_
  refine Wp.srg [] [] ?_
  refine Runs.batch 1 kr ?_
  obtain ⟨r1, e_r1, h⟩ := bind_some h
  refine Runs.callK false 9 39 [] [.obj 900 0] _ _ _ rfl rfl kr kr kr kr kr (spec_l6Image_ok u p0 r1 e_r1) kr ?_
  refine Runs.alln ?_
  refine Wp.fg ⟨[(0, .obj 900 0), (2, .nil), (3, .nil), (4, .own 589824)], [(900, ((l1Cur.enc r1.2).map .t))], [(589824, .live 5 1 (r1.1.map (eInt .u8)))]⟩ ?_
  refine Wp.srg [] [] ?_
  refine Runs.alln ?_
  refine Wp.fg ⟨[(0, .obj 900 0), (2, .nil), (3, .nil), (4, .own 589824), (5, .own 655360)], [(900, ((l1Cur.enc r1.2).map .t))], [(589824, .live 5 1 (r1.1.map (eInt .u8))), (655360, .live 54 1 ((([] : List Image)).map Image.enc))]⟩ ?_
  refine Wp.seqJ (α := ((List Int) × l1Cur) × (List Image) × (List Int) × Int × Int) (fun a => ⟨[(0, .obj 900 0), (2, .nil), (3, .nil), (4, .t (.sl 1 (a.1.1.map (eInt .u8)))), (5, .own 327681)], [(900, [.t (.sl 1 (a.2.2.1.map (eInt .u8))), .t (.int .i64 a.2.2.2.1), .t (.int .i64 a.2.2.2.2)])], [(327681, .live 54 1 (a.2.1.map Image.enc))]⟩) (fun a => spec_l27Olds_j1 u a.1 a.2.1 a.2.2.1 a.2.2.2.1 a.2.2.2.2 = some r) ?_ ?_
  · rintro ⟨r1, x19, x20, x21, x22⟩ h
    change spec_l27Olds_j1 u r1 x19 x20 x21 x22 = some r at h
    unfold spec_l27Olds_j1 at h
    refine Wp.seqJ (α := (List Int) × (List Image) × (List Int) × Int × Int) (fun a => ⟨[(2, .nil), (3, .nil), (4, .t (.sl 1 (a.1.map (eInt .u8)))), (5, .own 327681)], [(900, [.t (.sl 1 (a.2.2.1.map (eInt .u8))), .t (.int .i64 a.2.2.2.1), .t (.int .i64 a.2.2.2.2)])], [(327681, .live 54 1 (a.2.1.map Image.enc))]⟩) (fun a => spec_l27Olds_j2 u a.1 a.2.1 a.2.2.1 a.2.2.2.1 a.2.2.2.2 = some r) ?_ ?_
    · rintro ⟨x25, x19, x26, x27, x28⟩ h
      change spec_l27Olds_j2 u x25 x19 x26 x27 x28 = some r at h
      unfold spec_l27Olds_j2 at h
      refine Wp.srg [] [] ?_
      refine Runs.alln ?_
      refine Wp.fg ⟨[(2, .t (.sl 1 (x25.map (eInt .u8)))), (3, .own 327681)], [(900, [.t (.sl 1 (x26.map (eInt .u8))), .t (.int .i64 x27), .t (.int .i64 x28)])], [(327681, .live 54 1 (x19.map Image.enc))]⟩ ?_
      refine Wp.ret ?_
      obtain rfl := Option.some.inj h
      exact RetK [.t (.sl 1 (x25.map (eInt .u8))), .own 327681] _ [[.t (.sl 1 (x26.map (eInt .u8))), .t (.int .i64 x27), .t (.int .i64 x28)]] kr kr (.refl _) (.cons ((.cons (.refl _) (.cons (.refl _) (.cons (.refl _) .nil)))) .nil)
    · refine Wp.srg [] [] ?_
      refine Runs.batch 1 kr ?_
      obtain ⟨r23, e_r23, h⟩ := bind_some h
      refine Runs.callK false 26 41 [] [.obj 900 0, .t (.int .i64 12)] _ _ _ rfl rfl kr kr kr kr kr (spec_l1Once_ok u ((l1Cur.mk x20 x21 x22)) 12 r23 e_r23) kr ?_
      refine Runs.done ?_
      refine thenN ?_
      refine Wp.fg ⟨[(0, .obj 900 0), (2, .nil), (3, .nil), (4, .t (.sl 1 (r1.1.map (eInt .u8)))), (5, .own 327681), (26, .t (.bool r23.1))], [(900, ((l1Cur.enc r23.2).map .t))], [(327681, .live 54 1 (x19.map Image.enc))]⟩ ?_
      refine Wp.cond2 (b := r23.1) kr (fun hc => ?_) (fun hc => ?_)
      · have h := cond_t h hc
        refine Wp.rg [] [] ?_
        refine Runs.batch 1 kr ?_
        obtain ⟨r24, e_r24, h⟩ := bind_some h
        refine Runs.callK false 28 40 [] [.obj 900 0, .t (.int .i64 90)] _ _ _ rfl rfl kr kr kr kr kr (spec_l1Below_ok u r23.2 90 r24 e_r24) kr ?_
        refine Runs.batch 1 kr ?_
        obtain ⟨_, e_25, h⟩ := bind_some h
        obtain ⟨_, e_26, h⟩ := bind_some h
        refine Runs.mkS (eInt .u8) (0 : Int) 30 5 1 1 (bAdd .i64 80 r24.1) (bAdd .i64 80 r24.1) rfl rfl kr kr kr kr kr kr (chk_some e_25) (of_decide_eq_true (chk_some e_26)) kr ?_
        refine Runs.alln ?_
        exact ⟨(List.replicate (Int.toNat (bAdd .i64 80 r24.1)) (0 : Int), x19, r24.2.fB, r24.2.fI, r24.2.fH), h, Le.trans (Le.frz 4 1966080 5 1 ((List.replicate (Int.toNat (bAdd .i64 80 r24.1)) (0 : Int)).map (eInt .u8)) kr kr kr) (Le.of (mo := []) (mr := []) kr kr kr kr)⟩
      have h := cond_f h hc
      refine Wp.skip (thenN ?_)
      exact ⟨(r1.1, x19, r23.2.fB, r23.2.fI, r23.2.fH), h, Le.of (mo := []) (mr := []) kr kr kr kr⟩
  · refine Wp.srg [] [] ?_
    refine Runs.batch 1 kr ?_
    obtain ⟨r2, e_r2, h⟩ := bind_some h
    refine Runs.callK false 12 40 [] [.obj 900 0, .t (.int .i64 4)] _ _ _ rfl rfl kr kr kr kr kr (spec_l1Below_ok u r1.2 4 r2 e_r2) kr ?_
    refine Runs.alln ?_
    refine Wp.fg ⟨[(0, .obj 900 0), (2, .nil), (3, .nil), (4, .own 589824), (5, .own 655360), (6, .t (.int .i64 r2.1))], [(900, ((l1Cur.enc r2.2).map .t))], [(589824, .live 5 1 (r1.1.map (eInt .u8))), (655360, .live 54 1 ((([] : List Image)).map Image.enc))]⟩ ?_
    refine Wp.block ?_
    refine Wp.loopF (α := ((List Int) × l1Cur) × (List Image) × Int × (List Int) × Int × Int) (fun a => ⟨[(0, .obj 900 0), (2, .nil), (3, .nil), (4, .t (.sl 1 (a.1.1.map (eInt .u8)))), (5, .own 327681), (6, .t (.int .i64 a.2.2.1))], [(900, [.t (.sl 1 (a.2.2.2.1.map (eInt .u8))), .t (.int .i64 a.2.2.2.2.1), .t (.int .i64 a.2.2.2.2.2)])], [(327681, .live 54 1 (a.2.1.map Image.enc))]⟩) (fun k_spec_l27Olds_l3 a => spec_l27Olds_l3 u k_spec_l27Olds_l3 a.1 a.2.1 a.2.2.1 a.2.2.2.1 a.2.2.2.2.1 a.2.2.2.2.2 = some r) ?_ ?_ u (r1, ([] : List Image), r2.1, r2.2.fB, r2.2.fI, r2.2.fH) h (Le.trans (Le.frz 4 589824 5 1 (r1.1.map (eInt .u8)) kr kr kr) (Le.of (mo := []) (mr := [(327681, 655360)]) kr kr kr kr))
    · intro a h; unfold spec_l27Olds_l3 at h; cases h
    · rintro k_spec_l27Olds_l3 ⟨r1, x8, x9, x10, x11, x12⟩ h
      change spec_l27Olds_l3 u (k_spec_l27Olds_l3 + 1) r1 x8 x9 x10 x11 x12 = some r at h
      rw [spec_l27Olds_l3] at h
      refine Wp.seq ?_
      refine Wp.srg [] [] ?_
      refine Runs.alln ?_
      refine Wp.fg ⟨[(0, .obj 900 0), (2, .nil), (3, .nil), (4, .t (.sl 1 (r1.1.map (eInt .u8)))), (5, .own 327681), (6, .t (.int .i64 x9)), (14, .t (.bool (decide (x9 > 0))))], [(900, [.t (.sl 1 (x10.map (eInt .u8))), .t (.int .i64 x11), .t (.int .i64 x12)])], [(327681, .live 54 1 (x8.map Image.enc))]⟩ ?_
      refine Wp.cond2 (b := decide (x9 > 0)) kr (fun hc => ?_) (fun hc => ?_)
      · have h := cond_t h hc
        refine Wp.skip (thenN ?_)
        refine Wp.seq ?_
        refine Wp.block ?_
        refine Wp.srg [] [] ?_
        refine Runs.batch 2 kr ?_
        obtain ⟨r18, e_r18, h⟩ := bind_some h
        refine Runs.callK false 19 26 [] [.obj 900 0, .t (.sl 1 (r1.1.map (eInt .u8)))] _ _ _ rfl rfl kr kr kr kr kr (spec_l7Old_ok u ((l1Cur.mk x10 x11 x12)) r1.1 r18 e_r18) kr ?_
        refine Runs.alln ?_
        refine Wp.fg ⟨[(0, .obj 900 0), (2, .nil), (3, .nil), (4, .t (.sl 1 (r1.1.map (eInt .u8)))), (5, .own 327681), (6, .t (.int .i64 x9)), (7, .own 1245184)], [(900, ((l1Cur.enc r18.2).map .t))], [(327681, .live 54 1 (x8.map Image.enc)), (1245184, .live 5 1 (r18.1.map (eInt .u8)))]⟩ ?_
        refine Wp.rg [] [] ?_
        refine Runs.batch 4 kr ?_
        obtain ⟨_, e_19, h⟩ := bind_some h
        refine Runs.appT (y := .own 1507328) Image.enc 24 1 54 1 24 327681 x8 ([(Image.mk r18.1)]) rfl rfl rfl rfl kr kr kr kr kr kr (.inl rfl) kr (of_decide_eq_true (chk_some e_19)) kr kr ?_
        refine Runs.all kr ?_
        refine blkN ?_
        refine thenN ?_
        refine Wp.rg [] [] ?_
        refine Runs.alln ?_
        exact ⟨(r1, x8 ++ ([(Image.mk r18.1)]), bSub .i64 x9 1, r18.2.fB, r18.2.fI, r18.2.fH), h, Le.of (mo := []) (mr := [(327681, 1572864)]) kr kr kr kr⟩
      have h := cond_f h hc
      refine Wp.exit ?_
      refine thenE ?_
      refine thenE ?_
      refine blkE ?_
      refine thenN ?_
      exact ⟨(r1, x8, x10, x11, x12), h, Le.of (mo := []) (mr := []) kr kr kr kr⟩
theorem spec_DrawBestSize_ok (u : Nat) (p0 : List Int) (r : (List Int) × (List Image)) (h : spec_DrawBestSize u p0 = some r) : CallOK Tryz.prog 5 [.one (.t (.sl 1 (p0.map (eInt .u8))))] (.tup [.one (.t (.sl 1 (r.1.map (eInt .u8)))), .one (.ow 54 1 (r.2.map Image.enc))]) [] := by
  unfold spec_DrawBestSize at h
  refine CallOK.of_bodyK (fn := Tryz.f5) (m := true) [.t (.sl 1 (p0.map (eInt .u8)))] kr rfl kr kr kr kr kr ?_
  refine Wp.srg [] [] ?_
  refine Runs.alln ?_
  refine Wp.fg ⟨[(0, .t (.sl 1 (p0.map (eInt .u8)))), (2, .nil), (3, .nil)], [], []⟩ ?_
  refine Wp.srg [] [] ?_
  refine Runs.batch 1 kr ?_
  obtain ⟨r1, e_r1, h⟩ := bind_some h
  refine Runs.callK false 6 23 [] [.t (.sl 1 (p0.map (eInt .u8)))] _ _ _ rfl rfl kr kr kr kr kr (spec_l1New_ok u p0 r1 e_r1) kr ?_
  refine Runs.alln ?_
  refine Wp.fg ⟨[(2, .nil), (3, .nil), (4, .obj 6 0)], [(6, ((l1Cur.enc r1).map .t))], []⟩ ?_
  refine Wp.srg [] [] ?_
  refine Runs.batch 1 kr ?_
  obtain ⟨r2, e_r2, h⟩ := bind_some h
  refine Runs.callK false 8 24 [] [.obj 6 0] _ _ _ rfl rfl kr kr kr kr kr (spec_l27Olds_ok u r1 r2 e_r2) kr ?_
  refine Runs.alln ?_
  refine Wp.fg ⟨[(2, .t (.sl 1 (r2.1.map (eInt .u8)))), (3, .own 525312)], [], [(525312, .live 54 1 (r2.2.1.map Image.enc))]⟩ ?_
  refine Wp.ret ?_
  obtain rfl := Option.some.inj h
  exact RetK [.t (.sl 1 (r2.1.map (eInt .u8))), .own 525312] _ [] kr kr (.refl _) .nil
theorem spec_l4Size_ok (u : Nat) (p0 : l1Cur) (r : Int × l1Cur) (h : spec_l4Size u p0 = some r) : CallOK Tryz.prog 25 [.ptr [.t (.sl 1 (p0.fB.map (eInt .u8))), .t (.int .i64 p0.fI), .t (.int .i64 p0.fH)]] (.one (.t (.int .i64 r.1))) [[.t (.sl 1 (r.2.fB.map (eInt .u8))), .t (.int .i64 r.2.fI), .t (.int .i64 r.2.fH)]] := by
  unfold spec_l4Size at h
  refine CallOK.of_bodyK (fn := Tryz.f25) (m := false) [.obj 900 0] kr rfl kr kr kr kr kr ?_
  refine Wp.srg [] [] ?_
  refine Runs.alln ?_
  refine Wp.fg ⟨[(0, .obj 900 0), (2, .t (.int .i64 0))], [(900, ((l1Cur.enc p0).map .t))], []⟩ ?_
  refine Wp.seq ?_
  refine Wp.srg [] [] ?_
  refine Runs.batch 1 kr ?_
  obtain ⟨r1, e_r1, h⟩ := bind_some h
  refine Runs.callK false 4 41 [] [.obj 900 0, .t (.int .i64 8)] _ _ _ rfl rfl kr kr kr kr kr (spec_l1Once_ok u p0 8 r1 e_r1) kr ?_
  refine Runs.done ?_
  refine thenN ?_
  refine Wp.fg ⟨[(0, .obj 900 0), (2, .t (.int .i64 0)), (4, .t (.bool r1.1))], [(900, ((l1Cur.enc r1.2).map .t))], []⟩ ?_
  refine Wp.cond2 (b := r1.1) kr (fun hc => ?_) (fun hc => ?_)
  · have h := cond_t h hc
    refine Wp.srg [] [] ?_
    refine Runs.batch 2 kr ?_
    obtain ⟨r2, e_r2, h⟩ := bind_some h
    refine Runs.callK false 7 27 [] [.obj 900 0, .own 393216] _ _ _ rfl rfl kr kr kr kr kr (spec_l1Int_ok u r1.2 ([0, 1, 7, -2]) r2 e_r2) kr ?_
    refine Runs.alln ?_
    refine Wp.fg ⟨[(0, .obj 900 0), (2, .t (.int .i64 r2.1))], [(900, ((l1Cur.enc r2.2).map .t))], []⟩ ?_
    refine Wp.ret ?_
    refine thenR ?_
    obtain rfl := Option.some.inj h
    exact RetK [.t (.int .i64 r2.1)] _ [((l1Cur.enc r2.2).map .t)] kr kr (.refl _) (.cons ((.cons (.refl _) (.cons (.refl _) (.cons (.refl _) .nil)))) .nil)
  have h := cond_f h hc
  refine Wp.skip (thenN ?_)
  refine Wp.srg [] [] ?_
  refine Runs.batch 1 kr ?_
  obtain ⟨r3, e_r3, h⟩ := bind_some h
  refine Runs.callK false 9 40 [] [.obj 900 0, .t (.int .i64 5)] _ _ _ rfl rfl kr kr kr kr kr (spec_l1Below_ok u r1.2 5 r3 e_r3) kr ?_
  refine Runs.alln ?_
  refine Wp.fg ⟨[(2, .t (.int .i64 (bAdd .i64 2 r3.1)))], [(900, ((l1Cur.enc r3.2).map .t))], []⟩ ?_
  refine Wp.ret ?_
  obtain rfl := Option.some.inj h
  exact RetK [.t (.int .i64 (bAdd .i64 2 r3.1))] _ [((l1Cur.enc r3.2).map .t)] kr kr (.refl _) (.cons ((.cons (.refl _) (.cons (.refl _) (.cons (.refl _) .nil)))) .nil)
theorem spec_DrawCostOf_ok (u : Nat) (p0 : List Int) (r : (List Int) × (List Image) × Int) (h : spec_DrawCostOf u p0 = some r) : CallOK Tryz.prog 6 [.one (.t (.sl 1 (p0.map (eInt .u8))))] (.tup [.one (.t (.sl 1 (r.1.map (eInt .u8)))), .one (.ow 54 1 (r.2.1.map Image.enc)), .one (.t (.int .i64 r.2.2))]) [] := by
  unfold spec_DrawCostOf at h
  refine CallOK.of_bodyK (fn := Tryz.f6) (m := true) [.t (.sl 1 (p0.map (eInt .u8)))] kr rfl kr kr kr kr kr ?_
  refine Wp.srg [] [] ?_
  refine Runs.alln ?_
  refine Wp.fg ⟨[(0, .t (.sl 1 (p0.map (eInt .u8)))), (2, .nil), (3, .nil), (4, .t (.int .i64 0))], [], []⟩ ?_
  refine Wp.srg [] [] ?_
  refine Runs.batch 1 kr ?_
  obtain ⟨r1, e_r1, h⟩ := bind_some h
  refine Runs.callK false 9 23 [] [.t (.sl 1 (p0.map (eInt .u8)))] _ _ _ rfl rfl kr kr kr kr kr (spec_l1New_ok u p0 r1 e_r1) kr ?_
  refine Runs.alln ?_
  refine Wp.fg ⟨[(2, .nil), (3, .nil), (4, .t (.int .i64 0)), (5, .obj 9 0)], [(9, ((l1Cur.enc r1).map .t))], []⟩ ?_
  refine Wp.srg [] [] ?_
  refine Runs.batch 1 kr ?_
  obtain ⟨r2, e_r2, h⟩ := bind_some h
  refine Runs.callK false 12 24 [] [.obj 9 0] _ _ _ rfl rfl kr kr kr kr kr (spec_l27Olds_ok u r1 r2 e_r2) kr ?_
  refine Runs.alln ?_
  refine Wp.fg ⟨[(2, .nil), (3, .nil), (4, .t (.int .i64 0)), (5, .obj 9 0), (6, .t (.sl 1 (r2.1.map (eInt .u8)))), (7, .own 787456)], [(9, ((l1Cur.enc r2.2.2).map .t))], [(787456, .live 54 1 (r2.2.1.map Image.enc))]⟩ ?_
  refine Wp.srg [] [] ?_
  refine Runs.batch 3 kr ?_
  obtain ⟨r3, e_r3, h⟩ := bind_some h
  refine Runs.callK false 18 25 [] [.obj 9 0] _ _ _ rfl rfl kr kr kr kr kr (spec_l4Size_ok u r2.2.2 r3 e_r3) kr ?_
  refine Runs.alln ?_
  refine Wp.fg ⟨[(2, .t (.sl 1 (r2.1.map (eInt .u8)))), (3, .own 787456), (4, .t (.int .i64 r3.1))], [], [(787456, .live 54 1 (r2.2.1.map Image.enc))]⟩ ?_
  refine Wp.ret ?_
  obtain rfl := Option.some.inj h
  exact RetK [.t (.sl 1 (r2.1.map (eInt .u8))), .own 787456, .t (.int .i64 r3.1)] _ [] kr kr (.refl _) .nil
theorem spec_DrawSavedBy_ok (u : Nat) (p0 : List Int) (r : (List Int) × (List Int) × Int) (h : spec_DrawSavedBy u p0 = some r) : CallOK Tryz.prog 7 [.one (.t (.sl 1 (p0.map (eInt .u8))))] (.tup [.one (.t (.sl 1 (r.1.map (eInt .u8)))), .one (.ow 5 1 (r.2.1.map (eInt .u8))), .one (.t (.int .i64 r.2.2))]) [] := by
  unfold spec_DrawSavedBy at h
  refine CallOK.of_bodyK (fn := Tryz.f7) (m := true) [.t (.sl 1 (p0.map (eInt .u8)))] kr rfl kr kr kr kr kr ?_
  refine Wp.srg [] [] ?_
  refine Runs.alln ?_
  refine Wp.fg ⟨[(0, .t (.sl 1 (p0.map (eInt .u8)))), (2, .nil), (3, .nil), (4, .t (.int .i64 0))], [], []⟩ ?_
  refine Wp.srg [] [] ?_
  refine Runs.batch 1 kr ?_
  obtain ⟨r1, e_r1, h⟩ := bind_some h
  refine Runs.callK false 10 23 [] [.t (.sl 1 (p0.map (eInt .u8)))] _ _ _ rfl rfl kr kr kr kr kr (spec_l1New_ok u p0 r1 e_r1) kr ?_
  refine Runs.alln ?_
  refine Wp.fg ⟨[(2, .nil), (3, .nil), (4, .t (.int .i64 0)), (5, .obj 10 0)], [(10, ((l1Cur.enc r1).map .t))], []⟩ ?_
  refine Wp.srg [] [] ?_
  refine Runs.batch 1 kr ?_
  obtain ⟨r2, e_r2, h⟩ := bind_some h
  refine Runs.callK false 13 24 [] [.obj 10 0] _ _ _ rfl rfl kr kr kr kr kr (spec_l27Olds_ok u r1 r2 e_r2) kr ?_
  refine Runs.alln ?_
  refine Wp.fg ⟨[(2, .nil), (3, .nil), (4, .t (.int .i64 0)), (5, .obj 10 0), (6, .t (.sl 1 (r2.1.map (eInt .u8))))], [(10, ((l1Cur.enc r2.2.2).map .t))], []⟩ ?_
  refine Wp.srg [] [] ?_
  refine Runs.batch 2 kr ?_
  obtain ⟨r3, e_r3, h⟩ := bind_some h
  refine Runs.callK false 18 26 [] [.obj 10 0, .t (.sl 1 (r2.1.map (eInt .u8)))] _ _ _ rfl rfl kr kr kr kr kr (spec_l7Old_ok u r2.2.2 r2.1 r3 e_r3) kr ?_
  refine Runs.alln ?_
  refine Wp.fg ⟨[(2, .nil), (3, .nil), (4, .t (.int .i64 0)), (5, .obj 10 0), (6, .t (.sl 1 (r2.1.map (eInt .u8)))), (8, .own 1179648)], [(10, ((l1Cur.enc r3.2).map .t))], [(1179648, .live 5 1 (r3.1.map (eInt .u8)))]⟩ ?_
  refine Wp.srg [] [] ?_
  refine Runs.batch 3 kr ?_
  obtain ⟨r4, e_r4, h⟩ := bind_some h
  refine Runs.callK false 22 25 [] [.obj 10 0] _ _ _ rfl rfl kr kr kr kr kr (spec_l4Size_ok u r3.2 r4 e_r4) kr ?_
  refine Runs.alln ?_
  refine Wp.fg ⟨[(2, .t (.sl 1 (r2.1.map (eInt .u8)))), (3, .own 1179648), (4, .t (.int .i64 r4.1))], [], [(1179648, .live 5 1 (r3.1.map (eInt .u8)))]⟩ ?_
  refine Wp.ret ?_
  obtain rfl := Option.some.inj h
  exact RetK [.t (.sl 1 (r2.1.map (eInt .u8))), .own 1179648, .t (.int .i64 r4.1)] _ [] kr kr (.refl _) .nil
theorem spec_DrawWorstFor_ok (u : Nat) (p0 : List Int) (r : (List Int) × Int × Int) (h : spec_DrawWorstFor u p0 = some r) : CallOK Tryz.prog 8 [.one (.t (.sl 1 (p0.map (eInt .u8))))] (.tup [.one (.t (.sl 1 (r.1.map (eInt .u8)))), .one (.t (.int .i64 r.2.1)), .one (.t (.int .i64 r.2.2))]) [] := by
  unfold spec_DrawWorstFor at h
  refine CallOK.of_bodyK (fn := Tryz.f8) (m := false) [.t (.sl 1 (p0.map (eInt .u8)))] kr rfl kr kr kr kr kr ?_
  refine Wp.srg [] [] ?_
  refine Runs.alln ?_
  refine Wp.fg ⟨[(0, .t (.sl 1 (p0.map (eInt .u8)))), (2, .nil), (3, .t (.int .i64 0)), (4, .t (.int .i64 0))], [], []⟩ ?_
  refine Wp.srg [] [] ?_
  refine Runs.batch 1 kr ?_
  obtain ⟨r1, e_r1, h⟩ := bind_some h
  refine Runs.callK false 9 23 [] [.t (.sl 1 (p0.map (eInt .u8)))] _ _ _ rfl rfl kr kr kr kr kr (spec_l1New_ok u p0 r1 e_r1) kr ?_
  refine Runs.alln ?_
  refine Wp.fg ⟨[(2, .nil), (3, .t (.int .i64 0)), (4, .t (.int .i64 0)), (5, .obj 9 0)], [(9, ((l1Cur.enc r1).map .t))], []⟩ ?_
  refine Wp.srg [] [] ?_
  refine Runs.batch 1 kr ?_
  obtain ⟨r2, e_r2, h⟩ := bind_some h
  refine Runs.callK false 12 24 [] [.obj 9 0] _ _ _ rfl rfl kr kr kr kr kr (spec_l27Olds_ok u r1 r2 e_r2) kr ?_
  refine Runs.alln ?_
  refine Wp.fg ⟨[(2, .nil), (3, .t (.int .i64 0)), (4, .t (.int .i64 0)), (5, .obj 9 0), (6, .t (.sl 1 (r2.1.map (eInt .u8))))], [(9, ((l1Cur.enc r2.2.2).map .t))], []⟩ ?_
  refine Wp.srg [] [] ?_
  refine Runs.batch 3 kr ?_
  obtain ⟨r3, e_r3, h⟩ := bind_some h
  refine Runs.callK false 18 27 [] [.obj 9 0, .own 1114112] _ _ _ rfl rfl kr kr kr kr kr (spec_l1Int_ok u r2.2.2 ([0, 1, 3, 7, 8, -1]) r3 e_r3) kr ?_
  refine Runs.batch 1 kr ?_
  obtain ⟨r4, e_r4, h⟩ := bind_some h
  refine Runs.callK false 20 25 [] [.obj 9 0] _ _ _ rfl rfl kr kr kr kr kr (spec_l4Size_ok u r3.2 r4 e_r4) kr ?_
  refine Runs.alln ?_
  refine Wp.fg ⟨[(2, .t (.sl 1 (r2.1.map (eInt .u8)))), (3, .t (.int .i64 r3.1)), (4, .t (.int .i64 r4.1))], [], []⟩ ?_
  refine Wp.ret ?_
  obtain rfl := Option.some.inj h
  exact RetK [.t (.sl 1 (r2.1.map (eInt .u8))), .t (.int .i64 r3.1), .t (.int .i64 r4.1)] _ [] kr kr (.refl _) .nil
theorem spec_l1In_ok (u : Nat) (p0 : Int) (p1 : Int) (p2 : Int) (r : Bool) (h : spec_l1In u p0 p1 p2 = some r) : CallOK Tryz.prog 49 [.one (.t (.int .i64 p0)), .one (.t (.int .i64 p1)), .one (.t (.int .i64 p2))] (.one (.t (.bool r))) [] := by
  unfold spec_l1In at h
  refine CallOK.of_bodyK (fn := Tryz.f49) (m := false) [.t (.int .i64 p0), .t (.int .i64 p1), .t (.int .i64 p2)] kr rfl kr kr kr kr kr ?_
  refine Wp.srg [] [] ?_
  refine Runs.alln ?_
  refine Wp.fg ⟨[(0, .t (.int .i64 p0)), (1, .t (.int .i64 p1)), (2, .t (.int .i64 p2)), (6, .t (.bool false))], [], []⟩ ?_
  refine Wp.srg [] [] ?_
  refine Runs.batch 4 kr ?_
  rcases tf (decide (p0 ≥ p1)) with hc | hc
  · have h := cond_t h hc
    refine Runs.known 10 (v := true) kr hc ?_
    refine Runs.alln ?_
    refine Wp.fg ⟨[(6, .t (.bool (decide (p0 ≤ p2))))], [], []⟩ ?_
    refine Wp.ret ?_
    obtain rfl := Option.some.inj h
    exact RetK [.t (.bool (decide (p0 ≤ p2)))] _ [] kr kr (.refl _) .nil
  have h := cond_f h hc
  refine Runs.known 10 (v := false) kr hc ?_
  refine Runs.alln ?_
  refine Wp.fg ⟨[(6, .t (.bool false))], [], []⟩ ?_
  refine Wp.ret ?_
  obtain rfl := Option.some.inj h
  exact RetK [.t (.bool false)] _ [] kr kr (.refl _) .nil
theorem spec_SizeOk_ok (u : Nat) (p0 : Int) (p1 : Int) (r : Bool) (h : spec_SizeOk u p0 p1 = some r) : CallOK Tryz.prog 31 [.one (.t (.int .i64 p0)), .one (.t (.int .i64 p1))] (.one (.t (.bool r))) [] := by
  unfold spec_SizeOk at h
  refine CallOK.of_bodyK (fn := Tryz.f31) (m := false) [.t (.int .i64 p0), .t (.int .i64 p1)] kr rfl kr kr kr kr kr ?_
  refine Wp.srg [] [] ?_
  refine Runs.alln ?_
  refine Wp.fg ⟨[(0, .t (.int .i64 p0)), (1, .t (.int .i64 p1)), (4, .t (.bool false))], [], []⟩ ?_
  refine Wp.srg [] [] ?_
  refine Runs.batch 1 kr ?_
  obtain ⟨r1, e_r1, h⟩ := bind_some h
  refine Runs.callK false 6 49 [] [.t (.int .i64 p0), .t (.int .i64 2), .t (.int .i64 6)] _ _ _ rfl rfl kr kr kr kr kr (spec_l1In_ok u p0 2 6 r1 e_r1) kr ?_
  refine Runs.batch 1 kr ?_
  rcases tf (r1) with hc | hc
  · have h := cond_t h hc
    refine Runs.known 7 (v := true) kr hc ?_
    refine Runs.batch 3 kr ?_
    obtain ⟨r2, e_r2, h⟩ := bind_some h
    refine Runs.callK false 11 49 [] [.t (.int .i64 p1), .t (.int .i64 0), .t (.int .i64 (bMul .i64 p0 40))] _ _ _ rfl rfl kr kr kr kr kr (spec_l1In_ok u p1 0 (bMul .i64 p0 40) r2 e_r2) kr ?_
    refine Runs.alln ?_
    refine Wp.fg ⟨[(4, .t (.bool r2))], [], []⟩ ?_
    refine Wp.ret ?_
    obtain rfl := Option.some.inj h
    exact RetK [.t (.bool r2)] _ [] kr kr (.refl _) .nil
  have h := cond_f h hc
  refine Runs.known 7 (v := false) kr hc ?_
  refine Runs.alln ?_
  refine Wp.fg ⟨[(4, .t (.bool false))], [], []⟩ ?_
  refine Wp.ret ?_
  obtain rfl := Option.some.inj h
  exact RetK [.t (.bool false)] _ [] kr kr (.refl _) .nil
theorem spec_CeilDiv_ok (u : Nat) (p0 : Int) (p1 : Int) (r : Int) (h : spec_CeilDiv u p0 p1 = some r) : CallOK Tryz.prog 90 [.one (.t (.int .i64 p0)), .one (.t (.int .i64 p1))] (.one (.t (.int .i64 r))) [] := by
  unfold spec_CeilDiv at h
  refine CallOK.of_bodyK (fn := Tryz.f90) (m := false) [.t (.int .i64 p0), .t (.int .i64 p1)] kr rfl kr kr kr kr kr ?_
  refine Wp.srg [] [] ?_
  refine Runs.alln ?_
  refine Wp.fg ⟨[(0, .t (.int .i64 p0)), (1, .t (.int .i64 p1)), (4, .t (.int .i64 0))], [], []⟩ ?_
  refine Wp.seq ?_
  refine Wp.seqJ (α := Int × Int × Bool) (fun a => ⟨[(0, .t (.int .i64 a.1)), (1, .t (.int .i64 a.2.1)), (4, .t (.int .i64 0)), (12, .t (.bool a.2.2))], [], []⟩) (fun a => spec_CeilDiv_j1 u a.1 a.2.1 a.2.2 = some r) ?_ ?_
  · rintro ⟨p0, p1, x3⟩ h
    change spec_CeilDiv_j1 u p0 p1 x3 = some r at h
    unfold spec_CeilDiv_j1 at h
    refine Wp.cond2 (b := x3) kr (fun hc => ?_) (fun hc => ?_)
    · have h := cond_t h hc
      refine Wp.srg [] [] ?_
      refine Runs.alln ?_
      refine Wp.fg ⟨[(0, .t (.int .i64 p0)), (1, .t (.int .i64 p1)), (4, .t (.int .i64 0))], [], []⟩ ?_
      refine Wp.ret ?_
      refine thenR ?_
      obtain rfl := Option.some.inj h
      exact RetK [.t (.int .i64 0)] _ [] kr kr (.refl _) .nil
    have h := cond_f h hc
    refine Wp.skip (thenN ?_)
    refine Wp.srg [] [] ?_
    refine Runs.batch 5 kr ?_
    obtain ⟨_, e_4, h⟩ := bind_some h
    refine Runs.num .quo (.int .i64 (bSub .i64 (bAdd .i64 p0 p1) 1)) (.int .i64 p1) (.int .i64 (bQuo .i64 (bSub .i64 (bAdd .i64 p0 p1) 1) p1)) rfl kr kr kr kr (bin_quo _ _ _ _ (by simpa using chk_some e_4)) ?_
    refine Runs.alln ?_
    refine Wp.fg ⟨[(4, .t (.int .i64 (bQuo .i64 (bSub .i64 (bAdd .i64 p0 p1) 1) p1)))], [], []⟩ ?_
    refine Wp.ret ?_
    obtain rfl := Option.some.inj h
    exact RetK [.t (.int .i64 (bQuo .i64 (bSub .i64 (bAdd .i64 p0 p1) 1) p1))] _ [] kr kr (.refl _) .nil
  · refine Wp.rg [] [] ?_
    refine Runs.batch 1 kr ?_
    obtain ⟨r1, e_r1, h⟩ := bind_some h
    refine Runs.callK false 6 49 [] [.t (.int .i64 p0), .t (.int .i64 0), .t (.int .i64 1000000000000)] _ _ _ rfl rfl kr kr kr kr kr (spec_l1In_ok u p0 0 1000000000000 r1 e_r1) kr ?_
    refine Runs.batch 2 kr ?_
    rcases tf (!r1) with hc | hc
    · have h := cond_t h hc
      refine Runs.known 8 (v := true) kr hc ?_
      refine Runs.alln ?_
      exact ⟨(p0, p1, true), h, Le.of (mo := []) (mr := []) kr kr kr kr⟩
    have h := cond_f h hc
    refine Runs.known 8 (v := false) kr hc ?_
    refine Runs.batch 1 kr ?_
    obtain ⟨r2, e_r2, h⟩ := bind_some h
    refine Runs.callK false 10 49 [] [.t (.int .i64 p1), .t (.int .i64 1), .t (.int .i64 1000000000000)] _ _ _ rfl rfl kr kr kr kr kr (spec_l1In_ok u p1 1 1000000000000 r2 e_r2) kr ?_
    refine Runs.alln ?_
    exact ⟨(p0, p1, !r2), h, Le.of (mo := []) (mr := []) kr kr kr kr⟩
theorem spec_Blocks_ok (u : Nat) (p0 : Int) (p1 : Int) (r : Int) (h : spec_Blocks u p0 p1 = some r) : CallOK Tryz.prog 69 [.one (.t (.int .i64 p0)), .one (.t (.int .i64 p1))] (.one (.t (.int .i64 r))) [] := by
  unfold spec_Blocks at h
  refine CallOK.of_bodyK (fn := Tryz.f69) (m := false) [.t (.int .i64 p0), .t (.int .i64 p1)] kr rfl kr kr kr kr kr ?_
  refine Wp.srg [] [] ?_
  refine Runs.alln ?_
  refine Wp.fg ⟨[(0, .t (.int .i64 p0)), (1, .t (.int .i64 p1)), (4, .t (.int .i64 0))], [], []⟩ ?_
  refine Wp.seq ?_
  refine Wp.srg [] [] ?_
  refine Runs.batch 2 kr ?_
  obtain ⟨r1, e_r1, h⟩ := bind_some h
  refine Runs.callK false 7 31 [] [.t (.int .i64 p0), .t (.int .i64 p1)] _ _ _ rfl rfl kr kr kr kr kr (spec_SizeOk_ok u p0 p1 r1 e_r1) kr ?_
  refine Runs.alln ?_
  refine Wp.fg ⟨[(0, .t (.int .i64 p0)), (1, .t (.int .i64 p1)), (4, .t (.int .i64 0)), (8, .t (.bool (!r1)))], [], []⟩ ?_
  refine Wp.cond2 (b := !r1) kr (fun hc => ?_) (fun hc => ?_)
  · have h := cond_t h hc
    refine Wp.srg [] [] ?_
    refine Runs.alln ?_
    refine Wp.fg ⟨[(0, .t (.int .i64 p0)), (1, .t (.int .i64 p1)), (4, .t (.int .i64 0))], [], []⟩ ?_
    refine Wp.ret ?_
    refine thenR ?_
    obtain rfl := Option.some.inj h
    exact RetK [.t (.int .i64 0)] _ [] kr kr (.refl _) .nil
  have h := cond_f h hc
  refine Wp.skip (thenN ?_)
  refine Wp.srg [] [] ?_
  refine Runs.batch 2 kr ?_
  obtain ⟨r2, e_r2, h⟩ := bind_some h
  refine Runs.callK false 11 90 [] [.t (.int .i64 p1), .t (.int .i64 p0)] _ _ _ rfl rfl kr kr kr kr kr (spec_CeilDiv_ok u p1 p0 r2 e_r2) kr ?_
  refine Runs.alln ?_
  refine Wp.fg ⟨[(4, .t (.int .i64 r2))], [], []⟩ ?_
  refine Wp.ret ?_
  obtain rfl := Option.some.inj h
  exact RetK [.t (.int .i64 r2)] _ [] kr kr (.refl _) .nil
theorem spec_Least_ok (u : Nat) (p0 : Int) (p1 : Int) (r : Int) (h : spec_Least u p0 p1 = some r) : CallOK Tryz.prog 75 [.one (.t (.int .i64 p0)), .one (.t (.int .i64 p1))] (.one (.t (.int .i64 r))) [] := by
  unfold spec_Least at h
  refine CallOK.of_bodyK (fn := Tryz.f75) (m := false) [.t (.int .i64 p0), .t (.int .i64 p1)] kr rfl kr kr kr kr kr ?_
  refine Wp.srg [] [] ?_
  refine Runs.alln ?_
  refine Wp.fg ⟨[(0, .t (.int .i64 p0)), (1, .t (.int .i64 p1)), (4, .t (.int .i64 0))], [], []⟩ ?_
  refine Wp.seq ?_
  refine Wp.srg [] [] ?_
  refine Runs.alln ?_
  refine Wp.fg ⟨[(0, .t (.int .i64 p0)), (1, .t (.int .i64 p1)), (4, .t (.int .i64 0)), (7, .t (.bool (decide (p1 < p0))))], [], []⟩ ?_
  refine Wp.cond2 (b := decide (p1 < p0)) kr (fun hc => ?_) (fun hc => ?_)
  · have h := cond_t h hc
    refine Wp.srg [] [] ?_
    refine Runs.alln ?_
    refine Wp.fg ⟨[(0, .t (.int .i64 p0)), (4, .t (.int .i64 p1))], [], []⟩ ?_
    refine Wp.ret ?_
    refine thenR ?_
    obtain rfl := Option.some.inj h
    exact RetK [.t (.int .i64 p1)] _ [] kr kr (.refl _) .nil
  have h := cond_f h hc
  refine Wp.skip (thenN ?_)
  refine Wp.srg [] [] ?_
  refine Runs.alln ?_
  refine Wp.fg ⟨[(4, .t (.int .i64 p0))], [], []⟩ ?_
  refine Wp.ret ?_
  obtain rfl := Option.some.inj h
  exact RetK [.t (.int .i64 p0)] _ [] kr kr (.refl _) .nil
theorem spec_SpanOf_ok (u : Nat) (p0 : Int) (p1 : Int) (p2 : Int) (r : Int × Int) (h : spec_SpanOf u p0 p1 p2 = some r) : CallOK Tryz.prog 53 [.one (.t (.int .i64 p0)), .one (.t (.int .i64 p1)), .one (.t (.int .i64 p2))] (.tup [.one (.t (.int .i64 r.1)), .one (.t (.int .i64 r.2))]) [] := by
  unfold spec_SpanOf at h
  refine CallOK.of_bodyK (fn := Tryz.f53) (m := false) [.t (.int .i64 p0), .t (.int .i64 p1), .t (.int .i64 p2)] kr rfl kr kr kr kr kr ?_
  refine Wp.srg [] [] ?_
  refine Runs.alln ?_
  refine Wp.fg ⟨[(0, .t (.int .i64 p0)), (1, .t (.int .i64 p1)), (2, .t (.int .i64 p2)), (6, .t (.int .i64 0)), (7, .t (.int .i64 0))], [], []⟩ ?_
  refine Wp.seq ?_
  refine Wp.srg [] [] ?_
  refine Runs.batch 3 kr ?_
  obtain ⟨r1, e_r1, h⟩ := bind_some h
  refine Runs.callK false 11 69 [] [.t (.int .i64 p0), .t (.int .i64 p1)] _ _ _ rfl rfl kr kr kr kr kr (spec_Blocks_ok u p0 p1 r1 e_r1) kr ?_
  refine Runs.batch 1 kr ?_
  obtain ⟨r2, e_r2, h⟩ := bind_some h
  refine Runs.callK false 13 49 [] [.t (.int .i64 p2), .t (.int .i64 0), .t (.int .i64 (bSub .i64 r1 1))] _ _ _ rfl rfl kr kr kr kr kr (spec_l1In_ok u p2 0 (bSub .i64 r1 1) r2 e_r2) kr ?_
  refine Runs.alln ?_
  refine Wp.fg ⟨[(0, .t (.int .i64 p0)), (1, .t (.int .i64 p1)), (2, .t (.int .i64 p2)), (6, .t (.int .i64 0)), (7, .t (.int .i64 0)), (14, .t (.bool (!r2)))], [], []⟩ ?_
  refine Wp.cond2 (b := !r2) kr (fun hc => ?_) (fun hc => ?_)
  · have h := cond_t h hc
    refine Wp.srg [] [] ?_
    refine Runs.alln ?_
    refine Wp.fg ⟨[(0, .t (.int .i64 p0)), (1, .t (.int .i64 p1)), (2, .t (.int .i64 p2)), (6, .t (.int .i64 0)), (7, .t (.int .i64 0))], [], []⟩ ?_
    refine Wp.ret ?_
    refine thenR ?_
    obtain rfl := Option.some.inj h
    exact RetK [.t (.int .i64 0), .t (.int .i64 0)] _ [] kr kr (.refl _) .nil
  have h := cond_f h hc
  refine Wp.skip (thenN ?_)
  refine Wp.srg [] [] ?_
  refine Runs.batch 9 kr ?_
  obtain ⟨r3, e_r3, h⟩ := bind_some h
  refine Runs.callK false 24 75 [] [.t (.int .i64 p0), .t (.int .i64 (bSub .i64 p1 (bMul .i64 p2 p0)))] _ _ _ rfl rfl kr kr kr kr kr (spec_Least_ok u p0 (bSub .i64 p1 (bMul .i64 p2 p0)) r3 e_r3) kr ?_
  refine Runs.alln ?_
  refine Wp.fg ⟨[(6, .t (.int .i64 (bMul .i64 p2 p0))), (7, .t (.int .i64 r3))], [], []⟩ ?_
  refine Wp.ret ?_
  obtain rfl := Option.some.inj h
  exact RetK [.t (.int .i64 (bMul .i64 p2 p0)), .t (.int .i64 r3)] _ [] kr kr (.refl _) .nil
theorem spec_BlockAt_ok (u : Nat) (p0 : List Int) (p1 : Int) (p2 : Int) (r : (List Int) × Bool) (h : spec_BlockAt u p0 p1 p2 = some r) : CallOK Tryz.prog 70 [.one (.t (.sl 1 (p0.map (eInt .u8)))), .one (.t (.int .i64 p1)), .one (.t (.int .i64 p2))] (.tup [.one (.ow 5 1 (r.1.map (eInt .u8))), .one (.t (.bool r.2))]) [] := by
  unfold spec_BlockAt at h
  refine CallOK.of_bodyK (fn := Tryz.f70) (m := true) [.t (.sl 1 (p0.map (eInt .u8))), .t (.int .i64 p1), .t (.int .i64 p2)] kr rfl kr kr kr kr kr ?_
  refine Wp.srg [] [] ?_
  refine Runs.alln ?_
  refine Wp.fg ⟨[(0, .t (.sl 1 (p0.map (eInt .u8)))), (1, .t (.int .i64 p1)), (2, .t (.int .i64 p2)), (6, .nil), (7, .t (.bool false))], [], []⟩ ?_
  refine Wp.srg [] [] ?_
  refine Runs.batch 2 kr ?_
  refine Runs.lenT (y := .t (.sl 1 (p0.map (eInt .u8)))) (e := 5) (eInt .u8) p0 1 rfl rfl rfl kr kr kr kr kr ?_
  refine Runs.batch 1 kr ?_
  obtain ⟨r1, e_r1, h⟩ := bind_some h
  refine Runs.callK false 15 53 [] [.t (.int .i64 p1), .t (.int .i64 ((p0.length : Int))), .t (.int .i64 p2)] _ _ _ rfl rfl kr kr kr kr kr (spec_SpanOf_ok u p1 ((p0.length : Int)) p2 r1 e_r1) kr ?_
  refine Runs.alln ?_
  refine Wp.fg ⟨[(0, .t (.sl 1 (p0.map (eInt .u8)))), (6, .nil), (7, .t (.bool false)), (8, .t (.int .i64 r1.1)), (9, .t (.int .i64 r1.2))], [], []⟩ ?_
  refine Wp.seq ?_
  refine Wp.srg [] [] ?_
  refine Runs.alln ?_
  refine Wp.fg ⟨[(0, .t (.sl 1 (p0.map (eInt .u8)))), (6, .nil), (7, .t (.bool false)), (8, .t (.int .i64 r1.1)), (9, .t (.int .i64 r1.2)), (19, .t (.bool (r1.2 == 0)))], [], []⟩ ?_
  refine Wp.cond2 (b := r1.2 == 0) kr (fun hc => ?_) (fun hc => ?_)
  · have h := cond_t h hc
    refine Wp.srg [] [] ?_
    refine Runs.alln ?_
    refine Wp.fg ⟨[(0, .t (.sl 1 (p0.map (eInt .u8)))), (6, .own 1310720), (7, .t (.bool false)), (8, .t (.int .i64 r1.1)), (9, .t (.int .i64 r1.2))], [], [(1310720, .live 5 1 ((([] : List Int)).map (eInt .u8)))]⟩ ?_
    refine Wp.ret ?_
    refine thenR ?_
    obtain rfl := Option.some.inj h
    exact RetK [.own 1310720, .t (.bool false)] _ [] kr kr (.refl _) .nil
  have h := cond_f h hc
  refine Wp.skip (thenN ?_)
  refine Wp.srg [] [] ?_
  refine Runs.batch 6 kr ?_
  obtain ⟨_, e_2, h⟩ := bind_some h
  refine Runs.subsl (e := 5) (ax := .t (.sl 1 (p0.map (eInt .u8)))) (alo := (some (.t (.int .i64 r1.1)))) (ahi := (some (.t (.int .i64 (bAdd .i64 r1.1 r1.2))))) (eInt .u8) p0 1 r1.1 (bAdd .i64 r1.1 r1.2) rfl kr kr kr kr kr kr kr kr kr kr kr (chk_some e_2) ?_
  obtain ⟨_, e_3, h⟩ := bind_some h
  refine Runs.appT (y := .t (.sl 1 (((p0.take (Int.toNat (bAdd .i64 r1.1 r1.2))).drop (Int.toNat r1.1)).map (eInt .u8)))) (eInt .u8) 28 1 5 1 1 1376256 (([] : List Int)) ((p0.take (Int.toNat (bAdd .i64 r1.1 r1.2))).drop (Int.toNat r1.1)) rfl rfl rfl rfl kr kr kr kr kr kr (.inl rfl) kr (of_decide_eq_true (chk_some e_3)) kr kr ?_
  refine Runs.alln ?_
  refine Wp.fg ⟨[(6, .own 1835008), (7, .t (.bool true))], [], [(1835008, .live 5 1 (((([] : List Int)) ++ ((p0.take (Int.toNat (bAdd .i64 r1.1 r1.2))).drop (Int.toNat r1.1))).map (eInt .u8)))]⟩ ?_
  refine Wp.ret ?_
  obtain rfl := Option.some.inj h
  exact RetK [.own 1835008, .t (.bool true)] _ [] kr kr (.refl _) .nil
theorem spec_WeakOf_ok (u : Nat) (p0 : List Int) (r : Int) (h : spec_WeakOf u p0 = some r) : CallOK Tryz.prog 91 [.one (.t (.sl 1 (p0.map (eInt .u8))))] (.one (.t (.int .i64 r))) [] := by
  unfold spec_WeakOf at h
  refine CallOK.of_bodyK (fn := Tryz.f91) (m := false) [.t (.sl 1 (p0.map (eInt .u8)))] kr rfl kr kr kr kr kr ?_
  refine Wp.srg [] [] ?_
  refine Runs.alln ?_
  refine Wp.fg ⟨[(0, .t (.sl 1 (p0.map (eInt .u8)))), (2, .t (.int .i64 0))], [], []⟩ ?_
  refine Wp.srg [] [] ?_
  refine Runs.alln ?_
  refine Wp.fg ⟨[(0, .t (.sl 1 (p0.map (eInt .u8)))), (2, .t (.int .i64 0)), (3, .t (.int .i64 0))], [], []⟩ ?_
  refine Wp.srg [] [] ?_
  refine Runs.alln ?_
  refine Wp.fg ⟨[(0, .t (.sl 1 (p0.map (eInt .u8)))), (2, .t (.int .i64 0)), (3, .t (.int .i64 0)), (4, .t (.int .i64 0))], [], []⟩ ?_
  refine Wp.seqJ (α := Int × Int) (fun a => ⟨[(2, .t (.int .i64 0)), (3, .t (.int .i64 a.1)), (4, .t (.int .i64 a.2))], [], []⟩) (fun a => spec_WeakOf_j1 u a.1 a.2 = some r) ?_ ?_
  · rintro ⟨x11, x12⟩ h
    change spec_WeakOf_j1 u x11 x12 = some r at h
    unfold spec_WeakOf_j1 at h
    refine Wp.srg [] [] ?_
    refine Runs.alln ?_
    refine Wp.fg ⟨[(2, .t (.int .i64 (bAdd .i64 x11 (bMul .i64 251 x12))))], [], []⟩ ?_
    refine Wp.ret ?_
    obtain rfl := Option.some.inj h
    exact RetK [.t (.int .i64 (bAdd .i64 x11 (bMul .i64 251 x12)))] _ [] kr kr (.refl _) .nil
  · refine Wp.srg [] [] ?_
    refine Runs.alln ?_
    refine Wp.fg ⟨[(0, .t (.sl 1 (p0.map (eInt .u8)))), (2, .t (.int .i64 0)), (3, .t (.int .i64 0)), (4, .t (.int .i64 0)), (5, .t (.int .i64 0))], [], []⟩ ?_
    refine Wp.block ?_
    refine Wp.loopF (α := (List Int) × Int × Int × Int) (fun a => ⟨[(0, .t (.sl 1 (a.1.map (eInt .u8)))), (2, .t (.int .i64 0)), (3, .t (.int .i64 a.2.1)), (4, .t (.int .i64 a.2.2.1)), (5, .t (.int .i64 a.2.2.2))], [], []⟩) (fun k_spec_WeakOf_l2 a => spec_WeakOf_l2 u k_spec_WeakOf_l2 a.1 a.2.1 a.2.2.1 a.2.2.2 = some r) ?_ ?_ u (p0, 0, 0, 0) h (Le.of (mo := []) (mr := []) kr kr kr kr)
    · intro a h; unfold spec_WeakOf_l2 at h; cases h
    · rintro k_spec_WeakOf_l2 ⟨p0, x4, x5, x6⟩ h
      change spec_WeakOf_l2 u (k_spec_WeakOf_l2 + 1) p0 x4 x5 x6 = some r at h
      rw [spec_WeakOf_l2] at h
      refine Wp.seq ?_
      refine Wp.srg [] [] ?_
      refine Runs.batch 2 kr ?_
      refine Runs.lenT (y := .t (.sl 1 (p0.map (eInt .u8)))) (e := 5) (eInt .u8) p0 1 rfl rfl rfl kr kr kr kr kr ?_
      refine Runs.alln ?_
      refine Wp.fg ⟨[(0, .t (.sl 1 (p0.map (eInt .u8)))), (2, .t (.int .i64 0)), (3, .t (.int .i64 x4)), (4, .t (.int .i64 x5)), (5, .t (.int .i64 x6)), (9, .t (.bool (decide (x6 < ((p0.length : Int))))))], [], []⟩ ?_
      refine Wp.cond2 (b := decide (x6 < ((p0.length : Int)))) kr (fun hc => ?_) (fun hc => ?_)
      · have h := cond_t h hc
        refine Wp.skip (thenN ?_)
        refine Wp.seq ?_
        refine Wp.block ?_
        refine Wp.srg [] [] ?_
        refine Runs.batch 3 kr ?_
        obtain ⟨y10, e_y10, h⟩ := bind_some h
        refine Runs.idxT (e := 5) (kk := .i64) (sz := 1) (eInt .u8) p0 x6 rfl kr kr kr kr kr kr e_y10 ?_
        refine Runs.alln ?_
        refine Wp.fg ⟨[(0, .t (.sl 1 (p0.map (eInt .u8)))), (2, .t (.int .i64 0)), (3, .t (.int .i64 (bRem .i64 (bAdd .i64 x4 (IntKind.wrap .i64 y10)) 251))), (4, .t (.int .i64 x5)), (5, .t (.int .i64 x6))], [], []⟩ ?_
        refine Wp.rg [] [] ?_
        refine Runs.all kr ?_
        refine blkN ?_
        refine thenN ?_
        refine Wp.rg [] [] ?_
        refine Runs.alln ?_
        exact ⟨(p0, bRem .i64 (bAdd .i64 x4 (IntKind.wrap .i64 y10)) 251, bRem .i64 (bAdd .i64 x5 (bRem .i64 (bAdd .i64 x4 (IntKind.wrap .i64 y10)) 251)) 251, bAdd .i64 x6 1), h, Le.of (mo := []) (mr := []) kr kr kr kr⟩
      have h := cond_f h hc
      refine Wp.exit ?_
      refine thenE ?_
      refine thenE ?_
      refine blkE ?_
      refine thenN ?_
      exact ⟨(x4, x5), h, Le.of (mo := []) (mr := []) kr kr kr kr⟩
theorem spec_SumOf_ok (u : Nat) (p0 : List Int) (r : Sum) (h : spec_SumOf u p0 = some r) : CallOK Tryz.prog 71 [.one (.t (.sl 1 (p0.map (eInt .u8))))] (.agg [.t (.int .i64 r.fW), .t (.int .i64 r.fS)]) [] := by
  unfold spec_SumOf at h
  refine CallOK.of_bodyK (fn := Tryz.f71) (m := false) [.t (.sl 1 (p0.map (eInt .u8)))] kr rfl kr kr kr kr kr ?_
  refine Wp.srg [] [] ?_
  refine Runs.alln ?_
  refine Wp.fg ⟨[(0, .t (.sl 1 (p0.map (eInt .u8)))), (2, .obj 2 0)], [(2, [.t (.int .i64 0), .t (.int .i64 0)])], []⟩ ?_
  refine Wp.seq ?_
  refine Wp.srg [] [] ?_
  refine Runs.batch 1 kr ?_
  refine Runs.lenT (y := .t (.sl 1 (p0.map (eInt .u8)))) (e := 5) (eInt .u8) p0 1 rfl rfl rfl kr kr kr kr kr ?_
  refine Runs.alln ?_
  refine Wp.fg ⟨[(0, .t (.sl 1 (p0.map (eInt .u8)))), (2, .obj 2 0), (7, .t (.bool (decide (((p0.length : Int)) > 6))))], [(2, [.t (.int .i64 0), .t (.int .i64 0)])], []⟩ ?_
  refine Wp.cond2 (b := decide (((p0.length : Int)) > 6)) kr (fun hc => ?_) (fun hc => ?_)
  · have h := cond_t h hc
    refine Wp.srg [] [] ?_
    refine Runs.alln ?_
    refine Wp.fg ⟨[(0, .t (.sl 1 (p0.map (eInt .u8)))), (2, .obj 2 0)], [(2, [.t (.int .i64 0), .t (.int .i64 0)])], []⟩ ?_
    refine Wp.ret ?_
    refine thenR ?_
    obtain rfl := Option.some.inj h
    exact RetK [.agg [.t (.int .i64 0), .t (.int .i64 0)]] _ [] kr kr (.refl _) .nil
  have h := cond_f h hc
  refine Wp.skip (thenN ?_)
  refine Wp.srg [] [] ?_
  refine Runs.alln ?_
  refine Wp.fg ⟨[(0, .t (.sl 1 (p0.map (eInt .u8)))), (2, .obj 2 0), (3, .t (.int .i64 1))], [(2, [.t (.int .i64 0), .t (.int .i64 0)])], []⟩ ?_
  refine Wp.seqJ (α := (List Int) × Int) (fun a => ⟨[(0, .t (.sl 1 (a.1.map (eInt .u8)))), (2, .obj 2 0), (3, .t (.int .i64 a.2))], [(2, [.t (.int .i64 0), .t (.int .i64 0)])], []⟩) (fun a => spec_SumOf_j1 u a.1 a.2 = some r) ?_ ?_
  · rintro ⟨p0, x8⟩ h
    change spec_SumOf_j1 u p0 x8 = some r at h
    unfold spec_SumOf_j1 at h
    refine Wp.srg [] [] ?_
    refine Runs.batch 1 kr ?_
    obtain ⟨r9, e_r9, h⟩ := bind_some h
    refine Runs.callK false 24 91 [] [.t (.sl 1 (p0.map (eInt .u8)))] _ _ _ rfl rfl kr kr kr kr kr (spec_WeakOf_ok u p0 r9 e_r9) kr ?_
    refine Runs.alln ?_
    refine Wp.fg ⟨[(2, .obj 2 0)], [(2, [.t (.int .i64 r9), .t (.int .i64 x8)])], []⟩ ?_
    refine Wp.ret ?_
    obtain rfl := Option.some.inj h
    exact RetK [.agg [.t (.int .i64 r9), .t (.int .i64 x8)]] _ [] kr kr (.refl _) .nil
  · refine Wp.srg [] [] ?_
    refine Runs.alln ?_
    refine Wp.fg ⟨[(0, .t (.sl 1 (p0.map (eInt .u8)))), (2, .obj 2 0), (3, .t (.int .i64 1)), (4, .t (.int .i64 0))], [(2, [.t (.int .i64 0), .t (.int .i64 0)])], []⟩ ?_
    refine Wp.block ?_
    refine Wp.loopF (α := (List Int) × Int × Int) (fun a => ⟨[(0, .t (.sl 1 (a.1.map (eInt .u8)))), (2, .obj 2 0), (3, .t (.int .i64 a.2.1)), (4, .t (.int .i64 a.2.2))], [(2, [.t (.int .i64 0), .t (.int .i64 0)])], []⟩) (fun k_spec_SumOf_l2 a => spec_SumOf_l2 u k_spec_SumOf_l2 a.1 a.2.1 a.2.2 = some r) ?_ ?_ u (p0, 1, 0) h (Le.of (mo := []) (mr := []) kr kr kr kr)
    · intro a h; unfold spec_SumOf_l2 at h; cases h
    · rintro k_spec_SumOf_l2 ⟨p0, x3, x4⟩ h
      change spec_SumOf_l2 u (k_spec_SumOf_l2 + 1) p0 x3 x4 = some r at h
      rw [spec_SumOf_l2] at h
      refine Wp.seq ?_
      refine Wp.srg [] [] ?_
      refine Runs.batch 2 kr ?_
      refine Runs.lenT (y := .t (.sl 1 (p0.map (eInt .u8)))) (e := 5) (eInt .u8) p0 1 rfl rfl rfl kr kr kr kr kr ?_
      refine Runs.alln ?_
      refine Wp.fg ⟨[(0, .t (.sl 1 (p0.map (eInt .u8)))), (2, .obj 2 0), (3, .t (.int .i64 x3)), (4, .t (.int .i64 x4)), (12, .t (.bool (decide (x4 < ((p0.length : Int))))))], [(2, [.t (.int .i64 0), .t (.int .i64 0)])], []⟩ ?_
      refine Wp.cond2 (b := decide (x4 < ((p0.length : Int)))) kr (fun hc => ?_) (fun hc => ?_)
      · have h := cond_t h hc
        refine Wp.skip (thenN ?_)
        refine Wp.seq ?_
        refine Wp.block ?_
        refine Wp.rg [] [] ?_
        refine Runs.batch 4 kr ?_
        obtain ⟨y7, e_y7, h⟩ := bind_some h
        refine Runs.idxT (e := 5) (kk := .i64) (sz := 1) (eInt .u8) p0 x4 rfl kr kr kr kr kr kr e_y7 ?_
        refine Runs.all kr ?_
        refine blkN ?_
        refine thenN ?_
        refine Wp.rg [] [] ?_
        refine Runs.alln ?_
        exact ⟨(p0, bAdd .i64 (bMul .i64 256 x3) (IntKind.wrap .i64 y7), bAdd .i64 x4 1), h, Le.of (mo := []) (mr := []) kr kr kr kr⟩
      have h := cond_f h hc
      refine Wp.exit ?_
      refine thenE ?_
      refine thenE ?_
      refine blkE ?_
      refine thenN ?_
      exact ⟨(p0, x3), h, Le.of (mo := []) (mr := []) kr kr kr kr⟩
theorem spec_SumsOf_ok (u : Nat) (p0 : List Int) (p1 : Int) (r : (List Sum)) (h : spec_SumsOf u p0 p1 = some r) : CallOK Tryz.prog 50 [.one (.t (.sl 1 (p0.map (eInt .u8)))), .one (.t (.int .i64 p1))] (.one (.ow 69 2 (r.map Sum.enc))) [] := by
  unfold spec_SumsOf at h
  refine CallOK.of_bodyK (fn := Tryz.f50) (m := true) [.t (.sl 1 (p0.map (eInt .u8))), .t (.int .i64 p1)] kr rfl kr kr kr kr kr ?_
  refine Wp.srg [] [] ?_
  refine Runs.alln ?_
  refine Wp.fg ⟨[(0, .t (.sl 1 (p0.map (eInt .u8)))), (1, .t (.int .i64 p1)), (4, .nil)], [], []⟩ ?_
  refine Wp.srg [] [] ?_
  refine Runs.alln ?_
  refine Wp.fg ⟨[(0, .t (.sl 1 (p0.map (eInt .u8)))), (1, .t (.int .i64 p1)), (4, .nil), (5, .own 589824)], [], [(589824, .live 69 2 ((([] : List Sum)).map Sum.enc))]⟩ ?_
  refine Wp.seqJ (α := (List Sum)) (fun a => ⟨[(4, .nil), (5, .own 327681)], [], [(327681, .live 69 2 (a.map Sum.enc))]⟩) (fun a => spec_SumsOf_j1 u a = some r) ?_ ?_
  · rintro x10 h
    change spec_SumsOf_j1 u x10 = some r at h
    unfold spec_SumsOf_j1 at h
    refine Wp.srg [] [] ?_
    refine Runs.alln ?_
    refine Wp.fg ⟨[(4, .own 327681)], [], [(327681, .live 69 2 (x10.map Sum.enc))]⟩ ?_
    refine Wp.ret ?_
    obtain rfl := Option.some.inj h
    exact RetK [.own 327681] _ [] kr kr (.refl _) .nil
  · refine Wp.srg [] [] ?_
    refine Runs.alln ?_
    refine Wp.fg ⟨[(0, .t (.sl 1 (p0.map (eInt .u8)))), (1, .t (.int .i64 p1)), (4, .nil), (5, .own 589824), (6, .t (.int .i64 0))], [], [(589824, .live 69 2 ((([] : List Sum)).map Sum.enc))]⟩ ?_
    refine Wp.block ?_
    refine Wp.loopF (α := (List Int) × Int × (List Sum) × Int) (fun a => ⟨[(0, .t (.sl 1 (a.1.map (eInt .u8)))), (1, .t (.int .i64 a.2.1)), (4, .nil), (5, .own 327681), (6, .t (.int .i64 a.2.2.2))], [], [(327681, .live 69 2 (a.2.2.1.map Sum.enc))]⟩) (fun k_spec_SumsOf_l2 a => spec_SumsOf_l2 u k_spec_SumsOf_l2 a.1 a.2.1 a.2.2.1 a.2.2.2 = some r) ?_ ?_ u (p0, p1, ([] : List Sum), 0) h (Le.of (mo := []) (mr := [(327681, 589824)]) kr kr kr kr)
    · intro a h; unfold spec_SumsOf_l2 at h; cases h
    · rintro k_spec_SumsOf_l2 ⟨p0, p1, x3, x4⟩ h
      change spec_SumsOf_l2 u (k_spec_SumsOf_l2 + 1) p0 p1 x3 x4 = some r at h
      rw [spec_SumsOf_l2] at h
      refine Wp.seq ?_
      refine Wp.srg [] [] ?_
      refine Runs.batch 3 kr ?_
      refine Runs.lenT (y := .t (.sl 1 (p0.map (eInt .u8)))) (e := 5) (eInt .u8) p0 1 rfl rfl rfl kr kr kr kr kr ?_
      obtain ⟨r7, e_r7, h⟩ := bind_some h
      refine Runs.callK false 14 69 [] [.t (.int .i64 p1), .t (.int .i64 ((p0.length : Int)))] _ _ _ rfl rfl kr kr kr kr kr (spec_Blocks_ok u p1 ((p0.length : Int)) r7 e_r7) kr ?_
      refine Runs.alln ?_
      refine Wp.fg ⟨[(0, .t (.sl 1 (p0.map (eInt .u8)))), (1, .t (.int .i64 p1)), (4, .nil), (5, .own 327681), (6, .t (.int .i64 x4)), (15, .t (.bool (decide (x4 < r7))))], [], [(327681, .live 69 2 (x3.map Sum.enc))]⟩ ?_
      refine Wp.cond2 (b := decide (x4 < r7)) kr (fun hc => ?_) (fun hc => ?_)
      · have h := cond_t h hc
        refine Wp.skip (thenN ?_)
        refine Wp.seq ?_
        refine Wp.block ?_
        refine Wp.srg [] [] ?_
        refine Runs.batch 3 kr ?_
        obtain ⟨r8, e_r8, h⟩ := bind_some h
        refine Runs.callK false 22 70 [] [.t (.sl 1 (p0.map (eInt .u8))), .t (.int .i64 p1), .t (.int .i64 x4)] _ _ _ rfl rfl kr kr kr kr kr (spec_BlockAt_ok u p0 p1 x4 r8 e_r8) kr ?_
        refine Runs.alln ?_
        refine Wp.fg ⟨[(0, .t (.sl 1 (p0.map (eInt .u8)))), (1, .t (.int .i64 p1)), (4, .nil), (5, .own 327681), (6, .t (.int .i64 x4)), (7, .own 1441792)], [], [(327681, .live 69 2 (x3.map Sum.enc)), (1441792, .live 5 1 (r8.1.map (eInt .u8)))]⟩ ?_
        refine Wp.rg [] [] ?_
        refine Runs.batch 2 kr ?_
        obtain ⟨r9, e_r9, h⟩ := bind_some h
        refine Runs.callBK 27 71 [] [.own 1441792] [.one (.t (.sl 1 (r8.1.map (eInt .u8))))] (.agg [.t (.int .i64 r9.fW), .t (.int .i64 r9.fS)]) rfl rfl kr kr kr kr kr (spec_SumOf_ok u r8.1 r9 e_r9) (by simp [V.plain, V.plains, C.plain, T.sc]) kr ?_
        refine Runs.batch 1 kr ?_
        obtain ⟨_, e_10, h⟩ := bind_some h
        refine Runs.appT (y := .own 1835008) Sum.enc 29 2 69 2 16 327681 x3 ([r9]) rfl rfl rfl rfl kr kr kr kr kr kr (.inl rfl) kr (of_decide_eq_true (chk_some e_10)) kr kr ?_
        refine Runs.all kr ?_
        refine blkN ?_
        refine thenN ?_
        refine Wp.rg [] [] ?_
        refine Runs.alln ?_
        exact ⟨(p0, p1, x3 ++ ([r9]), bAdd .i64 x4 1), h, Le.of (mo := []) (mr := [(327681, 1900544)]) kr kr kr kr⟩
      have h := cond_f h hc
      refine Wp.exit ?_
      refine thenE ?_
      refine thenE ?_
      refine blkE ?_
      refine thenN ?_
      exact ⟨x3, h, Le.of (mo := []) (mr := []) kr kr kr kr⟩
theorem spec_ManOf_ok (u : Nat) (p0 : Int) (p1 : List Int) (p2 : Int) (r : Manifest) (h : spec_ManOf u p0 p1 p2 = some r) : CallOK Tryz.prog 32 [.one (.t (.int .i64 p0)), .one (.t (.sl 1 (p1.map (eInt .u8)))), .one (.t (.int .i64 p2))] (.agg [.t (.int .i64 r.fGen), .t (.int .i64 r.fSize), .t (.int .i64 r.fLen), .ow 69 2 (r.fSums.map Sum.enc)]) [] := by
  unfold spec_ManOf at h
  refine CallOK.of_bodyK (fn := Tryz.f32) (m := true) [.t (.int .i64 p0), .t (.sl 1 (p1.map (eInt .u8))), .t (.int .i64 p2)] kr rfl kr kr kr kr kr ?_
  refine Wp.srg [] [] ?_
  refine Runs.alln ?_
  refine Wp.fg ⟨[(0, .t (.int .i64 p0)), (1, .t (.sl 1 (p1.map (eInt .u8)))), (2, .t (.int .i64 p2)), (6, .obj 6 0)], [(6, [.t (.int .i64 0), .t (.int .i64 0), .t (.int .i64 0), .nil])], []⟩ ?_
  refine Wp.seq ?_
  refine Wp.seqJ (α := Int × (List Int) × Int × Bool) (fun a => ⟨[(0, .t (.int .i64 a.1)), (1, .t (.sl 1 (a.2.1.map (eInt .u8)))), (2, .t (.int .i64 a.2.2.1)), (6, .obj 6 0), (16, .t (.bool a.2.2.2))], [(6, [.t (.int .i64 0), .t (.int .i64 0), .t (.int .i64 0), .nil])], []⟩) (fun a => spec_ManOf_j1 u a.1 a.2.1 a.2.2.1 a.2.2.2 = some r) ?_ ?_
  · rintro ⟨p0, p1, p2, x3⟩ h
    change spec_ManOf_j1 u p0 p1 p2 x3 = some r at h
    unfold spec_ManOf_j1 at h
    refine Wp.cond2 (b := x3) kr (fun hc => ?_) (fun hc => ?_)
    · have h := cond_t h hc
      refine Wp.srg [] [] ?_
      refine Runs.alln ?_
      refine Wp.fg ⟨[(0, .t (.int .i64 p0)), (1, .t (.sl 1 (p1.map (eInt .u8)))), (2, .t (.int .i64 p2)), (6, .obj 6 0)], [(6, [.t (.int .i64 0), .t (.int .i64 0), .t (.int .i64 0), .nil])], []⟩ ?_
      refine Wp.ret ?_
      refine thenR ?_
      obtain rfl := Option.some.inj h
      exact RetK [.agg [.t (.int .i64 0), .t (.int .i64 0), .t (.int .i64 0), .nil]] (.agg [.t (.int .i64 0), .t (.int .i64 0), .t (.int .i64 0), .nil]) [] kr kr (.agg (.cons (.refl _) (.cons (.refl _) (.cons (.refl _) (.cons (.nilO _ _) .nil))))) .nil
    have h := cond_f h hc
    refine Wp.skip (thenN ?_)
    refine Wp.srg [] [] ?_
    refine Runs.batch 3 kr ?_
    refine Runs.lenT (y := .t (.sl 1 (p1.map (eInt .u8)))) (e := 5) (eInt .u8) p1 1 rfl rfl rfl kr kr kr kr kr ?_
    refine Runs.batch 2 kr ?_
    obtain ⟨r4, e_r4, h⟩ := bind_some h
    refine Runs.callK false 24 50 [] [.t (.sl 1 (p1.map (eInt .u8))), .t (.int .i64 p2)] _ _ _ rfl rfl kr kr kr kr kr (spec_SumsOf_ok u p1 p2 r4 e_r4) kr ?_
    refine Runs.alln ?_
    refine Wp.fg ⟨[(6, .obj 6 0)], [(6, [.t (.int .i64 p0), .t (.int .i64 p2), .t (.int .i64 ((p1.length : Int))), .own 1572864])], [(1572864, .live 69 2 (r4.map Sum.enc))]⟩ ?_
    refine Wp.ret ?_
    obtain rfl := Option.some.inj h
    exact RetK [.agg [.t (.int .i64 p0), .t (.int .i64 p2), .t (.int .i64 ((p1.length : Int))), .own 1572864]] _ [] kr kr (.refl _) .nil
  · refine Wp.rg [] [] ?_
    refine Runs.batch 1 kr ?_
    obtain ⟨r1, e_r1, h⟩ := bind_some h
    refine Runs.callK false 8 49 [] [.t (.int .i64 p0), .t (.int .i64 1), .t (.int .i64 1000000)] _ _ _ rfl rfl kr kr kr kr kr (spec_l1In_ok u p0 1 1000000 r1 e_r1) kr ?_
    refine Runs.batch 2 kr ?_
    rcases tf (!r1) with hc | hc
    · have h := cond_t h hc
      refine Runs.known 10 (v := true) kr hc ?_
      refine Runs.alln ?_
      exact ⟨(p0, p1, p2, true), h, Le.of (mo := []) (mr := []) kr kr kr kr⟩
    have h := cond_f h hc
    refine Runs.known 10 (v := false) kr hc ?_
    refine Runs.batch 2 kr ?_
    refine Runs.lenT (y := .t (.sl 1 (p1.map (eInt .u8)))) (e := 5) (eInt .u8) p1 1 rfl rfl rfl kr kr kr kr kr ?_
    obtain ⟨r2, e_r2, h⟩ := bind_some h
    refine Runs.callK false 14 31 [] [.t (.int .i64 p2), .t (.int .i64 ((p1.length : Int)))] _ _ _ rfl rfl kr kr kr kr kr (spec_SizeOk_ok u p2 ((p1.length : Int)) r2 e_r2) kr ?_
    refine Runs.alln ?_
    exact ⟨(p0, p1, p2, !r2), h, Le.of (mo := []) (mr := []) kr kr kr kr⟩
theorem spec_l6Draw_ok (u : Nat) (p0 : l1Cur) (r : Manifest × (List Int) × l1Cur) (h : spec_l6Draw u p0 = some r) : CallOK Tryz.prog 44 [.ptr [.t (.sl 1 (p0.fB.map (eInt .u8))), .t (.int .i64 p0.fI), .t (.int .i64 p0.fH)]] (.tup [.agg [.t (.int .i64 r.1.fGen), .t (.int .i64 r.1.fSize), .t (.int .i64 r.1.fLen), .ow 69 2 (r.1.fSums.map Sum.enc)], .one (.t (.sl 1 (r.2.1.map (eInt .u8))))]) [[.t (.sl 1 (r.2.2.fB.map (eInt .u8))), .t (.int .i64 r.2.2.fI), .t (.int .i64 r.2.2.fH)]] := by
  unfold spec_l6Draw at h
  refine CallOK.of_bodyK (fn := Tryz.f44) (m := true) [.obj 900 0] kr rfl kr kr kr kr kr ?_
  refine Wp.srg [] [] ?_
  refine Runs.alln ?_
  refine Wp.fg ⟨[(0, .obj 900 0), (2, .obj 2 0), (3, .nil)], [(2, [.t (.int .i64 0), .t (.int .i64 0), .t (.int .i64 0), .nil]), (900, ((l1Cur.enc p0).map .t))], []⟩ ?_
  refine Wp.srg [] [] ?_
  refine Runs.batch 1 kr ?_
  obtain ⟨r1, e_r1, h⟩ := bind_some h
  refine Runs.callK false 6 39 [] [.obj 900 0] _ _ _ rfl rfl kr kr kr kr kr (spec_l6Image_ok u p0 r1 e_r1) kr ?_
  refine Runs.alln ?_
  refine Wp.fg ⟨[(0, .obj 900 0), (2, .obj 2 0), (3, .nil), (4, .own 393216)], [(2, [.t (.int .i64 0), .t (.int .i64 0), .t (.int .i64 0), .nil]), (900, ((l1Cur.enc r1.2).map .t))], [(393216, .live 5 1 (r1.1.map (eInt .u8)))]⟩ ?_
  refine Wp.srg [] [] ?_
  refine Runs.batch 1 kr ?_
  obtain ⟨r2, e_r2, h⟩ := bind_some h
  refine Runs.callK false 8 40 [] [.obj 900 0, .t (.int .i64 5)] _ _ _ rfl rfl kr kr kr kr kr (spec_l1Below_ok u r1.2 5 r2 e_r2) kr ?_
  refine Runs.batch 3 kr ?_
  obtain ⟨r3, e_r3, h⟩ := bind_some h
  refine Runs.callK false 12 40 [] [.obj 900 0, .t (.int .i64 5)] _ _ _ rfl rfl kr kr kr kr kr (spec_l1Below_ok u r2.2 5 r3 e_r3) kr ?_
  refine Runs.batch 1 kr ?_
  obtain ⟨r4, e_r4, h⟩ := bind_some h
  refine Runs.callK false 14 32 [] [.t (.int .i64 (bAdd .i64 1 r2.1)), .own 393216, .t (.int .i64 (bAdd .i64 2 r3.1))] _ _ _ rfl rfl kr kr kr kr kr (spec_ManOf_ok u (bAdd .i64 1 r2.1) r1.1 (bAdd .i64 2 r3.1) r4 e_r4) kr ?_
  refine Runs.alln ?_
  refine Wp.fg ⟨[(2, .obj 2 0), (3, .own 393216)], [(2, [.t (.int .i64 r4.fGen), .t (.int .i64 r4.fSize), .t (.int .i64 r4.fLen), .own 917507]), (900, ((l1Cur.enc r3.2).map .t))], [(393216, .frz 1 (r1.1.map (eInt .u8))), (917507, .live 69 2 (r4.fSums.map Sum.enc))]⟩ ?_
  refine Wp.ret ?_
  obtain rfl := Option.some.inj h
  exact RetK [.agg [.t (.int .i64 r4.fGen), .t (.int .i64 r4.fSize), .t (.int .i64 r4.fLen), .own 917507], .own 393216] _ [((l1Cur.enc r3.2).map .t)] kr kr (.refl _) (.cons ((.cons (.refl _) (.cons (.refl _) (.cons (.refl _) .nil)))) .nil)
theorem spec_l6Any_ok (u : Nat) (p0 : l1Cur) (r : Manifest × l1Cur) (h : spec_l6Any u p0 = some r) : CallOK Tryz.prog 28 [.ptr [.t (.sl 1 (p0.fB.map (eInt .u8))), .t (.int .i64 p0.fI), .t (.int .i64 p0.fH)]] (.agg [.t (.int .i64 r.1.fGen), .t (.int .i64 r.1.fSize), .t (.int .i64 r.1.fLen), .ow 69 2 (r.1.fSums.map Sum.enc)]) [[.t (.sl 1 (r.2.fB.map (eInt .u8))), .t (.int .i64 r.2.fI), .t (.int .i64 r.2.fH)]] := by
  unfold spec_l6Any at h
  refine CallOK.of_bodyK (fn := Tryz.f28) (m := true) [.obj 900 0] kr rfl kr kr kr kr kr ?_
  refine Wp.srg [] [] ?_
  refine Runs.alln ?_
  refine Wp.fg ⟨[(0, .obj 900 0), (2, .obj 2 0)], [(2, [.t (.int .i64 0), .t (.int .i64 0), .t (.int .i64 0), .nil]), (900, ((l1Cur.enc p0).map .t))], []⟩ ?_
  refine Wp.srg [] [] ?_
  refine Runs.batch 1 kr ?_
  obtain ⟨r1, e_r1, h⟩ := bind_some h
  refine Runs.callK false 7 44 [] [.obj 900 0] _ _ _ rfl rfl kr kr kr kr kr (spec_l6Draw_ok u p0 r1 e_r1) kr ?_
  refine Runs.alln ?_
  refine Wp.fg ⟨[(0, .obj 900 0), (2, .obj 2 0), (3, .obj 3 0)], [(2, [.t (.int .i64 0), .t (.int .i64 0), .t (.int .i64 0), .nil]), (3, [.t (.int .i64 r1.1.fGen), .t (.int .i64 r1.1.fSize), .t (.int .i64 r1.1.fLen), .own 458755]), (900, ((l1Cur.enc r1.2.2).map .t))], [(458755, .live 69 2 (r1.1.fSums.map Sum.enc))]⟩ ?_
  refine Wp.seqJ (α := Int × Int × Int × (List Sum) × (List Int) × Int × Int) (fun a => ⟨[(2, .obj 2 0), (3, .obj 3 0)], [(2, [.t (.int .i64 0), .t (.int .i64 0), .t (.int .i64 0), .nil]), (3, [.t (.int .i64 a.1), .t (.int .i64 a.2.1), .t (.int .i64 a.2.2.1), .own 197123]), (900, [.t (.sl 1 (a.2.2.2.2.1.map (eInt .u8))), .t (.int .i64 a.2.2.2.2.2.1), .t (.int .i64 a.2.2.2.2.2.2)])], [(197123, .live 69 2 (a.2.2.2.1.map Sum.enc))]⟩) (fun a => spec_l6Any_j1 u a.1 a.2.1 a.2.2.1 a.2.2.2.1 a.2.2.2.2.1 a.2.2.2.2.2.1 a.2.2.2.2.2.2 = some r) ?_ ?_
  · rintro ⟨x8, x9, x10, x11, x12, x13, x14⟩ h
    change spec_l6Any_j1 u x8 x9 x10 x11 x12 x13 x14 = some r at h
    unfold spec_l6Any_j1 at h
    refine Wp.srg [] [] ?_
    refine Runs.alln ?_
    refine Wp.fg ⟨[(2, .obj 2 0)], [(2, [.t (.int .i64 x8), .t (.int .i64 x9), .t (.int .i64 x10), .own 197123]), (900, [.t (.sl 1 (x12.map (eInt .u8))), .t (.int .i64 x13), .t (.int .i64 x14)])], [(197123, .live 69 2 (x11.map Sum.enc))]⟩ ?_
    refine Wp.ret ?_
    obtain rfl := Option.some.inj h
    exact RetK [.agg [.t (.int .i64 x8), .t (.int .i64 x9), .t (.int .i64 x10), .own 197123]] _ [[.t (.sl 1 (x12.map (eInt .u8))), .t (.int .i64 x13), .t (.int .i64 x14)]] kr kr (.refl _) (.cons ((.cons (.refl _) (.cons (.refl _) (.cons (.refl _) .nil)))) .nil)
  · refine Wp.srg [] [] ?_
    refine Runs.batch 1 kr ?_
    obtain ⟨r2, e_r2, h⟩ := bind_some h
    refine Runs.callK false 11 40 [] [.obj 900 0, .t (.int .i64 10)] _ _ _ rfl rfl kr kr kr kr kr (spec_l1Below_ok u r1.2.2 10 r2 e_r2) kr ?_
    refine Runs.done ?_
    refine thenN ?_
    refine Wp.fg ⟨[(0, .obj 900 0), (2, .obj 2 0), (3, .obj 3 0), (11, .t (.int .i64 r2.1))], [(2, [.t (.int .i64 0), .t (.int .i64 0), .t (.int .i64 0), .nil]), (3, [.t (.int .i64 r1.1.fGen), .t (.int .i64 r1.1.fSize), .t (.int .i64 r1.1.fLen), .own 458755]), (900, ((l1Cur.enc r2.2).map .t))], [(458755, .live 69 2 (r1.1.fSums.map Sum.enc))]⟩ ?_
    refine Wp.block ?_
    refine Wp.srg [] [] ?_
    refine Runs.alln ?_
    refine Wp.fg ⟨[(0, .obj 900 0), (2, .obj 2 0), (3, .obj 3 0), (11, .t (.int .i64 r2.1)), (12, .t (.bool (r2.1 == 0)))], [(2, [.t (.int .i64 0), .t (.int .i64 0), .t (.int .i64 0), .nil]), (3, [.t (.int .i64 r1.1.fGen), .t (.int .i64 r1.1.fSize), .t (.int .i64 r1.1.fLen), .own 458755]), (900, ((l1Cur.enc r2.2).map .t))], [(458755, .live 69 2 (r1.1.fSums.map Sum.enc))]⟩ ?_
    refine Wp.cond2 (b := r2.1 == 0) kr (fun hc => ?_) (fun hc => ?_)
    · have h := cond_t h hc
      refine Wp.rg [] [] ?_
      refine Runs.batch 2 kr ?_
      obtain ⟨r3, e_r3, h⟩ := bind_some h
      refine Runs.callK false 16 27 [] [.obj 900 0, .own 983040] _ _ _ rfl rfl kr kr kr kr kr (spec_l1Int_ok u r2.2 ([0, -1, 1000000, 1000001]) r3 e_r3) kr ?_
      refine Runs.all kr ?_
      refine blkN ?_
      refine thenN ?_
      exact ⟨(r3.1, r1.1.fSize, r1.1.fLen, r1.1.fSums, r3.2.fB, r3.2.fI, r3.2.fH), h, Le.of (mo := []) (mr := [(197123, 458755)]) kr kr kr kr⟩
    have h := cond_f h hc
    refine Wp.srg [] [] ?_
    refine Runs.alln ?_
    refine Wp.fg ⟨[(0, .obj 900 0), (2, .obj 2 0), (3, .obj 3 0), (11, .t (.int .i64 r2.1)), (18, .t (.bool (r2.1 == 1)))], [(2, [.t (.int .i64 0), .t (.int .i64 0), .t (.int .i64 0), .nil]), (3, [.t (.int .i64 r1.1.fGen), .t (.int .i64 r1.1.fSize), .t (.int .i64 r1.1.fLen), .own 458755]), (900, ((l1Cur.enc r2.2).map .t))], [(458755, .live 69 2 (r1.1.fSums.map Sum.enc))]⟩ ?_
    refine Wp.cond2 (b := r2.1 == 1) kr (fun hc => ?_) (fun hc => ?_)
    · have h := cond_t h hc
      refine Wp.rg [] [] ?_
      refine Runs.batch 2 kr ?_
      obtain ⟨r4, e_r4, h⟩ := bind_some h
      refine Runs.callK false 22 27 [] [.obj 900 0, .own 1376256] _ _ _ rfl rfl kr kr kr kr kr (spec_l1Int_ok u r2.2 ([0, 1, 7]) r4 e_r4) kr ?_
      refine Runs.all kr ?_
      refine blkN ?_
      refine thenN ?_
      exact ⟨(r1.1.fGen, r4.1, r1.1.fLen, r1.1.fSums, r4.2.fB, r4.2.fI, r4.2.fH), h, Le.of (mo := []) (mr := [(197123, 458755)]) kr kr kr kr⟩
    have h := cond_f h hc
    refine Wp.srg [] [] ?_
    refine Runs.alln ?_
    refine Wp.fg ⟨[(2, .obj 2 0), (3, .obj 3 0), (11, .t (.int .i64 r2.1)), (24, .t (.bool (r2.1 == 2)))], [(2, [.t (.int .i64 0), .t (.int .i64 0), .t (.int .i64 0), .nil]), (3, [.t (.int .i64 r1.1.fGen), .t (.int .i64 r1.1.fSize), .t (.int .i64 r1.1.fLen), .own 458755]), (900, ((l1Cur.enc r2.2).map .t))], [(458755, .live 69 2 (r1.1.fSums.map Sum.enc))]⟩ ?_
    refine Wp.cond2 (b := r2.1 == 2) kr (fun hc => ?_) (fun hc => ?_)
    · have h := cond_t h hc
      refine Wp.rg [] [] ?_
      refine Runs.all kr ?_
      refine blkN ?_
      refine thenN ?_
      exact ⟨(r1.1.fGen, r1.1.fSize, bAdd .i64 r1.1.fLen 1, r1.1.fSums, r2.2.fB, r2.2.fI, r2.2.fH), h, Le.of (mo := []) (mr := [(197123, 458755)]) kr kr kr kr⟩
    have h := cond_f h hc
    refine Wp.srg [] [] ?_
    refine Runs.alln ?_
    refine Wp.fg ⟨[(2, .obj 2 0), (3, .obj 3 0), (11, .t (.int .i64 r2.1)), (30, .t (.bool (r2.1 == 3)))], [(2, [.t (.int .i64 0), .t (.int .i64 0), .t (.int .i64 0), .nil]), (3, [.t (.int .i64 r1.1.fGen), .t (.int .i64 r1.1.fSize), .t (.int .i64 r1.1.fLen), .own 458755]), (900, ((l1Cur.enc r2.2).map .t))], [(458755, .live 69 2 (r1.1.fSums.map Sum.enc))]⟩ ?_
    refine Wp.cond2 (b := r2.1 == 3) kr (fun hc => ?_) (fun hc => ?_)
    · have h := cond_t h hc
      refine Wp.rg [] [] ?_
      refine Runs.batch 4 kr ?_
      obtain ⟨_, e_5, h⟩ := bind_some h
      refine Runs.appT (y := .own 2293760) Sum.enc 36 2 69 2 16 458755 r1.1.fSums ([(Sum.mk 1 257)]) rfl rfl rfl rfl kr kr kr kr kr kr (.inl rfl) kr (of_decide_eq_true (chk_some e_5)) kr kr ?_
      refine Runs.all kr ?_
      refine blkN ?_
      refine thenN ?_
      exact ⟨(r1.1.fGen, r1.1.fSize, r1.1.fLen, r1.1.fSums ++ ([(Sum.mk 1 257)]), r2.2.fB, r2.2.fI, r2.2.fH), h, Le.of (mo := []) (mr := [(197123, 2359296)]) kr kr kr kr⟩
    have h := cond_f h hc
    refine Wp.srg [] [] ?_
    refine Runs.alln ?_
    refine Wp.fg ⟨[(2, .obj 2 0), (3, .obj 3 0), (38, .t (.bool (r2.1 == 4)))], [(2, [.t (.int .i64 0), .t (.int .i64 0), .t (.int .i64 0), .nil]), (3, [.t (.int .i64 r1.1.fGen), .t (.int .i64 r1.1.fSize), .t (.int .i64 r1.1.fLen), .own 458755]), (900, ((l1Cur.enc r2.2).map .t))], [(458755, .live 69 2 (r1.1.fSums.map Sum.enc))]⟩ ?_
    refine Wp.cond2 (b := r2.1 == 4) kr (fun hc => ?_) (fun hc => ?_)
    · have h := cond_t h hc
      refine Wp.srg [] [] ?_
      refine Runs.batch 2 kr ?_
      refine Runs.lenT (y := .own 458755) (e := 69) Sum.enc r1.1.fSums 2 rfl rfl rfl kr kr kr kr kr ?_
      refine Runs.alln ?_
      refine Wp.fg ⟨[(2, .obj 2 0), (3, .obj 3 0), (43, .t (.bool (decide (((r1.1.fSums.length : Int)) > 0))))], [(2, [.t (.int .i64 0), .t (.int .i64 0), .t (.int .i64 0), .nil]), (3, [.t (.int .i64 r1.1.fGen), .t (.int .i64 r1.1.fSize), .t (.int .i64 r1.1.fLen), .own 458755]), (900, ((l1Cur.enc r2.2).map .t))], [(458755, .live 69 2 (r1.1.fSums.map Sum.enc))]⟩ ?_
      refine Wp.cond2 (b := decide (((r1.1.fSums.length : Int)) > 0)) kr (fun hc => ?_) (fun hc => ?_)
      · have h := cond_t h hc
        refine Wp.regionA (pOf []) (rhoOf [(3, .obj 3), (44, .obj 3), (45, .own 7), (46, .obj 3), (47, .own 7), (48, .el 7), (49, .el 7), (50, .frz), (51, .frz), (52, .el 7), (53, .el 7)]) kr kr ?_
        refine Runs.batch 4 kr ?_
        obtain ⟨y6, e_y6, h⟩ := bind_some h
        refine Runs.idxO (e := 69) (e' := 69) (kk := .i64) (sz := 2) Sum.enc r1.1.fSums 0 458755 rfl kr kr kr kr kr kr kr e_y6 ?_
        refine Runs.batch 1 kr ?_
        refine Runs.loadE (e' := 69) (sz := 2) (m := 1) (gg := false) Sum.enc r1.1.fSums 458755 (Int.toNat 0) 0 (.t (.int .i64 y6.fW)) rfl kr kr kr kr kr kr (idx_some e_y6).2 kr ?_
        refine Runs.batch 1 kr ?_
        obtain ⟨y7, e_y7, h⟩ := bind_some h
        refine Runs.idxO (e := 69) (e' := 69) (kk := .i64) (sz := 2) Sum.enc r1.1.fSums 0 458755 rfl kr kr kr kr kr kr kr e_y7 ?_
        refine Runs.batch 1 kr ?_
        refine Runs.storeT (e := 69) (sz := 2) (m := 1) Sum.enc r1.1.fSums 458755 (Int.toNat 0) 0 ((Sum.mk (bAdd .i64 y6.fW 1) y7.fS)) (.t (.int .i64 (bAdd .i64 y6.fW 1))) [.int .i64 (bAdd .i64 y6.fW 1)] rfl kr kr kr kr kr kr kr kr (idx_some e_y7).2 kr kr ?_
        refine Runs.done ?_
        refine blkN ?_
        refine thenN ?_
        exact ⟨(r1.1.fGen, r1.1.fSize, r1.1.fLen, r1.1.fSums.set (Int.toNat 0) ((Sum.mk (bAdd .i64 y6.fW 1) y7.fS)), r2.2.fB, r2.2.fI, r2.2.fH), h, Le.of (mo := []) (mr := [(197123, 458755)]) kr kr kr kr⟩
      have h := cond_f h hc
      refine Wp.skip ?_
      refine blkN ?_
      refine thenN ?_
      exact ⟨(r1.1.fGen, r1.1.fSize, r1.1.fLen, r1.1.fSums, r2.2.fB, r2.2.fI, r2.2.fH), h, Le.of (mo := []) (mr := [(197123, 458755)]) kr kr kr kr⟩
    have h := cond_f h hc
    refine Wp.skip ?_
    refine blkN ?_
    refine thenN ?_
    exact ⟨(r1.1.fGen, r1.1.fSize, r1.1.fLen, r1.1.fSums, r2.2.fB, r2.2.fI, r2.2.fH), h, Le.of (mo := []) (mr := [(197123, 458755)]) kr kr kr kr⟩
theorem spec_DrawManBytes_ok (u : Nat) (p0 : List Int) (r : Manifest) (h : spec_DrawManBytes u p0 = some r) : CallOK Tryz.prog 9 [.one (.t (.sl 1 (p0.map (eInt .u8))))] (.agg [.t (.int .i64 r.fGen), .t (.int .i64 r.fSize), .t (.int .i64 r.fLen), .ow 69 2 (r.fSums.map Sum.enc)]) [] := by
  unfold spec_DrawManBytes at h
  refine CallOK.of_bodyK (fn := Tryz.f9) (m := true) [.t (.sl 1 (p0.map (eInt .u8)))] kr rfl kr kr kr kr kr ?_
  refine Wp.srg [] [] ?_
  refine Runs.alln ?_
  refine Wp.fg ⟨[(0, .t (.sl 1 (p0.map (eInt .u8)))), (2, .obj 2 0)], [(2, [.t (.int .i64 0), .t (.int .i64 0), .t (.int .i64 0), .nil])], []⟩ ?_
  refine Wp.srg [] [] ?_
  refine Runs.batch 1 kr ?_
  obtain ⟨r1, e_r1, h⟩ := bind_some h
  refine Runs.callK false 5 23 [] [.t (.sl 1 (p0.map (eInt .u8)))] _ _ _ rfl rfl kr kr kr kr kr (spec_l1New_ok u p0 r1 e_r1) kr ?_
  refine Runs.alln ?_
  refine Wp.fg ⟨[(2, .obj 2 0), (3, .obj 5 0)], [(2, [.t (.int .i64 0), .t (.int .i64 0), .t (.int .i64 0), .nil]), (5, ((l1Cur.enc r1).map .t))], []⟩ ?_
  refine Wp.srg [] [] ?_
  refine Runs.batch 1 kr ?_
  obtain ⟨r2, e_r2, h⟩ := bind_some h
  refine Runs.callK false 7 28 [] [.obj 5 0] _ _ _ rfl rfl kr kr kr kr kr (spec_l6Any_ok u r1 r2 e_r2) kr ?_
  refine Runs.alln ?_
  refine Wp.fg ⟨[(2, .obj 2 0)], [(2, [.t (.int .i64 r2.1.fGen), .t (.int .i64 r2.1.fSize), .t (.int .i64 r2.1.fLen), .own 458755])], [(458755, .live 69 2 (r2.1.fSums.map Sum.enc))]⟩ ?_
  refine Wp.ret ?_
  obtain rfl := Option.some.inj h
  exact RetK [.agg [.t (.int .i64 r2.1.fGen), .t (.int .i64 r2.1.fSize), .t (.int .i64 r2.1.fLen), .own 458755]] _ [] kr kr (.refl _) .nil
theorem impl_within_ok (u : Nat) (p0 : Int) (p1 : Int) (p2 : Int) (r : Bool) (h : impl_within u p0 p1 p2 = some r) : CallOK Tryz.prog 34 [.one (.t (.int .i64 p0)), .one (.t (.int .i64 p1)), .one (.t (.int .i64 p2))] (.one (.t (.bool r))) [] := by
  unfold impl_within at h
  refine CallOK.of_bodyK (fn := Tryz.f34) (m := false) [.t (.int .i64 p0), .t (.int .i64 p1), .t (.int .i64 p2)] kr rfl kr kr kr kr kr ?_
  refine Wp.srg [] [] ?_
  refine Runs.alln ?_
  refine Wp.fg ⟨[(0, .t (.int .i64 p0)), (1, .t (.int .i64 p1)), (2, .t (.int .i64 p2)), (6, .t (.bool false))], [], []⟩ ?_
  refine Wp.srg [] [] ?_
  refine Runs.batch 4 kr ?_
  rcases tf (decide (p0 ≥ p1)) with hc | hc
  · have h := cond_t h hc
    refine Runs.known 10 (v := true) kr hc ?_
    refine Runs.alln ?_
    refine Wp.fg ⟨[(6, .t (.bool (decide (p0 ≤ p2))))], [], []⟩ ?_
    refine Wp.ret ?_
    obtain rfl := Option.some.inj h
    exact RetK [.t (.bool (decide (p0 ≤ p2)))] _ [] kr kr (.refl _) .nil
  have h := cond_f h hc
  refine Runs.known 10 (v := false) kr hc ?_
  refine Runs.alln ?_
  refine Wp.fg ⟨[(6, .t (.bool false))], [], []⟩ ?_
  refine Wp.ret ?_
  obtain rfl := Option.some.inj h
  exact RetK [.t (.bool false)] _ [] kr kr (.refl _) .nil
theorem impl_SizeOk_ok (u : Nat) (p0 : Int) (p1 : Int) (r : Bool) (h : impl_SizeOk u p0 p1 = some r) : CallOK Tryz.prog 22 [.one (.t (.int .i64 p0)), .one (.t (.int .i64 p1))] (.one (.t (.bool r))) [] := by
  unfold impl_SizeOk at h
  refine CallOK.of_bodyK (fn := Tryz.f22) (m := false) [.t (.int .i64 p0), .t (.int .i64 p1)] kr rfl kr kr kr kr kr ?_
  refine Wp.srg [] [] ?_
  refine Runs.alln ?_
  refine Wp.fg ⟨[(0, .t (.int .i64 p0)), (1, .t (.int .i64 p1)), (4, .t (.bool false))], [], []⟩ ?_
  refine Wp.srg [] [] ?_
  refine Runs.batch 1 kr ?_
  obtain ⟨r1, e_r1, h⟩ := bind_some h
  refine Runs.callK false 6 34 [] [.t (.int .i64 p0), .t (.int .i64 2), .t (.int .i64 6)] _ _ _ rfl rfl kr kr kr kr kr (impl_within_ok u p0 2 6 r1 e_r1) kr ?_
  refine Runs.batch 1 kr ?_
  rcases tf (r1) with hc | hc
  · have h := cond_t h hc
    refine Runs.known 7 (v := true) kr hc ?_
    refine Runs.batch 3 kr ?_
    obtain ⟨r2, e_r2, h⟩ := bind_some h
    refine Runs.callK false 11 34 [] [.t (.int .i64 p1), .t (.int .i64 0), .t (.int .i64 (bMul .i64 40 p0))] _ _ _ rfl rfl kr kr kr kr kr (impl_within_ok u p1 0 (bMul .i64 40 p0) r2 e_r2) kr ?_
    refine Runs.alln ?_
    refine Wp.fg ⟨[(4, .t (.bool r2))], [], []⟩ ?_
    refine Wp.ret ?_
    obtain rfl := Option.some.inj h
    exact RetK [.t (.bool r2)] _ [] kr kr (.refl _) .nil
  have h := cond_f h hc
  refine Runs.known 7 (v := false) kr hc ?_
  refine Runs.alln ?_
  refine Wp.fg ⟨[(4, .t (.bool false))], [], []⟩ ?_
  refine Wp.ret ?_
  obtain rfl := Option.some.inj h
  exact RetK [.t (.bool false)] _ [] kr kr (.refl _) .nil
theorem impl_CeilDiv_ok (u : Nat) (p0 : Int) (p1 : Int) (r : Int) (h : impl_CeilDiv u p0 p1 = some r) : CallOK Tryz.prog 85 [.one (.t (.int .i64 p0)), .one (.t (.int .i64 p1))] (.one (.t (.int .i64 r))) [] := by
  unfold impl_CeilDiv at h
  refine CallOK.of_bodyK (fn := Tryz.f85) (m := false) [.t (.int .i64 p0), .t (.int .i64 p1)] kr rfl kr kr kr kr kr ?_
  refine Wp.srg [] [] ?_
  refine Runs.alln ?_
  refine Wp.fg ⟨[(0, .t (.int .i64 p0)), (1, .t (.int .i64 p1)), (4, .t (.int .i64 0))], [], []⟩ ?_
  refine Wp.seq ?_
  refine Wp.seqJ (α := Int × Int × Bool) (fun a => ⟨[(0, .t (.int .i64 a.1)), (1, .t (.int .i64 a.2.1)), (4, .t (.int .i64 0)), (12, .t (.bool a.2.2))], [], []⟩) (fun a => impl_CeilDiv_j1 u a.1 a.2.1 a.2.2 = some r) ?_ ?_
  · rintro ⟨p0, p1, x3⟩ h
    change impl_CeilDiv_j1 u p0 p1 x3 = some r at h
    unfold impl_CeilDiv_j1 at h
    refine Wp.cond2 (b := x3) kr (fun hc => ?_) (fun hc => ?_)
    · have h := cond_t h hc
      refine Wp.srg [] [] ?_
      refine Runs.alln ?_
      refine Wp.fg ⟨[(0, .t (.int .i64 p0)), (1, .t (.int .i64 p1)), (4, .t (.int .i64 0))], [], []⟩ ?_
      refine Wp.ret ?_
      refine thenR ?_
      obtain rfl := Option.some.inj h
      exact RetK [.t (.int .i64 0)] _ [] kr kr (.refl _) .nil
    have h := cond_f h hc
    refine Wp.skip (thenN ?_)
    refine Wp.srg [] [] ?_
    refine Runs.batch 5 kr ?_
    obtain ⟨_, e_4, h⟩ := bind_some h
    refine Runs.num .quo (.int .i64 (bSub .i64 (bAdd .i64 p0 p1) 1)) (.int .i64 p1) (.int .i64 (bQuo .i64 (bSub .i64 (bAdd .i64 p0 p1) 1) p1)) rfl kr kr kr kr (bin_quo _ _ _ _ (by simpa using chk_some e_4)) ?_
    refine Runs.alln ?_
    refine Wp.fg ⟨[(4, .t (.int .i64 (bQuo .i64 (bSub .i64 (bAdd .i64 p0 p1) 1) p1)))], [], []⟩ ?_
    refine Wp.ret ?_
    obtain rfl := Option.some.inj h
    exact RetK [.t (.int .i64 (bQuo .i64 (bSub .i64 (bAdd .i64 p0 p1) 1) p1))] _ [] kr kr (.refl _) .nil
  · refine Wp.rg [] [] ?_
    refine Runs.batch 1 kr ?_
    obtain ⟨r1, e_r1, h⟩ := bind_some h
    refine Runs.callK false 6 34 [] [.t (.int .i64 p0), .t (.int .i64 0), .t (.int .i64 1000000000000)] _ _ _ rfl rfl kr kr kr kr kr (impl_within_ok u p0 0 1000000000000 r1 e_r1) kr ?_
    refine Runs.batch 2 kr ?_
    rcases tf (!r1) with hc | hc
    · have h := cond_t h hc
      refine Runs.known 8 (v := true) kr hc ?_
      refine Runs.alln ?_
      exact ⟨(p0, p1, true), h, Le.of (mo := []) (mr := []) kr kr kr kr⟩
    have h := cond_f h hc
    refine Runs.known 8 (v := false) kr hc ?_
    refine Runs.batch 1 kr ?_
    obtain ⟨r2, e_r2, h⟩ := bind_some h
    refine Runs.callK false 10 34 [] [.t (.int .i64 p1), .t (.int .i64 1), .t (.int .i64 1000000000000)] _ _ _ rfl rfl kr kr kr kr kr (impl_within_ok u p1 1 1000000000000 r2 e_r2) kr ?_
    refine Runs.alln ?_
    exact ⟨(p0, p1, !r2), h, Le.of (mo := []) (mr := []) kr kr kr kr⟩
theorem impl_Blocks_ok (u : Nat) (p0 : Int) (p1 : Int) (r : Int) (h : impl_Blocks u p0 p1 = some r) : CallOK Tryz.prog 64 [.one (.t (.int .i64 p0)), .one (.t (.int .i64 p1))] (.one (.t (.int .i64 r))) [] := by
  unfold impl_Blocks at h
  refine CallOK.of_bodyK (fn := Tryz.f64) (m := false) [.t (.int .i64 p0), .t (.int .i64 p1)] kr rfl kr kr kr kr kr ?_
  refine Wp.srg [] [] ?_
  refine Runs.alln ?_
  refine Wp.fg ⟨[(0, .t (.int .i64 p0)), (1, .t (.int .i64 p1)), (4, .t (.int .i64 0))], [], []⟩ ?_
  refine Wp.seq ?_
  refine Wp.srg [] [] ?_
  refine Runs.batch 2 kr ?_
  obtain ⟨r1, e_r1, h⟩ := bind_some h
  refine Runs.callK false 7 22 [] [.t (.int .i64 p0), .t (.int .i64 p1)] _ _ _ rfl rfl kr kr kr kr kr (impl_SizeOk_ok u p0 p1 r1 e_r1) kr ?_
  refine Runs.alln ?_
  refine Wp.fg ⟨[(0, .t (.int .i64 p0)), (1, .t (.int .i64 p1)), (4, .t (.int .i64 0)), (8, .t (.bool (!r1)))], [], []⟩ ?_
  refine Wp.cond2 (b := !r1) kr (fun hc => ?_) (fun hc => ?_)
  · have h := cond_t h hc
    refine Wp.srg [] [] ?_
    refine Runs.alln ?_
    refine Wp.fg ⟨[(0, .t (.int .i64 p0)), (1, .t (.int .i64 p1)), (4, .t (.int .i64 0))], [], []⟩ ?_
    refine Wp.ret ?_
    refine thenR ?_
    obtain rfl := Option.some.inj h
    exact RetK [.t (.int .i64 0)] _ [] kr kr (.refl _) .nil
  have h := cond_f h hc
  refine Wp.skip (thenN ?_)
  refine Wp.srg [] [] ?_
  refine Runs.batch 2 kr ?_
  obtain ⟨r2, e_r2, h⟩ := bind_some h
  refine Runs.callK false 11 85 [] [.t (.int .i64 p1), .t (.int .i64 p0)] _ _ _ rfl rfl kr kr kr kr kr (impl_CeilDiv_ok u p1 p0 r2 e_r2) kr ?_
  refine Runs.alln ?_
  refine Wp.fg ⟨[(4, .t (.int .i64 r2))], [], []⟩ ?_
  refine Wp.ret ?_
  obtain rfl := Option.some.inj h
  exact RetK [.t (.int .i64 r2)] _ [] kr kr (.refl _) .nil
theorem impl_SpanOf_ok (u : Nat) (p0 : Int) (p1 : Int) (p2 : Int) (r : Int × Int) (h : impl_SpanOf u p0 p1 p2 = some r) : CallOK Tryz.prog 48 [.one (.t (.int .i64 p0)), .one (.t (.int .i64 p1)), .one (.t (.int .i64 p2))] (.tup [.one (.t (.int .i64 r.1)), .one (.t (.int .i64 r.2))]) [] := by
  unfold impl_SpanOf at h
  refine CallOK.of_bodyK (fn := Tryz.f48) (m := false) [.t (.int .i64 p0), .t (.int .i64 p1), .t (.int .i64 p2)] kr rfl kr kr kr kr kr ?_
  refine Wp.srg [] [] ?_
  refine Runs.alln ?_
  refine Wp.fg ⟨[(0, .t (.int .i64 p0)), (1, .t (.int .i64 p1)), (2, .t (.int .i64 p2)), (6, .t (.int .i64 0)), (7, .t (.int .i64 0))], [], []⟩ ?_
  refine Wp.seq ?_
  refine Wp.srg [] [] ?_
  refine Runs.batch 3 kr ?_
  obtain ⟨r1, e_r1, h⟩ := bind_some h
  refine Runs.callK false 11 64 [] [.t (.int .i64 p0), .t (.int .i64 p1)] _ _ _ rfl rfl kr kr kr kr kr (impl_Blocks_ok u p0 p1 r1 e_r1) kr ?_
  refine Runs.batch 1 kr ?_
  obtain ⟨r2, e_r2, h⟩ := bind_some h
  refine Runs.callK false 13 34 [] [.t (.int .i64 p2), .t (.int .i64 0), .t (.int .i64 (bSub .i64 r1 1))] _ _ _ rfl rfl kr kr kr kr kr (impl_within_ok u p2 0 (bSub .i64 r1 1) r2 e_r2) kr ?_
  refine Runs.alln ?_
  refine Wp.fg ⟨[(0, .t (.int .i64 p0)), (1, .t (.int .i64 p1)), (2, .t (.int .i64 p2)), (6, .t (.int .i64 0)), (7, .t (.int .i64 0)), (14, .t (.bool (!r2)))], [], []⟩ ?_
  refine Wp.cond2 (b := !r2) kr (fun hc => ?_) (fun hc => ?_)
  · have h := cond_t h hc
    refine Wp.srg [] [] ?_
    refine Runs.alln ?_
    refine Wp.fg ⟨[(0, .t (.int .i64 p0)), (1, .t (.int .i64 p1)), (2, .t (.int .i64 p2)), (6, .t (.int .i64 0)), (7, .t (.int .i64 0))], [], []⟩ ?_
    refine Wp.ret ?_
    refine thenR ?_
    obtain rfl := Option.some.inj h
    exact RetK [.t (.int .i64 0), .t (.int .i64 0)] _ [] kr kr (.refl _) .nil
  have h := cond_f h hc
  refine Wp.skip (thenN ?_)
  refine Wp.srg [] [] ?_
  refine Runs.alln ?_
  refine Wp.fg ⟨[(6, .t (.int .i64 (bMul .i64 p2 p0))), (7, .t (.int .i64 (if (bSub .i64 p1 (bMul .i64 p2 p0)) < p0 then (bSub .i64 p1 (bMul .i64 p2 p0)) else p0)))], [], []⟩ ?_
  refine Wp.ret ?_
  obtain rfl := Option.some.inj h
  exact RetK [.t (.int .i64 (bMul .i64 p2 p0)), .t (.int .i64 (if (bSub .i64 p1 (bMul .i64 p2 p0)) < p0 then (bSub .i64 p1 (bMul .i64 p2 p0)) else p0))] _ [] kr kr (.refl _) .nil
theorem impl_cloned_ok (u : Nat) (p0 : List Int) (r : (List Int)) (h : impl_cloned u p0 = some r) : CallOK Tryz.prog 55 [.one (.t (.sl 1 (p0.map (eInt .u8))))] (.one (.ow 5 1 (r.map (eInt .u8)))) [] := by
  unfold impl_cloned at h
  refine CallOK.of_bodyK (fn := Tryz.f55) (m := true) [.t (.sl 1 (p0.map (eInt .u8)))] kr rfl kr kr kr kr kr ?_
  refine Wp.srg [] [] ?_
  refine Runs.alln ?_
  refine Wp.fg ⟨[(0, .t (.sl 1 (p0.map (eInt .u8)))), (2, .nil)], [], []⟩ ?_
  refine Wp.srg [] [] ?_
  refine Runs.batch 1 kr ?_
  refine Runs.lenT (y := .t (.sl 1 (p0.map (eInt .u8)))) (e := 5) (eInt .u8) p0 1 rfl rfl rfl kr kr kr kr kr ?_
  obtain ⟨_, e_1, h⟩ := bind_some h
  obtain ⟨_, e_2, h⟩ := bind_some h
  refine Runs.mkS (eInt .u8) (0 : Int) 5 5 1 1 0 ((p0.length : Int)) rfl rfl kr kr kr kr kr kr (chk_some e_1) (of_decide_eq_true (chk_some e_2)) kr ?_
  refine Runs.batch 1 kr ?_
  obtain ⟨_, e_3, h⟩ := bind_some h
  refine Runs.appT (y := .t (.sl 1 (p0.map (eInt .u8)))) (eInt .u8) 7 1 5 1 1 327680 (List.replicate (Int.toNat 0) (0 : Int)) p0 rfl rfl rfl rfl kr kr kr kr kr kr (.inl rfl) kr (of_decide_eq_true (chk_some e_3)) kr kr ?_
  refine Runs.alln ?_
  refine Wp.fg ⟨[(2, .own 458752)], [], [(458752, .live 5 1 (((List.replicate (Int.toNat 0) (0 : Int)) ++ p0).map (eInt .u8)))]⟩ ?_
  refine Wp.ret ?_
  obtain rfl := Option.some.inj h
  exact RetK [.own 458752] _ [] kr kr (.refl _) .nil
theorem impl_Slice_ok (u : Nat) (p0 : List Int) (p1 : Int) (p2 : Int) (r : (List Int) × Bool) (h : impl_Slice u p0 p1 p2 = some r) : CallOK Tryz.prog 86 [.one (.t (.sl 1 (p0.map (eInt .u8)))), .one (.t (.int .i64 p1)), .one (.t (.int .i64 p2))] (.tup [.one (.ow 5 1 (r.1.map (eInt .u8))), .one (.t (.bool r.2))]) [] := by
  unfold impl_Slice at h
  refine CallOK.of_bodyK (fn := Tryz.f86) (m := true) [.t (.sl 1 (p0.map (eInt .u8))), .t (.int .i64 p1), .t (.int .i64 p2)] kr rfl kr kr kr kr kr ?_
  refine Wp.srg [] [] ?_
  refine Runs.alln ?_
  refine Wp.fg ⟨[(0, .t (.sl 1 (p0.map (eInt .u8)))), (1, .t (.int .i64 p1)), (2, .t (.int .i64 p2)), (6, .nil), (7, .t (.bool false))], [], []⟩ ?_
  refine Wp.seq ?_
  refine Wp.seqJ (α := (List Int) × Int × Int × Bool) (fun a => ⟨[(0, .t (.sl 1 (a.1.map (eInt .u8)))), (1, .t (.int .i64 a.2.1)), (2, .t (.int .i64 a.2.2.1)), (6, .nil), (7, .t (.bool false)), (21, .t (.bool a.2.2.2))], [], []⟩) (fun a => impl_Slice_j1 u a.1 a.2.1 a.2.2.1 a.2.2.2 = some r) ?_ ?_
  · rintro ⟨p0, p1, p2, x3⟩ h
    change impl_Slice_j1 u p0 p1 p2 x3 = some r at h
    unfold impl_Slice_j1 at h
    refine Wp.cond2 (b := x3) kr (fun hc => ?_) (fun hc => ?_)
    · have h := cond_t h hc
      refine Wp.srg [] [] ?_
      refine Runs.alln ?_
      refine Wp.fg ⟨[(0, .t (.sl 1 (p0.map (eInt .u8)))), (1, .t (.int .i64 p1)), (2, .t (.int .i64 p2)), (6, .nil), (7, .t (.bool false))], [], []⟩ ?_
      refine Wp.ret ?_
      refine thenR ?_
      obtain rfl := Option.some.inj h
      exact RetK [.nil, .t (.bool false)] (.tup [.one (.nil), .one (.t (.bool false))]) [] kr kr (.tup (.cons (.one (.nilO _ _)) (.cons (.refl _) .nil))) .nil
    have h := cond_f h hc
    refine Wp.skip (thenN ?_)
    refine Wp.srg [] [] ?_
    refine Runs.batch 5 kr ?_
    obtain ⟨_, e_4, h⟩ := bind_some h
    refine Runs.subsl (e := 5) (ax := .t (.sl 1 (p0.map (eInt .u8)))) (alo := (some (.t (.int .i64 p1)))) (ahi := (some (.t (.int .i64 (bAdd .i64 p1 p2))))) (eInt .u8) p0 1 p1 (bAdd .i64 p1 p2) rfl kr kr kr kr kr kr kr kr kr kr kr (chk_some e_4) ?_
    obtain ⟨r5, e_r5, h⟩ := bind_some h
    refine Runs.callK false 28 55 [] [.t (.sl 1 (((p0.take (Int.toNat (bAdd .i64 p1 p2))).drop (Int.toNat p1)).map (eInt .u8)))] _ _ _ rfl rfl kr kr kr kr kr (impl_cloned_ok u ((p0.take (Int.toNat (bAdd .i64 p1 p2))).drop (Int.toNat p1)) r5 e_r5) kr ?_
    refine Runs.alln ?_
    refine Wp.fg ⟨[(6, .own 1835008), (7, .t (.bool true))], [], [(1835008, .live 5 1 (r5.map (eInt .u8)))]⟩ ?_
    refine Wp.ret ?_
    obtain rfl := Option.some.inj h
    exact RetK [.own 1835008, .t (.bool true)] _ [] kr kr (.refl _) .nil
  · refine Wp.rg [] [] ?_
    refine Runs.batch 2 kr ?_
    refine Runs.lenT (y := .t (.sl 1 (p0.map (eInt .u8)))) (e := 5) (eInt .u8) p0 1 rfl rfl rfl kr kr kr kr kr ?_
    obtain ⟨r1, e_r1, h⟩ := bind_some h
    refine Runs.callK false 11 34 [] [.t (.int .i64 p1), .t (.int .i64 0), .t (.int .i64 ((p0.length : Int)))] _ _ _ rfl rfl kr kr kr kr kr (impl_within_ok u p1 0 ((p0.length : Int)) r1 e_r1) kr ?_
    refine Runs.batch 2 kr ?_
    rcases tf (!r1) with hc | hc
    · have h := cond_t h hc
      refine Runs.known 13 (v := true) kr hc ?_
      refine Runs.alln ?_
      exact ⟨(p0, p1, p2, true), h, Le.of (mo := []) (mr := []) kr kr kr kr⟩
    have h := cond_f h hc
    refine Runs.known 13 (v := false) kr hc ?_
    refine Runs.batch 2 kr ?_
    refine Runs.lenT (y := .t (.sl 1 (p0.map (eInt .u8)))) (e := 5) (eInt .u8) p0 1 rfl rfl rfl kr kr kr kr kr ?_
    refine Runs.batch 2 kr ?_
    obtain ⟨r2, e_r2, h⟩ := bind_some h
    refine Runs.callK false 19 34 [] [.t (.int .i64 p2), .t (.int .i64 0), .t (.int .i64 (bSub .i64 ((p0.length : Int)) p1))] _ _ _ rfl rfl kr kr kr kr kr (impl_within_ok u p2 0 (bSub .i64 ((p0.length : Int)) p1) r2 e_r2) kr ?_
    refine Runs.alln ?_
    exact ⟨(p0, p1, p2, !r2), h, Le.of (mo := []) (mr := []) kr kr kr kr⟩
theorem impl_BlockAt_ok (u : Nat) (p0 : List Int) (p1 : Int) (p2 : Int) (r : (List Int) × Bool) (h : impl_BlockAt u p0 p1 p2 = some r) : CallOK Tryz.prog 65 [.one (.t (.sl 1 (p0.map (eInt .u8)))), .one (.t (.int .i64 p1)), .one (.t (.int .i64 p2))] (.tup [.one (.ow 5 1 (r.1.map (eInt .u8))), .one (.t (.bool r.2))]) [] := by
  unfold impl_BlockAt at h
  refine CallOK.of_bodyK (fn := Tryz.f65) (m := true) [.t (.sl 1 (p0.map (eInt .u8))), .t (.int .i64 p1), .t (.int .i64 p2)] kr rfl kr kr kr kr kr ?_
  refine Wp.srg [] [] ?_
  refine Runs.alln ?_
  refine Wp.fg ⟨[(0, .t (.sl 1 (p0.map (eInt .u8)))), (1, .t (.int .i64 p1)), (2, .t (.int .i64 p2)), (6, .nil), (7, .t (.bool false))], [], []⟩ ?_
  refine Wp.srg [] [] ?_
  refine Runs.batch 2 kr ?_
  refine Runs.lenT (y := .t (.sl 1 (p0.map (eInt .u8)))) (e := 5) (eInt .u8) p0 1 rfl rfl rfl kr kr kr kr kr ?_
  refine Runs.batch 1 kr ?_
  obtain ⟨r1, e_r1, h⟩ := bind_some h
  refine Runs.callK false 15 48 [] [.t (.int .i64 p1), .t (.int .i64 ((p0.length : Int))), .t (.int .i64 p2)] _ _ _ rfl rfl kr kr kr kr kr (impl_SpanOf_ok u p1 ((p0.length : Int)) p2 r1 e_r1) kr ?_
  refine Runs.alln ?_
  refine Wp.fg ⟨[(0, .t (.sl 1 (p0.map (eInt .u8)))), (6, .nil), (7, .t (.bool false)), (8, .t (.int .i64 r1.1)), (9, .t (.int .i64 r1.2))], [], []⟩ ?_
  refine Wp.seq ?_
  refine Wp.srg [] [] ?_
  refine Runs.alln ?_
  refine Wp.fg ⟨[(0, .t (.sl 1 (p0.map (eInt .u8)))), (6, .nil), (7, .t (.bool false)), (8, .t (.int .i64 r1.1)), (9, .t (.int .i64 r1.2)), (19, .t (.bool (r1.2 == 0)))], [], []⟩ ?_
  refine Wp.cond2 (b := r1.2 == 0) kr (fun hc => ?_) (fun hc => ?_)
  · have h := cond_t h hc
    refine Wp.srg [] [] ?_
    refine Runs.alln ?_
    refine Wp.fg ⟨[(0, .t (.sl 1 (p0.map (eInt .u8)))), (6, .nil), (7, .t (.bool false)), (8, .t (.int .i64 r1.1)), (9, .t (.int .i64 r1.2))], [], []⟩ ?_
    refine Wp.ret ?_
    refine thenR ?_
    obtain rfl := Option.some.inj h
    exact RetK [.nil, .t (.bool false)] (.tup [.one (.nil), .one (.t (.bool false))]) [] kr kr (.tup (.cons (.one (.nilO _ _)) (.cons (.refl _) .nil))) .nil
  have h := cond_f h hc
  refine Wp.skip (thenN ?_)
  refine Wp.srg [] [] ?_
  refine Runs.batch 3 kr ?_
  obtain ⟨r2, e_r2, h⟩ := bind_some h
  refine Runs.callK false 23 86 [] [.t (.sl 1 (p0.map (eInt .u8))), .t (.int .i64 r1.1), .t (.int .i64 r1.2)] _ _ _ rfl rfl kr kr kr kr kr (impl_Slice_ok u p0 r1.1 r1.2 r2 e_r2) kr ?_
  refine Runs.alln ?_
  refine Wp.fg ⟨[(6, .own 1507328), (7, .t (.bool r2.2))], [], [(1507328, .live 5 1 (r2.1.map (eInt .u8)))]⟩ ?_
  refine Wp.ret ?_
  obtain rfl := Option.some.inj h
  exact RetK [.own 1507328, .t (.bool r2.2)] _ [] kr kr (.refl _) .nil
theorem impl_Wrap_ok (u : Nat) (p0 : Int) (p1 : Int) (r : Int) (h : impl_Wrap u p0 p1 = some r) : CallOK Tryz.prog 101 [.one (.t (.int .i64 p0)), .one (.t (.int .i64 p1))] (.one (.t (.int .i64 r))) [] := by
  unfold impl_Wrap at h
  refine CallOK.of_bodyK (fn := Tryz.f101) (m := false) [.t (.int .i64 p0), .t (.int .i64 p1)] kr rfl kr kr kr kr kr ?_
  refine Wp.srg [] [] ?_
  refine Runs.alln ?_
  refine Wp.fg ⟨[(0, .t (.int .i64 p0)), (1, .t (.int .i64 p1)), (4, .t (.int .i64 0))], [], []⟩ ?_
  refine Wp.seq ?_
  refine Wp.srg [] [] ?_
  refine Runs.batch 1 kr ?_
  obtain ⟨r1, e_r1, h⟩ := bind_some h
  refine Runs.callK false 6 34 [] [.t (.int .i64 p1), .t (.int .i64 1), .t (.int .i64 1000000000000)] _ _ _ rfl rfl kr kr kr kr kr (impl_within_ok u p1 1 1000000000000 r1 e_r1) kr ?_
  refine Runs.alln ?_
  refine Wp.fg ⟨[(0, .t (.int .i64 p0)), (1, .t (.int .i64 p1)), (4, .t (.int .i64 0)), (7, .t (.bool (!r1)))], [], []⟩ ?_
  refine Wp.cond2 (b := !r1) kr (fun hc => ?_) (fun hc => ?_)
  · have h := cond_t h hc
    refine Wp.srg [] [] ?_
    refine Runs.alln ?_
    refine Wp.fg ⟨[(0, .t (.int .i64 p0)), (1, .t (.int .i64 p1)), (4, .t (.int .i64 0))], [], []⟩ ?_
    refine Wp.ret ?_
    refine thenR ?_
    obtain rfl := Option.some.inj h
    exact RetK [.t (.int .i64 0)] _ [] kr kr (.refl _) .nil
  have h := cond_f h hc
  refine Wp.skip (thenN ?_)
  refine Wp.srg [] [] ?_
  refine Runs.batch 2 kr ?_
  obtain ⟨_, e_2, h⟩ := bind_some h
  refine Runs.num .rem (.int .i64 p0) (.int .i64 p1) (.int .i64 (bRem .i64 p0 p1)) rfl kr kr kr kr (bin_rem _ _ _ _ (by simpa using chk_some e_2)) ?_
  refine Runs.batch 3 kr ?_
  obtain ⟨_, e_3, h⟩ := bind_some h
  refine Runs.num .rem (.int .i64 (bAdd .i64 (bRem .i64 p0 p1) p1)) (.int .i64 p1) (.int .i64 (bRem .i64 (bAdd .i64 (bRem .i64 p0 p1) p1) p1)) rfl kr kr kr kr (bin_rem _ _ _ _ (by simpa using chk_some e_3)) ?_
  refine Runs.alln ?_
  refine Wp.fg ⟨[(4, .t (.int .i64 (bRem .i64 (bAdd .i64 (bRem .i64 p0 p1) p1) p1)))], [], []⟩ ?_
  refine Wp.ret ?_
  obtain rfl := Option.some.inj h
  exact RetK [.t (.int .i64 (bRem .i64 (bAdd .i64 (bRem .i64 p0 p1) p1) p1))] _ [] kr kr (.refl _) .nil
theorem impl_weak_ok (u : Nat) (p0 : Int) (p1 : Int) (r : Int) (h : impl_weak u p0 p1 = some r) : CallOK Tryz.prog 95 [.one (.t (.int .i64 p0)), .one (.t (.int .i64 p1))] (.one (.t (.int .i64 r))) [] := by
  unfold impl_weak at h
  refine CallOK.of_bodyK (fn := Tryz.f95) (m := false) [.t (.int .i64 p0), .t (.int .i64 p1)] kr rfl kr kr kr kr kr ?_
  refine Wp.srg [] [] ?_
  refine Runs.alln ?_
  refine Wp.fg ⟨[(0, .t (.int .i64 p0)), (1, .t (.int .i64 p1)), (4, .t (.int .i64 0))], [], []⟩ ?_
  refine Wp.srg [] [] ?_
  refine Runs.batch 1 kr ?_
  obtain ⟨r1, e_r1, h⟩ := bind_some h
  refine Runs.callK false 6 101 [] [.t (.int .i64 p0), .t (.int .i64 251)] _ _ _ rfl rfl kr kr kr kr kr (impl_Wrap_ok u p0 251 r1 e_r1) kr ?_
  refine Runs.batch 1 kr ?_
  obtain ⟨r2, e_r2, h⟩ := bind_some h
  refine Runs.callK false 8 101 [] [.t (.int .i64 p1), .t (.int .i64 251)] _ _ _ rfl rfl kr kr kr kr kr (impl_Wrap_ok u p1 251 r2 e_r2) kr ?_
  refine Runs.alln ?_
  refine Wp.fg ⟨[(4, .t (.int .i64 (bAdd .i64 r1 (bMul .i64 251 r2))))], [], []⟩ ?_
  refine Wp.ret ?_
  obtain rfl := Option.some.inj h
  exact RetK [.t (.int .i64 (bAdd .i64 r1 (bMul .i64 251 r2)))] _ [] kr kr (.refl _) .nil
theorem impl_WeakOf_ok (u : Nat) (p0 : List Int) (r : Int) (h : impl_WeakOf u p0 = some r) : CallOK Tryz.prog 79 [.one (.t (.sl 1 (p0.map (eInt .u8))))] (.one (.t (.int .i64 r))) [] := by
  unfold impl_WeakOf at h
  refine CallOK.of_bodyK (fn := Tryz.f79) (m := false) [.t (.sl 1 (p0.map (eInt .u8)))] kr rfl kr kr kr kr kr ?_
  refine Wp.srg [] [] ?_
  refine Runs.alln ?_
  refine Wp.fg ⟨[(0, .t (.sl 1 (p0.map (eInt .u8)))), (2, .t (.int .i64 0))], [], []⟩ ?_
  refine Wp.srg [] [] ?_
  refine Runs.alln ?_
  refine Wp.fg ⟨[(0, .t (.sl 1 (p0.map (eInt .u8)))), (2, .t (.int .i64 0)), (3, .t (.int .i64 0)), (4, .t (.int .i64 0))], [], []⟩ ?_
  refine Wp.seqJ (α := Int × Int) (fun a => ⟨[(2, .t (.int .i64 0)), (3, .t (.int .i64 a.1)), (4, .t (.int .i64 a.2))], [], []⟩) (fun a => impl_WeakOf_j1 u a.1 a.2 = some r) ?_ ?_
  · rintro ⟨x11, x12⟩ h
    change impl_WeakOf_j1 u x11 x12 = some r at h
    unfold impl_WeakOf_j1 at h
    refine Wp.srg [] [] ?_
    refine Runs.batch 2 kr ?_
    obtain ⟨r13, e_r13, h⟩ := bind_some h
    refine Runs.callK false 25 95 [] [.t (.int .i64 x11), .t (.int .i64 x12)] _ _ _ rfl rfl kr kr kr kr kr (impl_weak_ok u x11 x12 r13 e_r13) kr ?_
    refine Runs.alln ?_
    refine Wp.fg ⟨[(2, .t (.int .i64 r13))], [], []⟩ ?_
    refine Wp.ret ?_
    obtain rfl := Option.some.inj h
    exact RetK [.t (.int .i64 r13)] _ [] kr kr (.refl _) .nil
  · refine Wp.srg [] [] ?_
    refine Runs.batch 1 kr ?_
    refine Runs.lenT (y := .t (.sl 1 (p0.map (eInt .u8)))) (e := 5) (eInt .u8) p0 1 rfl rfl rfl kr kr kr kr kr ?_
    refine Runs.alln ?_
    refine Wp.fg ⟨[(2, .t (.int .i64 0)), (3, .t (.int .i64 0)), (4, .t (.int .i64 0)), (7, .t (.sl 1 (p0.map (eInt .u8)))), (8, .t (.int .i64 ((p0.length : Int)))), (9, .t (.int .i64 0))], [], []⟩ ?_
    refine Wp.block ?_
    refine Wp.loopF (α := Int × Int × (List Int) × Int) (fun a => ⟨[(2, .t (.int .i64 0)), (3, .t (.int .i64 a.1)), (4, .t (.int .i64 a.2.1)), (7, .t (.sl 1 (a.2.2.1.map (eInt .u8)))), (8, .t (.int .i64 ((a.2.2.1.length : Int)))), (9, .t (.int .i64 a.2.2.2))], [], []⟩) (fun k_impl_WeakOf_l2 a => impl_WeakOf_l2 u k_impl_WeakOf_l2 a.1 a.2.1 a.2.2.1 a.2.2.2 = some r) ?_ ?_ u (0, 0, p0, 0) h (Le.of (mo := []) (mr := []) kr kr kr kr)
    · intro a h; unfold impl_WeakOf_l2 at h; cases h
    · rintro k_impl_WeakOf_l2 ⟨x4, x5, p0, x6⟩ h
      change impl_WeakOf_l2 u (k_impl_WeakOf_l2 + 1) x4 x5 p0 x6 = some r at h
      rw [impl_WeakOf_l2] at h
      refine Wp.srg [] [] ?_
      refine Runs.alln ?_
      refine Wp.fg ⟨[(2, .t (.int .i64 0)), (3, .t (.int .i64 x4)), (4, .t (.int .i64 x5)), (7, .t (.sl 1 (p0.map (eInt .u8)))), (8, .t (.int .i64 ((p0.length : Int)))), (9, .t (.int .i64 x6)), (10, .t (.bool (decide (x6 < ((p0.length : Int))))))], [], []⟩ ?_
      refine Wp.seq ?_
      refine Wp.cond2 (b := decide (x6 < ((p0.length : Int)))) kr (fun hc => ?_) (fun hc => ?_)
      · have h := cond_t h hc
        refine Wp.skip (thenN ?_)
        refine Wp.seq ?_
        refine Wp.block ?_
        refine Wp.srg [] [] ?_
        obtain ⟨y10, e_y10, h⟩ := bind_some h
        refine Runs.idxT (e := 5) (kk := .i64) (sz := 1) (eInt .u8) p0 x6 rfl kr kr kr kr kr kr e_y10 ?_
        refine Runs.alln ?_
        refine Wp.fg ⟨[(2, .t (.int .i64 0)), (3, .t (.int .i64 x4)), (4, .t (.int .i64 x5)), (6, .t (.int .u8 y10)), (7, .t (.sl 1 (p0.map (eInt .u8)))), (8, .t (.int .i64 ((p0.length : Int)))), (9, .t (.int .i64 x6))], [], []⟩ ?_
        refine Wp.srg [] [] ?_
        refine Runs.alln ?_
        refine Wp.fg ⟨[(2, .t (.int .i64 0)), (3, .t (.int .i64 (bRem .i64 (bAdd .i64 x4 (IntKind.wrap .i64 y10)) 251))), (4, .t (.int .i64 x5)), (7, .t (.sl 1 (p0.map (eInt .u8)))), (8, .t (.int .i64 ((p0.length : Int)))), (9, .t (.int .i64 x6))], [], []⟩ ?_
        refine Wp.rg [] [] ?_
        refine Runs.all kr ?_
        refine blkN ?_
        refine thenN ?_
        refine Wp.rg [] [] ?_
        refine Runs.alln ?_
        exact ⟨(bRem .i64 (bAdd .i64 x4 (IntKind.wrap .i64 y10)) 251, bRem .i64 (bAdd .i64 x5 (bRem .i64 (bAdd .i64 x4 (IntKind.wrap .i64 y10)) 251)) 251, p0, bAdd .i64 x6 1), h, Le.of (mo := []) (mr := []) kr kr kr kr⟩
      have h := cond_f h hc
      refine Wp.exit ?_
      refine thenE ?_
      refine thenE ?_
      refine blkE ?_
      refine thenN ?_
      exact ⟨(x4, x5), h, Le.of (mo := []) (mr := []) kr kr kr kr⟩
theorem impl_SumOf_ok (u : Nat) (p0 : List Int) (r : Sum) (h : impl_SumOf u p0 = some r) : CallOK Tryz.prog 66 [.one (.t (.sl 1 (p0.map (eInt .u8))))] (.agg [.t (.int .i64 r.fW), .t (.int .i64 r.fS)]) [] := by
  unfold impl_SumOf at h
  refine CallOK.of_bodyK (fn := Tryz.f66) (m := false) [.t (.sl 1 (p0.map (eInt .u8)))] kr rfl kr kr kr kr kr ?_
  refine Wp.srg [] [] ?_
  refine Runs.alln ?_
  refine Wp.fg ⟨[(0, .t (.sl 1 (p0.map (eInt .u8)))), (2, .obj 2 0)], [(2, [.t (.int .i64 0), .t (.int .i64 0)])], []⟩ ?_
  refine Wp.seq ?_
  refine Wp.srg [] [] ?_
  refine Runs.batch 1 kr ?_
  refine Runs.lenT (y := .t (.sl 1 (p0.map (eInt .u8)))) (e := 5) (eInt .u8) p0 1 rfl rfl rfl kr kr kr kr kr ?_
  refine Runs.alln ?_
  refine Wp.fg ⟨[(0, .t (.sl 1 (p0.map (eInt .u8)))), (2, .obj 2 0), (8, .t (.bool (decide (((p0.length : Int)) > 6))))], [(2, [.t (.int .i64 0), .t (.int .i64 0)])], []⟩ ?_
  refine Wp.cond2 (b := decide (((p0.length : Int)) > 6)) kr (fun hc => ?_) (fun hc => ?_)
  · have h := cond_t h hc
    refine Wp.srg [] [] ?_
    refine Runs.alln ?_
    refine Wp.fg ⟨[(0, .t (.sl 1 (p0.map (eInt .u8)))), (2, .obj 2 0)], [(2, [.t (.int .i64 0), .t (.int .i64 0)])], []⟩ ?_
    refine Wp.ret ?_
    refine thenR ?_
    obtain rfl := Option.some.inj h
    exact RetK [.agg [.t (.int .i64 0), .t (.int .i64 0)]] _ [] kr kr (.refl _) .nil
  have h := cond_f h hc
  refine Wp.skip (thenN ?_)
  refine Wp.srg [] [] ?_
  refine Runs.alln ?_
  refine Wp.fg ⟨[(0, .t (.sl 1 (p0.map (eInt .u8)))), (2, .obj 2 0), (3, .t (.int .i64 1))], [(2, [.t (.int .i64 0), .t (.int .i64 0)])], []⟩ ?_
  refine Wp.seqJ (α := (List Int) × Int) (fun a => ⟨[(0, .t (.sl 1 (a.1.map (eInt .u8)))), (2, .obj 2 0), (3, .t (.int .i64 a.2))], [(2, [.t (.int .i64 0), .t (.int .i64 0)])], []⟩) (fun a => impl_SumOf_j1 u a.1 a.2 = some r) ?_ ?_
  · rintro ⟨p0, x8⟩ h
    change impl_SumOf_j1 u p0 x8 = some r at h
    unfold impl_SumOf_j1 at h
    refine Wp.srg [] [] ?_
    refine Runs.batch 1 kr ?_
    obtain ⟨r9, e_r9, h⟩ := bind_some h
    refine Runs.callK false 23 79 [] [.t (.sl 1 (p0.map (eInt .u8)))] _ _ _ rfl rfl kr kr kr kr kr (impl_WeakOf_ok u p0 r9 e_r9) kr ?_
    refine Runs.alln ?_
    refine Wp.fg ⟨[(2, .obj 2 0)], [(2, [.t (.int .i64 r9), .t (.int .i64 x8)])], []⟩ ?_
    refine Wp.ret ?_
    obtain rfl := Option.some.inj h
    exact RetK [.agg [.t (.int .i64 r9), .t (.int .i64 x8)]] _ [] kr kr (.refl _) .nil
  · refine Wp.srg [] [] ?_
    refine Runs.batch 1 kr ?_
    refine Runs.lenT (y := .t (.sl 1 (p0.map (eInt .u8)))) (e := 5) (eInt .u8) p0 1 rfl rfl rfl kr kr kr kr kr ?_
    refine Runs.alln ?_
    refine Wp.fg ⟨[(0, .t (.sl 1 (p0.map (eInt .u8)))), (2, .obj 2 0), (3, .t (.int .i64 1)), (10, .t (.sl 1 (p0.map (eInt .u8)))), (11, .t (.int .i64 ((p0.length : Int)))), (12, .t (.int .i64 0))], [(2, [.t (.int .i64 0), .t (.int .i64 0)])], []⟩ ?_
    refine Wp.block ?_
    refine Wp.loopF (α := (List Int) × Int × Int) (fun a => ⟨[(0, .t (.sl 1 (a.1.map (eInt .u8)))), (2, .obj 2 0), (3, .t (.int .i64 a.2.1)), (10, .t (.sl 1 (a.1.map (eInt .u8)))), (11, .t (.int .i64 ((a.1.length : Int)))), (12, .t (.int .i64 a.2.2))], [(2, [.t (.int .i64 0), .t (.int .i64 0)])], []⟩) (fun k_impl_SumOf_l2 a => impl_SumOf_l2 u k_impl_SumOf_l2 a.1 a.2.1 a.2.2 = some r) ?_ ?_ u (p0, 1, 0) h (Le.of (mo := []) (mr := []) kr kr kr kr)
    · intro a h; unfold impl_SumOf_l2 at h; cases h
    · rintro k_impl_SumOf_l2 ⟨p0, x3, x4⟩ h
      change impl_SumOf_l2 u (k_impl_SumOf_l2 + 1) p0 x3 x4 = some r at h
      rw [impl_SumOf_l2] at h
      refine Wp.srg [] [] ?_
      refine Runs.alln ?_
      refine Wp.fg ⟨[(0, .t (.sl 1 (p0.map (eInt .u8)))), (2, .obj 2 0), (3, .t (.int .i64 x3)), (10, .t (.sl 1 (p0.map (eInt .u8)))), (11, .t (.int .i64 ((p0.length : Int)))), (12, .t (.int .i64 x4)), (13, .t (.bool (decide (x4 < ((p0.length : Int))))))], [(2, [.t (.int .i64 0), .t (.int .i64 0)])], []⟩ ?_
      refine Wp.seq ?_
      refine Wp.cond2 (b := decide (x4 < ((p0.length : Int)))) kr (fun hc => ?_) (fun hc => ?_)
      · have h := cond_t h hc
        refine Wp.skip (thenN ?_)
        refine Wp.seq ?_
        refine Wp.block ?_
        refine Wp.srg [] [] ?_
        obtain ⟨y7, e_y7, h⟩ := bind_some h
        refine Runs.idxT (e := 5) (kk := .i64) (sz := 1) (eInt .u8) p0 x4 rfl kr kr kr kr kr kr e_y7 ?_
        refine Runs.alln ?_
        refine Wp.fg ⟨[(0, .t (.sl 1 (p0.map (eInt .u8)))), (2, .obj 2 0), (3, .t (.int .i64 x3)), (5, .t (.int .u8 y7)), (10, .t (.sl 1 (p0.map (eInt .u8)))), (11, .t (.int .i64 ((p0.length : Int)))), (12, .t (.int .i64 x4))], [(2, [.t (.int .i64 0), .t (.int .i64 0)])], []⟩ ?_
        refine Wp.rg [] [] ?_
        refine Runs.all kr ?_
        refine blkN ?_
        refine thenN ?_
        refine Wp.rg [] [] ?_
        refine Runs.alln ?_
        exact ⟨(p0, bOr .i64 (bShl .i64 x3 8) (IntKind.wrap .i64 y7), bAdd .i64 x4 1), h, Le.of (mo := []) (mr := []) kr kr kr kr⟩
      have h := cond_f h hc
      refine Wp.exit ?_
      refine thenE ?_
      refine thenE ?_
      refine blkE ?_
      refine thenN ?_
      exact ⟨(p0, x3), h, Le.of (mo := []) (mr := []) kr kr kr kr⟩
theorem impl_SumsOf_ok (u : Nat) (p0 : List Int) (p1 : Int) (r : (List Sum)) (h : impl_SumsOf u p0 p1 = some r) : CallOK Tryz.prog 45 [.one (.t (.sl 1 (p0.map (eInt .u8)))), .one (.t (.int .i64 p1))] (.one (.ow 69 2 (r.map Sum.enc))) [] := by
  unfold impl_SumsOf at h
  refine CallOK.of_bodyK (fn := Tryz.f45) (m := true) [.t (.sl 1 (p0.map (eInt .u8))), .t (.int .i64 p1)] kr rfl kr kr kr kr kr ?_
  refine Wp.srg [] [] ?_
  refine Runs.alln ?_
  refine Wp.fg ⟨[(0, .t (.sl 1 (p0.map (eInt .u8)))), (1, .t (.int .i64 p1)), (4, .nil)], [], []⟩ ?_
  refine Wp.srg [] [] ?_
  refine Runs.alln ?_
  refine Wp.fg ⟨[(0, .t (.sl 1 (p0.map (eInt .u8)))), (1, .t (.int .i64 p1)), (4, .nil), (5, .own 589824)], [], [(589824, .live 69 2 ((([] : List Sum)).map Sum.enc))]⟩ ?_
  refine Wp.seqJ (α := (List Sum)) (fun a => ⟨[(4, .nil), (5, .own 327681)], [], [(327681, .live 69 2 (a.map Sum.enc))]⟩) (fun a => impl_SumsOf_j1 u a = some r) ?_ ?_
  · rintro x10 h
    change impl_SumsOf_j1 u x10 = some r at h
    unfold impl_SumsOf_j1 at h
    refine Wp.srg [] [] ?_
    refine Runs.alln ?_
    refine Wp.fg ⟨[(4, .own 327681)], [], [(327681, .live 69 2 (x10.map Sum.enc))]⟩ ?_
    refine Wp.ret ?_
    obtain rfl := Option.some.inj h
    exact RetK [.own 327681] _ [] kr kr (.refl _) .nil
  · refine Wp.srg [] [] ?_
    refine Runs.batch 2 kr ?_
    refine Runs.lenT (y := .t (.sl 1 (p0.map (eInt .u8)))) (e := 5) (eInt .u8) p0 1 rfl rfl rfl kr kr kr kr kr ?_
    obtain ⟨r1, e_r1, h⟩ := bind_some h
    refine Runs.callK false 13 64 [] [.t (.int .i64 p1), .t (.int .i64 ((p0.length : Int)))] _ _ _ rfl rfl kr kr kr kr kr (impl_Blocks_ok u p1 ((p0.length : Int)) r1 e_r1) kr ?_
    refine Runs.alln ?_
    refine Wp.fg ⟨[(0, .t (.sl 1 (p0.map (eInt .u8)))), (1, .t (.int .i64 p1)), (4, .nil), (5, .own 589824), (13, .t (.int .i64 r1)), (14, .t (.int .i64 0))], [], [(589824, .live 69 2 ((([] : List Sum)).map Sum.enc))]⟩ ?_
    refine Wp.block ?_
    refine Wp.loopF (α := (List Int) × Int × (List Sum) × Int × Int) (fun a => ⟨[(0, .t (.sl 1 (a.1.map (eInt .u8)))), (1, .t (.int .i64 a.2.1)), (4, .nil), (5, .own 327681), (13, .t (.int .i64 a.2.2.2.1)), (14, .t (.int .i64 a.2.2.2.2))], [], [(327681, .live 69 2 (a.2.2.1.map Sum.enc))]⟩) (fun k_impl_SumsOf_l2 a => impl_SumsOf_l2 u k_impl_SumsOf_l2 a.1 a.2.1 a.2.2.1 a.2.2.2.1 a.2.2.2.2 = some r) ?_ ?_ u (p0, p1, ([] : List Sum), r1, 0) h (Le.of (mo := []) (mr := [(327681, 589824)]) kr kr kr kr)
    · intro a h; unfold impl_SumsOf_l2 at h; cases h
    · rintro k_impl_SumsOf_l2 ⟨p0, p1, x4, r1, x5⟩ h
      change impl_SumsOf_l2 u (k_impl_SumsOf_l2 + 1) p0 p1 x4 r1 x5 = some r at h
      rw [impl_SumsOf_l2] at h
      refine Wp.srg [] [] ?_
      refine Runs.alln ?_
      refine Wp.fg ⟨[(0, .t (.sl 1 (p0.map (eInt .u8)))), (1, .t (.int .i64 p1)), (4, .nil), (5, .own 327681), (13, .t (.int .i64 r1)), (14, .t (.int .i64 x5)), (15, .t (.bool (decide (x5 < r1))))], [], [(327681, .live 69 2 (x4.map Sum.enc))]⟩ ?_
      refine Wp.seq ?_
      refine Wp.cond2 (b := decide (x5 < r1)) kr (fun hc => ?_) (fun hc => ?_)
      · have h := cond_t h hc
        refine Wp.skip (thenN ?_)
        refine Wp.seq ?_
        refine Wp.block ?_
        refine Wp.srg [] [] ?_
        refine Runs.alln ?_
        refine Wp.fg ⟨[(0, .t (.sl 1 (p0.map (eInt .u8)))), (1, .t (.int .i64 p1)), (4, .nil), (5, .own 327681), (6, .t (.int .i64 x5)), (13, .t (.int .i64 r1)), (14, .t (.int .i64 x5))], [], [(327681, .live 69 2 (x4.map Sum.enc))]⟩ ?_
        refine Wp.srg [] [] ?_
        refine Runs.batch 3 kr ?_
        obtain ⟨r8, e_r8, h⟩ := bind_some h
        refine Runs.callK false 21 65 [] [.t (.sl 1 (p0.map (eInt .u8))), .t (.int .i64 p1), .t (.int .i64 x5)] _ _ _ rfl rfl kr kr kr kr kr (impl_BlockAt_ok u p0 p1 x5 r8 e_r8) kr ?_
        refine Runs.alln ?_
        refine Wp.fg ⟨[(0, .t (.sl 1 (p0.map (eInt .u8)))), (1, .t (.int .i64 p1)), (4, .nil), (5, .own 327681), (7, .own 1376256), (13, .t (.int .i64 r1)), (14, .t (.int .i64 x5))], [], [(327681, .live 69 2 (x4.map Sum.enc)), (1376256, .live 5 1 (r8.1.map (eInt .u8)))]⟩ ?_
        refine Wp.rg [] [] ?_
        refine Runs.batch 2 kr ?_
        obtain ⟨r9, e_r9, h⟩ := bind_some h
        refine Runs.callBK 26 66 [] [.own 1376256] [.one (.t (.sl 1 (r8.1.map (eInt .u8))))] (.agg [.t (.int .i64 r9.fW), .t (.int .i64 r9.fS)]) rfl rfl kr kr kr kr kr (impl_SumOf_ok u r8.1 r9 e_r9) (by simp [V.plain, V.plains, C.plain, T.sc]) kr ?_
        refine Runs.batch 1 kr ?_
        obtain ⟨_, e_10, h⟩ := bind_some h
        refine Runs.appT (y := .own 1769472) Sum.enc 28 2 69 2 16 327681 x4 ([r9]) rfl rfl rfl rfl kr kr kr kr kr kr (.inl rfl) kr (of_decide_eq_true (chk_some e_10)) kr kr ?_
        refine Runs.all kr ?_
        refine blkN ?_
        refine thenN ?_
        refine Wp.rg [] [] ?_
        refine Runs.alln ?_
        exact ⟨(p0, p1, x4 ++ ([r9]), r1, bAdd .i64 x5 1), h, Le.of (mo := []) (mr := [(327681, 1835008)]) kr kr kr kr⟩
      have h := cond_f h hc
      refine Wp.exit ?_
      refine thenE ?_
      refine thenE ?_
      refine blkE ?_
      refine thenN ?_
      exact ⟨x4, h, Le.of (mo := []) (mr := []) kr kr kr kr⟩
theorem impl_ManOf_ok (u : Nat) (p0 : Int) (p1 : List Int) (p2 : Int) (r : Manifest) (h : impl_ManOf u p0 p1 p2 = some r) : CallOK Tryz.prog 29 [.one (.t (.int .i64 p0)), .one (.t (.sl 1 (p1.map (eInt .u8)))), .one (.t (.int .i64 p2))] (.agg [.t (.int .i64 r.fGen), .t (.int .i64 r.fSize), .t (.int .i64 r.fLen), .ow 69 2 (r.fSums.map Sum.enc)]) [] := by
  unfold impl_ManOf at h
  refine CallOK.of_bodyK (fn := Tryz.f29) (m := true) [.t (.int .i64 p0), .t (.sl 1 (p1.map (eInt .u8))), .t (.int .i64 p2)] kr rfl kr kr kr kr kr ?_
  refine Wp.srg [] [] ?_
  refine Runs.alln ?_
  refine Wp.fg ⟨[(0, .t (.int .i64 p0)), (1, .t (.sl 1 (p1.map (eInt .u8)))), (2, .t (.int .i64 p2)), (6, .obj 6 0)], [(6, [.t (.int .i64 0), .t (.int .i64 0), .t (.int .i64 0), .nil])], []⟩ ?_
  refine Wp.seq ?_
  refine Wp.seqJ (α := Int × (List Int) × Int × Bool) (fun a => ⟨[(0, .t (.int .i64 a.1)), (1, .t (.sl 1 (a.2.1.map (eInt .u8)))), (2, .t (.int .i64 a.2.2.1)), (6, .obj 6 0), (16, .t (.bool a.2.2.2))], [(6, [.t (.int .i64 0), .t (.int .i64 0), .t (.int .i64 0), .nil])], []⟩) (fun a => impl_ManOf_j1 u a.1 a.2.1 a.2.2.1 a.2.2.2 = some r) ?_ ?_
  · rintro ⟨p0, p1, p2, x3⟩ h
    change impl_ManOf_j1 u p0 p1 p2 x3 = some r at h
    unfold impl_ManOf_j1 at h
    refine Wp.cond2 (b := x3) kr (fun hc => ?_) (fun hc => ?_)
    · have h := cond_t h hc
      refine Wp.srg [] [] ?_
      refine Runs.alln ?_
      refine Wp.fg ⟨[(0, .t (.int .i64 p0)), (1, .t (.sl 1 (p1.map (eInt .u8)))), (2, .t (.int .i64 p2)), (6, .obj 6 0)], [(6, [.t (.int .i64 0), .t (.int .i64 0), .t (.int .i64 0), .nil])], []⟩ ?_
      refine Wp.ret ?_
      refine thenR ?_
      obtain rfl := Option.some.inj h
      exact RetK [.agg [.t (.int .i64 0), .t (.int .i64 0), .t (.int .i64 0), .nil]] (.agg [.t (.int .i64 0), .t (.int .i64 0), .t (.int .i64 0), .nil]) [] kr kr (.agg (.cons (.refl _) (.cons (.refl _) (.cons (.refl _) (.cons (.nilO _ _) .nil))))) .nil
    have h := cond_f h hc
    refine Wp.skip (thenN ?_)
    refine Wp.srg [] [] ?_
    refine Runs.batch 3 kr ?_
    refine Runs.lenT (y := .t (.sl 1 (p1.map (eInt .u8)))) (e := 5) (eInt .u8) p1 1 rfl rfl rfl kr kr kr kr kr ?_
    refine Runs.batch 2 kr ?_
    obtain ⟨r4, e_r4, h⟩ := bind_some h
    refine Runs.callK false 24 45 [] [.t (.sl 1 (p1.map (eInt .u8))), .t (.int .i64 p2)] _ _ _ rfl rfl kr kr kr kr kr (impl_SumsOf_ok u p1 p2 r4 e_r4) kr ?_
    refine Runs.alln ?_
    refine Wp.fg ⟨[(6, .obj 6 0)], [(6, [.t (.int .i64 p0), .t (.int .i64 p2), .t (.int .i64 ((p1.length : Int))), .own 1572864])], [(1572864, .live 69 2 (r4.map Sum.enc))]⟩ ?_
    refine Wp.ret ?_
    obtain rfl := Option.some.inj h
    exact RetK [.agg [.t (.int .i64 p0), .t (.int .i64 p2), .t (.int .i64 ((p1.length : Int))), .own 1572864]] _ [] kr kr (.refl _) .nil
  · refine Wp.rg [] [] ?_
    refine Runs.batch 1 kr ?_
    obtain ⟨r1, e_r1, h⟩ := bind_some h
    refine Runs.callK false 8 34 [] [.t (.int .i64 p0), .t (.int .i64 1), .t (.int .i64 1000000)] _ _ _ rfl rfl kr kr kr kr kr (impl_within_ok u p0 1 1000000 r1 e_r1) kr ?_
    refine Runs.batch 2 kr ?_
    rcases tf (!r1) with hc | hc
    · have h := cond_t h hc
      refine Runs.known 10 (v := true) kr hc ?_
      refine Runs.alln ?_
      exact ⟨(p0, p1, p2, true), h, Le.of (mo := []) (mr := []) kr kr kr kr⟩
    have h := cond_f h hc
    refine Runs.known 10 (v := false) kr hc ?_
    refine Runs.batch 2 kr ?_
    refine Runs.lenT (y := .t (.sl 1 (p1.map (eInt .u8)))) (e := 5) (eInt .u8) p1 1 rfl rfl rfl kr kr kr kr kr ?_
    obtain ⟨r2, e_r2, h⟩ := bind_some h
    refine Runs.callK false 14 22 [] [.t (.int .i64 p2), .t (.int .i64 ((p1.length : Int)))] _ _ _ rfl rfl kr kr kr kr kr (impl_SizeOk_ok u p2 ((p1.length : Int)) r2 e_r2) kr ?_
    refine Runs.alln ?_
    exact ⟨(p0, p1, p2, !r2), h, Le.of (mo := []) (mr := []) kr kr kr kr⟩
theorem impl_isZeroMan_ok (u : Nat) (p0 : Manifest) (r : Bool) (h : impl_isZeroMan u p0 = some r) : CallOK Tryz.prog 77 [.agg [.t (.int .i64 p0.fGen), .t (.int .i64 p0.fSize), .t (.int .i64 p0.fLen), .t (.sl 2 (p0.fSums.map Sum.enc))]] (.one (.t (.bool r))) [] := by
  unfold impl_isZeroMan at h
  refine CallOK.of_bodyK (fn := Tryz.f77) (m := false) [.agg ((Manifest.enc p0).map .t)] kr rfl kr kr kr kr kr ?_
  refine Wp.srg [] [] ?_
  refine Runs.alln ?_
  refine Wp.fg ⟨[(1, .obj 1 0), (2, .t (.bool false))], [(1, ((Manifest.enc p0).map .t))], []⟩ ?_
  refine Wp.srg [] [] ?_
  refine Runs.batch 4 kr ?_
  rcases tf (p0.fGen == 0) with hc | hc
  · have h := cond_t h hc
    refine Runs.known 6 (v := true) kr hc ?_
    refine Runs.batch 5 kr ?_
    rcases tf (p0.fSize == 0) with hc | hc
    · have h := cond_t h hc
      refine Runs.known 11 (v := true) kr hc ?_
      refine Runs.batch 5 kr ?_
      rcases tf (p0.fLen == 0) with hc | hc
      · have h := cond_t h hc
        refine Runs.known 16 (v := true) kr hc ?_
        refine Runs.batch 2 kr ?_
        refine Runs.lenT (y := .t (.sl 2 (p0.fSums.map Sum.enc))) (e := 69) Sum.enc p0.fSums 2 rfl rfl rfl kr kr kr kr kr ?_
        refine Runs.alln ?_
        refine Wp.fg ⟨[(2, .t (.bool (((p0.fSums.length : Int)) == 0)))], [], []⟩ ?_
        refine Wp.ret ?_
        obtain rfl := Option.some.inj h
        exact RetK [.t (.bool (((p0.fSums.length : Int)) == 0))] _ [] kr kr (.refl _) .nil
      have h := cond_f h hc
      refine Runs.known 16 (v := false) kr hc ?_
      refine Runs.alln ?_
      refine Wp.fg ⟨[(2, .t (.bool false))], [], []⟩ ?_
      refine Wp.ret ?_
      obtain rfl := Option.some.inj h
      exact RetK [.t (.bool false)] _ [] kr kr (.refl _) .nil
    have h := cond_f h hc
    refine Runs.known 11 (v := false) kr hc ?_
    refine Runs.alln ?_
    refine Wp.fg ⟨[(2, .t (.bool false))], [], []⟩ ?_
    refine Wp.ret ?_
    obtain rfl := Option.some.inj h
    exact RetK [.t (.bool false)] _ [] kr kr (.refl _) .nil
  have h := cond_f h hc
  refine Runs.known 6 (v := false) kr hc ?_
  refine Runs.alln ?_
  refine Wp.fg ⟨[(2, .t (.bool false))], [], []⟩ ?_
  refine Wp.ret ?_
  obtain rfl := Option.some.inj h
  exact RetK [.t (.bool false)] _ [] kr kr (.refl _) .nil
theorem impl_BytesOf_ok (u : Nat) (p0 : Int) (r : (List Int) × Bool) (h : impl_BytesOf u p0 = some r) : CallOK Tryz.prog 78 [.one (.t (.int .i64 p0))] (.tup [.one (.ow 5 1 (r.1.map (eInt .u8))), .one (.t (.bool r.2))]) [] := by
  unfold impl_BytesOf at h
  refine CallOK.of_bodyK (fn := Tryz.f78) (m := true) [.t (.int .i64 p0)] kr rfl kr kr kr kr kr ?_
  refine Wp.srg [] [] ?_
  refine Runs.alln ?_
  refine Wp.fg ⟨[(0, .t (.int .i64 p0)), (2, .nil), (3, .t (.bool false))], [], []⟩ ?_
  refine Wp.srg [] [] ?_
  refine Runs.alln ?_
  refine Wp.fg ⟨[(0, .t (.int .i64 p0)), (2, .nil), (3, .t (.bool false)), (4, .t (.int .i64 0))], [], []⟩ ?_
  refine Wp.seqJ (α := Int × Int) (fun a => ⟨[(0, .t (.int .i64 a.1)), (2, .nil), (3, .t (.bool false)), (4, .t (.int .i64 a.2))], [], []⟩) (fun a => impl_BytesOf_j1 u a.1 a.2 = some r) ?_ ?_
  · rintro ⟨p0, x5⟩ h
    change impl_BytesOf_j1 u p0 x5 = some r at h
    unfold impl_BytesOf_j1 at h
    refine Wp.seq ?_
    refine Wp.seqJ (α := Int × Int × Bool) (fun a => ⟨[(0, .t (.int .i64 a.1)), (2, .nil), (3, .t (.bool false)), (4, .t (.int .i64 a.2.1)), (26, .t (.bool a.2.2))], [], []⟩) (fun a => impl_BytesOf_j2 u a.1 a.2.1 a.2.2 = some r) ?_ ?_
    · rintro ⟨p0, x5, x6⟩ h
      change impl_BytesOf_j2 u p0 x5 x6 = some r at h
      unfold impl_BytesOf_j2 at h
      refine Wp.cond2 (b := x6) kr (fun hc => ?_) (fun hc => ?_)
      · have h := cond_t h hc
        refine Wp.srg [] [] ?_
        refine Runs.alln ?_
        refine Wp.fg ⟨[(0, .t (.int .i64 p0)), (2, .nil), (3, .t (.bool false)), (4, .t (.int .i64 x5))], [], []⟩ ?_
        refine Wp.ret ?_
        refine thenR ?_
        obtain rfl := Option.some.inj h
        exact RetK [.nil, .t (.bool false)] (.tup [.one (.nil), .one (.t (.bool false))]) [] kr kr (.tup (.cons (.one (.nilO _ _)) (.cons (.refl _) .nil))) .nil
      have h := cond_f h hc
      refine Wp.skip (thenN ?_)
      refine Wp.srg [] [] ?_
      refine Runs.batch 1 kr ?_
      obtain ⟨_, e_7, h⟩ := bind_some h
      obtain ⟨_, e_8, h⟩ := bind_some h
      refine Runs.mkS (eInt .u8) (0 : Int) 28 5 1 1 x5 x5 rfl rfl kr kr kr kr kr kr (chk_some e_7) (of_decide_eq_true (chk_some e_8)) kr ?_
      refine Runs.alln ?_
      refine Wp.fg ⟨[(0, .t (.int .i64 p0)), (2, .nil), (3, .t (.bool false)), (4, .t (.int .i64 x5)), (5, .own 1835008)], [], [(1835008, .live 5 1 ((List.replicate (Int.toNat x5) (0 : Int)).map (eInt .u8)))]⟩ ?_
      refine Wp.seqJ (α := (List Int)) (fun a => ⟨[(2, .nil), (3, .t (.bool false)), (5, .own 327681)], [], [(327681, .live 5 1 (a.map (eInt .u8)))]⟩) (fun a => impl_BytesOf_j3 u a = some r) ?_ ?_
      · rintro x17 h
        change impl_BytesOf_j3 u x17 = some r at h
        unfold impl_BytesOf_j3 at h
        refine Wp.srg [] [] ?_
        refine Runs.alln ?_
        refine Wp.fg ⟨[(2, .own 327681), (3, .t (.bool true))], [], [(327681, .live 5 1 (x17.map (eInt .u8)))]⟩ ?_
        refine Wp.ret ?_
        obtain rfl := Option.some.inj h
        exact RetK [.own 327681, .t (.bool true)] _ [] kr kr (.refl _) .nil
      · refine Wp.srg [] [] ?_
        refine Runs.batch 1 kr ?_
        refine Runs.lenT (y := .own 1835008) (e := 5) (eInt .u8) (List.replicate (Int.toNat x5) (0 : Int)) 1 rfl rfl rfl kr kr kr kr kr ?_
        refine Runs.alln ?_
        refine Wp.fg ⟨[(0, .t (.int .i64 p0)), (2, .nil), (3, .t (.bool false)), (4, .t (.int .i64 x5)), (5, .own 1835008), (30, .t (.int .i64 (((List.replicate (Int.toNat x5) (0 : Int)).length : Int)))), (31, .t (.int .i64 0))], [], [(1835008, .live 5 1 ((List.replicate (Int.toNat x5) (0 : Int)).map (eInt .u8)))]⟩ ?_
        refine Wp.block ?_
        refine Wp.loopF (α := Int × Int × (List Int) × Int) (fun a => ⟨[(0, .t (.int .i64 a.1)), (2, .nil), (3, .t (.bool false)), (4, .t (.int .i64 a.2.1)), (5, .own 327681), (30, .t (.int .i64 (((List.replicate (Int.toNat a.2.1) (0 : Int)).length : Int)))), (31, .t (.int .i64 a.2.2.2))], [], [(327681, .live 5 1 (a.2.2.1.map (eInt .u8)))]⟩) (fun k_impl_BytesOf_l4 a => impl_BytesOf_l4 u k_impl_BytesOf_l4 a.1 a.2.1 a.2.2.1 a.2.2.2 = some r) ?_ ?_ u (p0, x5, List.replicate (Int.toNat x5) (0 : Int), 0) h (Le.of (mo := []) (mr := [(327681, 1835008)]) kr kr kr kr)
        · intro a h; unfold impl_BytesOf_l4 at h; cases h
        · rintro k_impl_BytesOf_l4 ⟨p0, x5, x11, x12⟩ h
          change impl_BytesOf_l4 u (k_impl_BytesOf_l4 + 1) p0 x5 x11 x12 = some r at h
          rw [impl_BytesOf_l4] at h
          refine Wp.srg [] [] ?_
          refine Runs.alln ?_
          refine Wp.fg ⟨[(0, .t (.int .i64 p0)), (2, .nil), (3, .t (.bool false)), (4, .t (.int .i64 x5)), (5, .own 327681), (30, .t (.int .i64 (((List.replicate (Int.toNat x5) (0 : Int)).length : Int)))), (31, .t (.int .i64 x12)), (32, .t (.bool (decide (x12 < (((List.replicate (Int.toNat x5) (0 : Int)).length : Int))))))], [], [(327681, .live 5 1 (x11.map (eInt .u8)))]⟩ ?_
          refine Wp.seq ?_
          refine Wp.cond2 (b := decide (x12 < (((List.replicate (Int.toNat x5) (0 : Int)).length : Int)))) kr (fun hc => ?_) (fun hc => ?_)
          · have h := cond_t h hc
            refine Wp.skip (thenN ?_)
            refine Wp.seq ?_
            refine Wp.block ?_
            refine Wp.srg [] [] ?_
            refine Runs.alln ?_
            refine Wp.fg ⟨[(0, .t (.int .i64 p0)), (2, .nil), (3, .t (.bool false)), (4, .t (.int .i64 x5)), (5, .own 327681), (6, .t (.int .i64 x12)), (30, .t (.int .i64 (((List.replicate (Int.toNat x5) (0 : Int)).length : Int)))), (31, .t (.int .i64 x12))], [], [(327681, .live 5 1 (x11.map (eInt .u8)))]⟩ ?_
            refine Wp.rg [] [] ?_
            refine Runs.batch 8 kr ?_
            obtain ⟨_, e_15, h⟩ := bind_some h
            refine Runs.num .shr (.int .i64 p0) (.int .i64 (bMul .i64 8 (bSub .i64 (bSub .i64 x5 1) x12))) (.int .i64 (bShr .i64 p0 (bMul .i64 8 (bSub .i64 (bSub .i64 x5 1) x12)))) rfl kr kr kr kr (bin_shr _ _ _ _ _ (chk_some e_15)) ?_
            refine Runs.batch 1 kr ?_
            obtain ⟨y16, e_y16, h⟩ := bind_some h
            refine Runs.idxO (e := 5) (e' := 5) (kk := .i64) (sz := 1) (eInt .u8) x11 x12 327681 rfl kr kr kr kr kr kr kr e_y16 ?_
            refine Runs.storeT (e := 5) (sz := 1) (m := 1) (eInt .u8) x11 327681 (Int.toNat x12) 0 (IntKind.wrap .u8 (bShr .i64 p0 (bMul .i64 8 (bSub .i64 (bSub .i64 x5 1) x12)))) (.t (.int .u8 (IntKind.wrap .u8 (bShr .i64 p0 (bMul .i64 8 (bSub .i64 (bSub .i64 x5 1) x12)))))) [.int .u8 (IntKind.wrap .u8 (bShr .i64 p0 (bMul .i64 8 (bSub .i64 (bSub .i64 x5 1) x12))))] rfl kr kr kr kr kr kr kr kr (idx_some e_y16).2 kr kr ?_
            refine Runs.done ?_
            refine blkN ?_
            refine thenN ?_
            refine Wp.rg [] [] ?_
            refine Runs.alln ?_
            exact ⟨(p0, x5, x11.set (Int.toNat x12) (IntKind.wrap .u8 (bShr .i64 p0 (bMul .i64 8 (bSub .i64 (bSub .i64 x5 1) x12)))), bAdd .i64 x12 1), h, Le.of (mo := []) (mr := []) kr kr kr kr⟩
          have h := cond_f h hc
          refine Wp.exit ?_
          refine thenE ?_
          refine thenE ?_
          refine blkE ?_
          refine thenN ?_
          exact ⟨x11, h, Le.of (mo := []) (mr := []) kr kr kr kr⟩
    · refine Wp.rg [] [] ?_
      refine Runs.batch 3 kr ?_
      rcases tf (decide (p0 < 1)) with hc | hc
      · have h := cond_t h hc
        refine Runs.known 20 (v := true) kr hc ?_
        refine Runs.alln ?_
        exact ⟨(p0, x5, true), h, Le.of (mo := []) (mr := []) kr kr kr kr⟩
      have h := cond_f h hc
      refine Runs.known 20 (v := false) kr hc ?_
      refine Runs.batch 3 kr ?_
      obtain ⟨_, e_6, h⟩ := bind_some h
      refine Runs.num .shr (.int .i64 p0) (.int .i64 (bMul .i64 8 x5)) (.int .i64 (bShr .i64 p0 (bMul .i64 8 x5))) rfl kr kr kr kr (bin_shr _ _ _ _ _ (chk_some e_6)) ?_
      refine Runs.alln ?_
      exact ⟨(p0, x5, (bShr .i64 p0 (bMul .i64 8 x5)) != 1), h, Le.of (mo := []) (mr := []) kr kr kr kr⟩
  · refine Wp.block ?_
    refine Wp.loopF (α := Int × Int) (fun a => ⟨[(0, .t (.int .i64 a.1)), (2, .nil), (3, .t (.bool false)), (4, .t (.int .i64 a.2))], [], []⟩) (fun k_impl_BytesOf_l5 a => impl_BytesOf_l5 u k_impl_BytesOf_l5 a.1 a.2 = some r) ?_ ?_ u (p0, 0) h (Le.of (mo := []) (mr := []) kr kr kr kr)
    · intro a h; unfold impl_BytesOf_l5 at h; cases h
    · rintro k_impl_BytesOf_l5 ⟨p0, x2⟩ h
      change impl_BytesOf_l5 u (k_impl_BytesOf_l5 + 1) p0 x2 = some r at h
      rw [impl_BytesOf_l5] at h
      refine Wp.seq ?_
      refine Wp.seqJ (α := Int × Int × Bool) (fun a => ⟨[(0, .t (.int .i64 a.1)), (2, .nil), (3, .t (.bool false)), (4, .t (.int .i64 a.2.1)), (15, .t (.bool a.2.2))], [], []⟩) (fun a => impl_BytesOf_j6 u (fun z0 z1 => impl_BytesOf_l5 u k_impl_BytesOf_l5 z0 z1) a.1 a.2.1 a.2.2 = some r) ?_ ?_
      · rintro ⟨p0, x2, x4⟩ h
        change impl_BytesOf_j6 u (fun z0 z1 => impl_BytesOf_l5 u k_impl_BytesOf_l5 z0 z1) p0 x2 x4 = some r at h
        unfold impl_BytesOf_j6 at h
        refine Wp.cond2 (b := x4) kr (fun hc => ?_) (fun hc => ?_)
        · have h := cond_t h hc
          refine Wp.skip (thenN ?_)
          refine Wp.block ?_
          refine Wp.rg [] [] ?_
          refine Runs.all kr ?_
          refine blkN ?_
          refine thenN ?_
          exact ⟨(p0, bAdd .i64 x2 1), h, Le.of (mo := []) (mr := []) kr kr kr kr⟩
        have h := cond_f h hc
        refine Wp.exit ?_
        refine thenE ?_
        refine thenE ?_
        refine blkE ?_
        refine thenN ?_
        exact ⟨(p0, x2), h, Le.of (mo := []) (mr := []) kr kr kr kr⟩
      · refine Wp.rg [] [] ?_
        refine Runs.batch 3 kr ?_
        rcases tf (decide (x2 < 6)) with hc | hc
        · have h := cond_t h hc
          refine Runs.known 9 (v := true) kr hc ?_
          refine Runs.batch 3 kr ?_
          obtain ⟨_, e_4, h⟩ := bind_some h
          refine Runs.num .shr (.int .i64 p0) (.int .i64 (bMul .i64 8 x2)) (.int .i64 (bShr .i64 p0 (bMul .i64 8 x2))) rfl kr kr kr kr (bin_shr _ _ _ _ _ (chk_some e_4)) ?_
          refine Runs.alln ?_
          exact ⟨(p0, x2, decide ((bShr .i64 p0 (bMul .i64 8 x2)) > 1)), h, Le.of (mo := []) (mr := []) kr kr kr kr⟩
        have h := cond_f h hc
        refine Runs.known 9 (v := false) kr hc ?_
        refine Runs.alln ?_
        exact ⟨(p0, x2, false), h, Le.of (mo := []) (mr := []) kr kr kr kr⟩
theorem impl_ManOk_ok (u : Nat) (p0 : Manifest) (r : Bool) (h : impl_ManOk u p0 = some r) : CallOK Tryz.prog 54 [.agg [.t (.int .i64 p0.fGen), .t (.int .i64 p0.fSize), .t (.int .i64 p0.fLen), .t (.sl 2 (p0.fSums.map Sum.enc))]] (.one (.t (.bool r))) [] := by
  unfold impl_ManOk at h
  refine CallOK.of_bodyK (fn := Tryz.f54) (m := false) [.agg ((Manifest.enc p0).map .t)] kr rfl kr kr kr kr kr ?_
  refine Wp.srg [] [] ?_
  refine Runs.alln ?_
  refine Wp.fg ⟨[(1, .obj 1 0), (2, .t (.bool false))], [(1, ((Manifest.enc p0).map .t))], []⟩ ?_
  refine Wp.seq ?_
  refine Wp.srg [] [] ?_
  refine Runs.batch 1 kr ?_
  obtain ⟨r1, e_r1, h⟩ := bind_some h
  refine Runs.callK false 10 77 [] [.agg ((Manifest.enc p0).map .t)] _ _ _ rfl rfl kr kr kr kr kr (impl_isZeroMan_ok u p0 r1 e_r1) kr ?_
  refine Runs.done ?_
  refine thenN ?_
  refine Wp.fg ⟨[(1, .obj 1 0), (2, .t (.bool false)), (10, .t (.bool r1))], [(1, ((Manifest.enc p0).map .t))], []⟩ ?_
  refine Wp.cond2 (b := r1) kr (fun hc => ?_) (fun hc => ?_)
  · have h := cond_t h hc
    refine Wp.srg [] [] ?_
    refine Runs.alln ?_
    refine Wp.fg ⟨[(1, .obj 1 0), (2, .t (.bool true))], [(1, ((Manifest.enc p0).map .t))], []⟩ ?_
    refine Wp.ret ?_
    refine thenR ?_
    obtain rfl := Option.some.inj h
    exact RetK [.t (.bool true)] _ [] kr kr (.refl _) .nil
  have h := cond_f h hc
  refine Wp.skip (thenN ?_)
  refine Wp.seq ?_
  refine Wp.seqJ (α := Bool × Manifest) (fun a => ⟨[(1, .obj 1 0), (2, .t (.bool false)), (33, .t (.bool a.1))], [(1, ((Manifest.enc a.2).map .t))], []⟩) (fun a => impl_ManOk_j1 u a.1 a.2 = some r) ?_ ?_
  · rintro ⟨x5, p0⟩ h
    change impl_ManOk_j1 u x5 p0 = some r at h
    unfold impl_ManOk_j1 at h
    refine Wp.cond2 (b := x5) kr (fun hc => ?_) (fun hc => ?_)
    · have h := cond_t h hc
      refine Wp.srg [] [] ?_
      refine Runs.alln ?_
      refine Wp.fg ⟨[(1, .obj 1 0), (2, .t (.bool false))], [(1, ((Manifest.enc p0).map .t))], []⟩ ?_
      refine Wp.ret ?_
      refine thenR ?_
      obtain rfl := Option.some.inj h
      exact RetK [.t (.bool false)] _ [] kr kr (.refl _) .nil
    have h := cond_f h hc
    refine Wp.skip (thenN ?_)
    refine Wp.seqJ (α := Unit) (fun a => ⟨[(2, .t (.bool false))], [], []⟩) (fun a => impl_ManOk_j2 u = some r) ?_ ?_
    · rintro ⟨⟩ h
      change impl_ManOk_j2 u = some r at h
      unfold impl_ManOk_j2 at h
      refine Wp.srg [] [] ?_
      refine Runs.alln ?_
      refine Wp.fg ⟨[(2, .t (.bool true))], [], []⟩ ?_
      refine Wp.ret ?_
      obtain rfl := Option.some.inj h
      exact RetK [.t (.bool true)] _ [] kr kr (.refl _) .nil
    · refine Wp.srg [] [] ?_
      refine Runs.batch 2 kr ?_
      refine Runs.lenT (y := .t (.sl 2 (p0.fSums.map Sum.enc))) (e := 69) Sum.enc p0.fSums 2 rfl rfl rfl kr kr kr kr kr ?_
      refine Runs.alln ?_
      refine Wp.fg ⟨[(1, .obj 1 0), (2, .t (.bool false)), (35, .t (.sl 2 (p0.fSums.map Sum.enc))), (36, .t (.int .i64 ((p0.fSums.length : Int)))), (37, .t (.int .i64 0))], [(1, ((Manifest.enc p0).map .t))], []⟩ ?_
      refine Wp.block ?_
      refine Wp.loopF (α := Manifest × Int) (fun a => ⟨[(1, .obj 1 0), (2, .t (.bool false)), (35, .t (.sl 2 (a.1.fSums.map Sum.enc))), (36, .t (.int .i64 ((a.1.fSums.length : Int)))), (37, .t (.int .i64 a.2))], [(1, ((Manifest.enc a.1).map .t))], []⟩) (fun k_impl_ManOk_l3 a => impl_ManOk_l3 u k_impl_ManOk_l3 a.1 a.2 = some r) ?_ ?_ u (p0, 0) h (Le.of (mo := []) (mr := []) kr kr kr kr)
      · intro a h; unfold impl_ManOk_l3 at h; cases h
      · rintro k_impl_ManOk_l3 ⟨p0, x7⟩ h
        change impl_ManOk_l3 u (k_impl_ManOk_l3 + 1) p0 x7 = some r at h
        rw [impl_ManOk_l3] at h
        refine Wp.srg [] [] ?_
        refine Runs.alln ?_
        refine Wp.fg ⟨[(1, .obj 1 0), (2, .t (.bool false)), (35, .t (.sl 2 (p0.fSums.map Sum.enc))), (36, .t (.int .i64 ((p0.fSums.length : Int)))), (37, .t (.int .i64 x7)), (38, .t (.bool (decide (x7 < ((p0.fSums.length : Int))))))], [(1, ((Manifest.enc p0).map .t))], []⟩ ?_
        refine Wp.seq ?_
        refine Wp.cond2 (b := decide (x7 < ((p0.fSums.length : Int)))) kr (fun hc => ?_) (fun hc => ?_)
        · have h := cond_t h hc
          refine Wp.skip (thenN ?_)
          refine Wp.seq ?_
          refine Wp.block ?_
          refine Wp.srg [] [] ?_
          refine Runs.batch 1 kr ?_
          obtain ⟨y9, e_y9, h⟩ := bind_some h
          refine Runs.idxT (e := 69) (kk := .i64) (sz := 2) Sum.enc p0.fSums x7 rfl kr kr kr kr kr kr e_y9 ?_
          refine Runs.alln ?_
          refine Wp.fg ⟨[(1, .obj 1 0), (2, .t (.bool false)), (3, .t (.int .i64 x7)), (4, .obj 4 0), (35, .t (.sl 2 (p0.fSums.map Sum.enc))), (36, .t (.int .i64 ((p0.fSums.length : Int)))), (37, .t (.int .i64 x7))], [(1, ((Manifest.enc p0).map .t)), (4, [.t (.int .i64 y9.fW), .t (.int .i64 y9.fS)])], []⟩ ?_
          refine Wp.srg [] [] ?_
          refine Runs.batch 2 kr ?_
          obtain ⟨r10, e_r10, h⟩ := bind_some h
          refine Runs.callK false 45 78 [] [.t (.int .i64 y9.fS)] _ _ _ rfl rfl kr kr kr kr kr (impl_BytesOf_ok u y9.fS r10 e_r10) kr ?_
          refine Runs.alln ?_
          refine Wp.fg ⟨[(1, .obj 1 0), (2, .t (.bool false)), (3, .t (.int .i64 x7)), (4, .obj 4 0), (5, .own 2949120), (6, .t (.bool r10.2)), (35, .t (.sl 2 (p0.fSums.map Sum.enc))), (36, .t (.int .i64 ((p0.fSums.length : Int)))), (37, .t (.int .i64 x7))], [(1, ((Manifest.enc p0).map .t)), (4, [.t (.int .i64 y9.fW), .t (.int .i64 y9.fS)])], [(2949120, .live 5 1 (r10.1.map (eInt .u8)))]⟩ ?_
          refine Wp.srg [] [] ?_
          refine Runs.batch 5 kr ?_
          obtain ⟨r11, e_r11, h⟩ := bind_some h
          refine Runs.callK false 54 48 [] [.t (.int .i64 p0.fSize), .t (.int .i64 p0.fLen), .t (.int .i64 x7)] _ _ _ rfl rfl kr kr kr kr kr (impl_SpanOf_ok u p0.fSize p0.fLen x7 r11 e_r11) kr ?_
          refine Runs.alln ?_
          refine Wp.fg ⟨[(1, .obj 1 0), (2, .t (.bool false)), (4, .obj 4 0), (5, .own 2949120), (6, .t (.bool r10.2)), (8, .t (.int .i64 r11.2)), (35, .t (.sl 2 (p0.fSums.map Sum.enc))), (36, .t (.int .i64 ((p0.fSums.length : Int)))), (37, .t (.int .i64 x7))], [(1, ((Manifest.enc p0).map .t)), (4, [.t (.int .i64 y9.fW), .t (.int .i64 y9.fS)])], [(2949120, .live 5 1 (r10.1.map (eInt .u8)))]⟩ ?_
          refine Wp.seqJ (α := Manifest × Int × Bool) (fun a => ⟨[(1, .obj 1 0), (2, .t (.bool false)), (35, .t (.sl 2 (a.1.fSums.map Sum.enc))), (36, .t (.int .i64 ((a.1.fSums.length : Int)))), (37, .t (.int .i64 a.2.1)), (71, .t (.bool a.2.2))], [(1, ((Manifest.enc a.1).map .t))], []⟩) (fun a => impl_ManOk_j4 u (fun z0 z1 => impl_ManOk_l3 u k_impl_ManOk_l3 z0 z1) a.1 a.2.1 a.2.2 = some r) ?_ ?_
          · rintro ⟨p0, x7, x13⟩ h
            change impl_ManOk_j4 u (fun z0 z1 => impl_ManOk_l3 u k_impl_ManOk_l3 z0 z1) p0 x7 x13 = some r at h
            unfold impl_ManOk_j4 at h
            refine Wp.cond2 (b := x13) kr (fun hc => ?_) (fun hc => ?_)
            · have h := cond_t h hc
              refine Wp.srg [] [] ?_
              refine Runs.alln ?_
              refine Wp.fg ⟨[(1, .obj 1 0), (2, .t (.bool false)), (35, .t (.sl 2 (p0.fSums.map Sum.enc))), (36, .t (.int .i64 ((p0.fSums.length : Int)))), (37, .t (.int .i64 x7))], [(1, ((Manifest.enc p0).map .t))], []⟩ ?_
              refine Wp.ret ?_
              refine blkR ?_
              refine thenR ?_
              refine thenR ?_
              refine blkR ?_
              refine thenR ?_
              obtain rfl := Option.some.inj h
              exact RetK [.t (.bool false)] _ [] kr kr (.refl _) .nil
            have h := cond_f h hc
            refine Wp.skip ?_
            refine blkN ?_
            refine thenN ?_
            refine Wp.rg [] [] ?_
            refine Runs.alln ?_
            exact ⟨(p0, bAdd .i64 x7 1), h, Le.of (mo := []) (mr := []) kr kr kr kr⟩
          · refine Wp.regionA (pOf []) (rhoOf [(4, .obj 4), (5, .own 45), (6, .frz), (8, .frz), (57, .frz), (58, .frz), (59, .frz), (60, .own 45), (61, .frz), (62, .frz), (64, .frz), (65, .frz), (66, .own 45), (67, .frz), (68, .obj 4), (69, .frz)]) kr kr ?_
            refine Runs.batch 3 kr ?_
            rcases tf (!r10.2) with hc | hc
            · have h := cond_t h hc
              refine Runs.known 59 (v := true) kr hc ?_
              refine Runs.alln ?_
              exact ⟨(p0, x7, true), h, Le.of (mo := []) (mr := []) kr kr kr kr⟩
            have h := cond_f h hc
            refine Runs.known 59 (v := false) kr hc ?_
            refine Runs.batch 1 kr ?_
            refine Runs.lenT (y := .own 2949120) (e := 5) (eInt .u8) r10.1 1 rfl rfl rfl kr kr kr kr kr ?_
            refine Runs.batch 4 kr ?_
            rcases tf (((r10.1.length : Int)) != r11.2) with hc | hc
            · have h := cond_t h hc
              refine Runs.known 65 (v := true) kr hc ?_
              refine Runs.alln ?_
              exact ⟨(p0, x7, true), h, Le.of (mo := []) (mr := []) kr kr kr kr⟩
            have h := cond_f h hc
            refine Runs.known 65 (v := false) kr hc ?_
            refine Runs.batch 1 kr ?_
            obtain ⟨r12, e_r12, h⟩ := bind_some h
            refine Runs.callBK 67 79 [] [.own 2949120] [.one (.t (.sl 1 (r10.1.map (eInt .u8))))] (.one (.t (.int .i64 r12))) rfl rfl kr kr kr kr kr (impl_WeakOf_ok u r10.1 r12 e_r12) (by simp [V.plain, V.plains, C.plain, T.sc]) kr ?_
            refine Runs.alln ?_
            exact ⟨(p0, x7, r12 != y9.fW), h, Le.of (mo := []) (mr := []) kr kr kr kr⟩
        have h := cond_f h hc
        refine Wp.exit ?_
        refine thenE ?_
        refine thenE ?_
        refine blkE ?_
        refine thenN ?_
        exact ⟨(), h, Le.of (mo := []) (mr := []) kr kr kr kr⟩
  · refine Wp.regionA (pOf []) (rhoOf [(1, .obj 1), (11, .obj 1), (12, .frz), (13, .frz), (14, .frz), (15, .frz), (16, .obj 1), (17, .frz), (18, .obj 1), (19, .frz), (20, .frz), (22, .frz), (23, .frz), (24, .obj 1), (25, .frz), (26, .frz), (27, .obj 1), (28, .frz), (29, .obj 1), (30, .frz), (31, .frz)]) kr kr ?_
    refine Runs.batch 2 kr ?_
    obtain ⟨r2, e_r2, h⟩ := bind_some h
    refine Runs.callK false 13 34 [] [.t (.int .i64 p0.fGen), .t (.int .i64 1), .t (.int .i64 1000000)] _ _ _ rfl rfl kr kr kr kr kr (impl_within_ok u p0.fGen 1 1000000 r2 e_r2) kr ?_
    refine Runs.batch 2 kr ?_
    rcases tf (!r2) with hc | hc
    · have h := cond_t h hc
      refine Runs.known 15 (v := true) kr hc ?_
      refine Runs.alln ?_
      exact ⟨(true, p0), h, Le.of (mo := []) (mr := []) kr kr kr kr⟩
    have h := cond_f h hc
    refine Runs.known 15 (v := false) kr hc ?_
    refine Runs.batch 4 kr ?_
    obtain ⟨r3, e_r3, h⟩ := bind_some h
    refine Runs.callK false 20 22 [] [.t (.int .i64 p0.fSize), .t (.int .i64 p0.fLen)] _ _ _ rfl rfl kr kr kr kr kr (impl_SizeOk_ok u p0.fSize p0.fLen r3 e_r3) kr ?_
    refine Runs.batch 3 kr ?_
    rcases tf (!r3) with hc | hc
    · have h := cond_t h hc
      refine Runs.known 23 (v := true) kr hc ?_
      refine Runs.alln ?_
      exact ⟨(true, p0), h, Le.of (mo := []) (mr := []) kr kr kr kr⟩
    have h := cond_f h hc
    refine Runs.known 23 (v := false) kr hc ?_
    refine Runs.batch 2 kr ?_
    refine Runs.lenT (y := .t (.sl 2 (p0.fSums.map Sum.enc))) (e := 69) Sum.enc p0.fSums 2 rfl rfl rfl kr kr kr kr kr ?_
    refine Runs.batch 4 kr ?_
    obtain ⟨r4, e_r4, h⟩ := bind_some h
    refine Runs.callK false 31 64 [] [.t (.int .i64 p0.fSize), .t (.int .i64 p0.fLen)] _ _ _ rfl rfl kr kr kr kr kr (impl_Blocks_ok u p0.fSize p0.fLen r4 e_r4) kr ?_
    refine Runs.alln ?_
    exact ⟨(((p0.fSums.length : Int)) != r4, p0), h, Le.of (mo := []) (mr := []) kr kr kr kr⟩
theorem impl_appendVar_ok (u : Nat) (p0 : List Int) (p1 : Int) (r : (List Int)) (h : impl_appendVar u p0 p1 = some r) : CallOK Tryz.prog 57 [.one (.ow 5 1 (p0.map (eInt .u8))), .one (.t (.int .i64 p1))] (.one (.ow 5 1 (r.map (eInt .u8)))) [] := by
  unfold impl_appendVar at h
  refine CallOK.of_bodyK (fn := Tryz.f57) (m := true) [.own 58982400, .t (.int .i64 p1)] kr rfl kr kr kr kr kr ?_
  refine Wp.srg [] [] ?_
  refine Runs.alln ?_
  refine Wp.fg ⟨[(0, .own 58982400), (1, .t (.int .i64 p1)), (4, .nil)], [], [(58982400, .live 5 1 (p0.map (eInt .u8)))]⟩ ?_
  refine Wp.seqJ (α := (List Int) × Int) (fun a => ⟨[(0, .own 1), (1, .t (.int .i64 a.2)), (4, .nil)], [], [(1, .live 5 1 (a.1.map (eInt .u8)))]⟩) (fun a => impl_appendVar_j1 u a.1 a.2 = some r) ?_ ?_
  · rintro ⟨x7, x8⟩ h
    change impl_appendVar_j1 u x7 x8 = some r at h
    unfold impl_appendVar_j1 at h
    refine Wp.srg [] [] ?_
    refine Runs.batch 4 kr ?_
    obtain ⟨_, e_9, h⟩ := bind_some h
    refine Runs.appT (y := .own 1179648) (eInt .u8) 19 1 5 1 1 1 x7 ([IntKind.wrap .u8 x8]) rfl rfl rfl rfl kr kr kr kr kr kr (.inl rfl) kr (of_decide_eq_true (chk_some e_9)) kr kr ?_
    refine Runs.alln ?_
    refine Wp.fg ⟨[(4, .own 1245184)], [], [(1245184, .live 5 1 ((x7 ++ ([IntKind.wrap .u8 x8])).map (eInt .u8)))]⟩ ?_
    refine Wp.ret ?_
    obtain rfl := Option.some.inj h
    exact RetK [.own 1245184] _ [] kr kr (.refl _) .nil
  · refine Wp.block ?_
    refine Wp.loopF (α := (List Int) × Int) (fun a => ⟨[(0, .own 1), (1, .t (.int .i64 a.2)), (4, .nil)], [], [(1, .live 5 1 (a.1.map (eInt .u8)))]⟩) (fun k_impl_appendVar_l2 a => impl_appendVar_l2 u k_impl_appendVar_l2 a.1 a.2 = some r) ?_ ?_ u (p0, p1) h (Le.of (mo := []) (mr := [(1, 58982400)]) kr kr kr kr)
    · intro a h; unfold impl_appendVar_l2 at h; cases h
    · rintro k_impl_appendVar_l2 ⟨x3, x4⟩ h
      change impl_appendVar_l2 u (k_impl_appendVar_l2 + 1) x3 x4 = some r at h
      rw [impl_appendVar_l2] at h
      refine Wp.seq ?_
      refine Wp.srg [] [] ?_
      refine Runs.alln ?_
      refine Wp.fg ⟨[(0, .own 1), (1, .t (.int .i64 x4)), (4, .nil), (6, .t (.bool (decide (x4 ≥ 128))))], [], [(1, .live 5 1 (x3.map (eInt .u8)))]⟩ ?_
      refine Wp.cond2 (b := decide (x4 ≥ 128)) kr (fun hc => ?_) (fun hc => ?_)
      · have h := cond_t h hc
        refine Wp.skip (thenN ?_)
        refine Wp.block ?_
        refine Wp.srg [] [] ?_
        refine Runs.batch 5 kr ?_
        obtain ⟨_, e_7, h⟩ := bind_some h
        refine Runs.appT (y := .own 720896) (eInt .u8) 12 1 5 1 1 1 x3 ([bOr .u8 (IntKind.wrap .u8 x4) 128]) rfl rfl rfl rfl kr kr kr kr kr kr (.inl rfl) kr (of_decide_eq_true (chk_some e_7)) kr kr ?_
        refine Runs.alln ?_
        refine Wp.fg ⟨[(0, .own 786432), (1, .t (.int .i64 x4)), (4, .nil)], [], [(786432, .live 5 1 ((x3 ++ ([bOr .u8 (IntKind.wrap .u8 x4) 128])).map (eInt .u8)))]⟩ ?_
        refine Wp.rg [] [] ?_
        refine Runs.all kr ?_
        refine blkN ?_
        refine thenN ?_
        exact ⟨(x3 ++ ([bOr .u8 (IntKind.wrap .u8 x4) 128]), bShr .i64 x4 7), h, Le.of (mo := []) (mr := [(1, 786432)]) kr kr kr kr⟩
      have h := cond_f h hc
      refine Wp.exit ?_
      refine thenE ?_
      refine thenE ?_
      refine blkE ?_
      refine thenN ?_
      exact ⟨(x3, x4), h, Le.of (mo := []) (mr := []) kr kr kr kr⟩
theorem impl_PutVar_ok (u : Nat) (p0 : List Int) (p1 : Int) (r : (List Int)) (h : impl_PutVar u p0 p1 = some r) : CallOK Tryz.prog 56 [.one (.t (.sl 1 (p0.map (eInt .u8)))), .one (.t (.int .i64 p1))] (.one (.ow 5 1 (r.map (eInt .u8)))) [] := by
  unfold impl_PutVar at h
  refine CallOK.of_bodyK (fn := Tryz.f56) (m := true) [.t (.sl 1 (p0.map (eInt .u8))), .t (.int .i64 p1)] kr rfl kr kr kr kr kr ?_
  refine Wp.srg [] [] ?_
  refine Runs.alln ?_
  refine Wp.fg ⟨[(0, .t (.sl 1 (p0.map (eInt .u8)))), (1, .t (.int .i64 p1)), (4, .nil)], [], []⟩ ?_
  refine Wp.srg [] [] ?_
  refine Runs.batch 1 kr ?_
  obtain ⟨r1, e_r1, h⟩ := bind_some h
  refine Runs.callK false 7 55 [] [.t (.sl 1 (p0.map (eInt .u8)))] _ _ _ rfl rfl kr kr kr kr kr (impl_cloned_ok u p0 r1 e_r1) kr ?_
  refine Runs.alln ?_
  refine Wp.fg ⟨[(1, .t (.int .i64 p1)), (4, .nil), (5, .own 458752)], [], [(458752, .live 5 1 (r1.map (eInt .u8)))]⟩ ?_
  refine Wp.seq ?_
  refine Wp.srg [] [] ?_
  refine Runs.batch 1 kr ?_
  obtain ⟨r2, e_r2, h⟩ := bind_some h
  refine Runs.callK false 9 34 [] [.t (.int .i64 p1), .t (.int .i64 0), .t (.int .i64 1000000000000)] _ _ _ rfl rfl kr kr kr kr kr (impl_within_ok u p1 0 1000000000000 r2 e_r2) kr ?_
  refine Runs.alln ?_
  refine Wp.fg ⟨[(1, .t (.int .i64 p1)), (4, .nil), (5, .own 458752), (10, .t (.bool (!r2)))], [], [(458752, .live 5 1 (r1.map (eInt .u8)))]⟩ ?_
  refine Wp.cond2 (b := !r2) kr (fun hc => ?_) (fun hc => ?_)
  · have h := cond_t h hc
    refine Wp.srg [] [] ?_
    refine Runs.alln ?_
    refine Wp.fg ⟨[(1, .t (.int .i64 p1)), (4, .own 458752), (5, .own 458752)], [], [(458752, .live 5 1 (r1.map (eInt .u8)))]⟩ ?_
    refine Wp.ret ?_
    refine thenR ?_
    obtain rfl := Option.some.inj h
    exact RetK [.own 458752] _ [] kr kr (.refl _) .nil
  have h := cond_f h hc
  refine Wp.skip (thenN ?_)
  refine Wp.srg [] [] ?_
  refine Runs.batch 2 kr ?_
  obtain ⟨r3, e_r3, h⟩ := bind_some h
  refine Runs.callK true 14 57 [] [.own 458752, .t (.int .i64 p1)] _ _ _ rfl rfl kr kr kr kr kr (impl_appendVar_ok u r1 p1 r3 e_r3) kr ?_
  refine Runs.alln ?_
  refine Wp.fg ⟨[(4, .own 917504)], [], [(917504, .live 5 1 (r3.map (eInt .u8)))]⟩ ?_
  refine Wp.ret ?_
  obtain rfl := Option.some.inj h
  exact RetK [.own 917504] _ [] kr kr (.refl _) .nil
theorem impl_cloned_okd (u : Nat) (p0 : List Int) (r : (List Int)) (h : impl_cloned u p0 = some r) : DOK Tryz.prog 55 [.one (.t (.sl 1 (p0.map (eInt .u8))))] (.one (.ow 5 1 (r.map (eInt .u8)))) := by
  unfold impl_cloned at h
  refine DOK.of_bodyK (fn := Tryz.f55) (m := true) kr rfl kr kr kr ?_
  refine Wp.srg [] [] ?_
  refine Runs.alln ?_
  refine Wp.fg ⟨[(0, .ext false (.sl 1 (p0.map (eInt .u8)))), (2, .nil)], [], []⟩ ?_
  refine Wp.srg [] [] ?_
  refine Runs.batch 1 kr ?_
  refine Runs.lenX (e := 5) (eInt .u8) p0 false 1 rfl rfl rfl kr kr kr kr ?_
  obtain ⟨_, e_1, h⟩ := bind_some h
  obtain ⟨_, e_2, h⟩ := bind_some h
  refine Runs.mkS (eInt .u8) (0 : Int) 5 5 1 1 0 ((p0.length : Int)) rfl rfl kr kr kr kr kr kr (chk_some e_1) (of_decide_eq_true (chk_some e_2)) kr ?_
  refine Runs.batch 1 kr ?_
  obtain ⟨_, e_3, h⟩ := bind_some h
  refine Runs.appT (y := .ext false (.sl 1 (p0.map (eInt .u8)))) (eInt .u8) 7 1 5 1 1 327680 (List.replicate (Int.toNat 0) (0 : Int)) p0 rfl rfl rfl rfl kr kr kr kr kr (rows_extI _ _ _) (.inl rfl) kr (of_decide_eq_true (chk_some e_3)) kr kr ?_
  refine Runs.alln ?_
  refine Wp.fg ⟨[(2, .own 458752)], [], [(458752, .live 5 1 (((List.replicate (Int.toNat 0) (0 : Int)) ++ p0).map (eInt .u8)))]⟩ ?_
  refine Wp.ret ?_
  obtain rfl := Option.some.inj h
  exact RetK [.own 458752] _ [] kr kr (.refl _) .nil
theorem impl_PutVar_okd (u : Nat) (p0 : List Int) (p1 : Int) (r : (List Int)) (h : impl_PutVar u p0 p1 = some r) : DOK Tryz.prog 56 [.one (.t (.sl 1 (p0.map (eInt .u8)))), .one (.t (.int .i64 p1))] (.one (.ow 5 1 (r.map (eInt .u8)))) := by
  unfold impl_PutVar at h
  refine DOK.of_bodyK (fn := Tryz.f56) (m := true) kr rfl kr kr kr ?_
  refine Wp.srg [] [] ?_
  refine Runs.alln ?_
  refine Wp.fg ⟨[(0, .ext false (.sl 1 (p0.map (eInt .u8)))), (1, .t (.int .i64 p1)), (4, .nil)], [], []⟩ ?_
  refine Wp.srg [] [] ?_
  refine Runs.batch 1 kr ?_
  obtain ⟨r1, e_r1, h⟩ := bind_some h
  refine Runs.callDK 7 55 [] [.ext false (.sl 1 (p0.map (eInt .u8)))] [.one (.t (.sl 1 (p0.map (eInt .u8))))] (.one (.ow 5 1 (r1.map (eInt .u8)))) rfl rfl kr kr kr kr kr (impl_cloned_okd u p0 r1 e_r1) kr ?_
  refine Runs.alln ?_
  refine Wp.fg ⟨[(1, .t (.int .i64 p1)), (4, .nil), (5, .own 458752)], [], [(458752, .live 5 1 (r1.map (eInt .u8)))]⟩ ?_
  refine Wp.seq ?_
  refine Wp.srg [] [] ?_
  refine Runs.batch 1 kr ?_
  obtain ⟨r2, e_r2, h⟩ := bind_some h
  refine Runs.callK false 9 34 [] [.t (.int .i64 p1), .t (.int .i64 0), .t (.int .i64 1000000000000)] _ _ _ rfl rfl kr kr kr kr kr (impl_within_ok u p1 0 1000000000000 r2 e_r2) kr ?_
  refine Runs.alln ?_
  refine Wp.fg ⟨[(1, .t (.int .i64 p1)), (4, .nil), (5, .own 458752), (10, .t (.bool (!r2)))], [], [(458752, .live 5 1 (r1.map (eInt .u8)))]⟩ ?_
  refine Wp.cond2 (b := !r2) kr (fun hc => ?_) (fun hc => ?_)
  · have h := cond_t h hc
    refine Wp.srg [] [] ?_
    refine Runs.alln ?_
    refine Wp.fg ⟨[(1, .t (.int .i64 p1)), (4, .own 458752), (5, .own 458752)], [], [(458752, .live 5 1 (r1.map (eInt .u8)))]⟩ ?_
    refine Wp.ret ?_
    refine thenR ?_
    obtain rfl := Option.some.inj h
    exact RetK [.own 458752] _ [] kr kr (.refl _) .nil
  have h := cond_f h hc
  refine Wp.skip (thenN ?_)
  refine Wp.srg [] [] ?_
  refine Runs.batch 2 kr ?_
  obtain ⟨r3, e_r3, h⟩ := bind_some h
  refine Runs.callK true 14 57 [] [.own 458752, .t (.int .i64 p1)] _ _ _ rfl rfl kr kr kr kr kr (impl_appendVar_ok u r1 p1 r3 e_r3) kr ?_
  refine Runs.alln ?_
  refine Wp.fg ⟨[(4, .own 917504)], [], [(917504, .live 5 1 (r3.map (eInt .u8)))]⟩ ?_
  refine Wp.ret ?_
  obtain rfl := Option.some.inj h
  exact RetK [.own 917504] _ [] kr kr (.refl _) .nil
theorem impl_PutMan_ok (u : Nat) (p0 : List Int) (p1 : Manifest) (r : (List Int)) (h : impl_PutMan u p0 p1 = some r) : CallOK Tryz.prog 35 [.one (.t (.sl 1 (p0.map (eInt .u8)))), .agg [.t (.int .i64 p1.fGen), .t (.int .i64 p1.fSize), .t (.int .i64 p1.fLen), .t (.sl 2 (p1.fSums.map Sum.enc))]] (.one (.ow 5 1 (r.map (eInt .u8)))) [] := by
  unfold impl_PutMan at h
  refine CallOK.of_bodyK (fn := Tryz.f35) (m := true) [.t (.sl 1 (p0.map (eInt .u8))), .agg ((Manifest.enc p1).map .t)] kr rfl kr kr kr kr kr ?_
  refine Wp.srg [] [] ?_
  refine Runs.alln ?_
  refine Wp.fg ⟨[(0, .t (.sl 1 (p0.map (eInt .u8)))), (3, .obj 3 0), (4, .nil)], [(3, ((Manifest.enc p1).map .t))], []⟩ ?_
  refine Wp.seq ?_
  refine Wp.srg [] [] ?_
  refine Runs.batch 1 kr ?_
  obtain ⟨r1, e_r1, h⟩ := bind_some h
  refine Runs.callK false 9 54 [] [.agg ((Manifest.enc p1).map .t)] _ _ _ rfl rfl kr kr kr kr kr (impl_ManOk_ok u p1 r1 e_r1) kr ?_
  refine Runs.alln ?_
  refine Wp.fg ⟨[(0, .t (.sl 1 (p0.map (eInt .u8)))), (3, .obj 3 0), (4, .nil), (10, .t (.bool (!r1)))], [(3, ((Manifest.enc p1).map .t))], []⟩ ?_
  refine Wp.cond2 (b := !r1) kr (fun hc => ?_) (fun hc => ?_)
  · have h := cond_t h hc
    refine Wp.srg [] [] ?_
    refine Runs.batch 1 kr ?_
    obtain ⟨r2, e_r2, h⟩ := bind_some h
    refine Runs.callK false 12 55 [] [.t (.sl 1 (p0.map (eInt .u8)))] _ _ _ rfl rfl kr kr kr kr kr (impl_cloned_ok u p0 r2 e_r2) kr ?_
    refine Runs.alln ?_
    refine Wp.fg ⟨[(0, .t (.sl 1 (p0.map (eInt .u8)))), (3, .obj 3 0), (4, .own 786432)], [(3, ((Manifest.enc p1).map .t))], [(786432, .live 5 1 (r2.map (eInt .u8)))]⟩ ?_
    refine Wp.ret ?_
    refine thenR ?_
    obtain rfl := Option.some.inj h
    exact RetK [.own 786432] _ [] kr kr (.refl _) .nil
  have h := cond_f h hc
  refine Wp.skip (thenN ?_)
  refine Wp.seq ?_
  refine Wp.regionA (pOf []) (rhoOf [(0, .frz), (3, .obj 3), (13, .frz), (14, .obj 3), (15, .frz), (16, .own 16), (17, .obj 3), (18, .frz), (19, .own 19), (20, .obj 3), (21, .frz), (22, .own 22)]) kr kr ?_
  refine Runs.batch 3 kr ?_
  obtain ⟨r3, e_r3, h⟩ := bind_some h
  refine Runs.callK false 16 56 [] [.t (.sl 1 (p0.map (eInt .u8))), .t (.int .i64 p1.fGen)] _ _ _ rfl rfl kr kr kr kr kr (impl_PutVar_ok u p0 p1.fGen r3 e_r3) kr ?_
  refine Runs.batch 2 kr ?_
  obtain ⟨r4, e_r4, h⟩ := bind_some h
  refine Runs.callDK 19 56 [] [.own 1048576, .t (.int .i64 p1.fSize)] [.one (.t (.sl 1 (r3.map (eInt .u8)))), .one (.t (.int .i64 p1.fSize))] (.one (.ow 5 1 (r4.map (eInt .u8)))) rfl rfl kr kr kr kr kr (impl_PutVar_okd u r3 p1.fSize r4 e_r4) kr ?_
  refine Runs.batch 2 kr ?_
  obtain ⟨r5, e_r5, h⟩ := bind_some h
  refine Runs.callDK 22 56 [] [.own 1245184, .t (.int .i64 p1.fLen)] [.one (.t (.sl 1 (r4.map (eInt .u8)))), .one (.t (.int .i64 p1.fLen))] (.one (.ow 5 1 (r5.map (eInt .u8)))) rfl rfl kr kr kr kr kr (impl_PutVar_okd u r4 p1.fLen r5 e_r5) kr ?_
  refine Runs.alln ?_
  refine Wp.fg ⟨[(3, .obj 3 0), (4, .nil), (5, .own 1441792)], [(3, ((Manifest.enc p1).map .t))], [(1441792, .live 5 1 (r5.map (eInt .u8)))]⟩ ?_
  refine Wp.seqJ (α := (List Int)) (fun a => ⟨[(4, .nil), (5, .own 327681)], [], [(327681, .live 5 1 (a.map (eInt .u8)))]⟩) (fun a => impl_PutMan_j1 u a = some r) ?_ ?_
  · rintro x14 h
    change impl_PutMan_j1 u x14 = some r at h
    unfold impl_PutMan_j1 at h
    refine Wp.srg [] [] ?_
    refine Runs.alln ?_
    refine Wp.fg ⟨[(4, .own 327681)], [], [(327681, .live 5 1 (x14.map (eInt .u8)))]⟩ ?_
    refine Wp.ret ?_
    obtain rfl := Option.some.inj h
    exact RetK [.own 327681] _ [] kr kr (.refl _) .nil
  · refine Wp.srg [] [] ?_
    refine Runs.batch 2 kr ?_
    refine Runs.lenT (y := .t (.sl 2 (p1.fSums.map Sum.enc))) (e := 69) Sum.enc p1.fSums 2 rfl rfl rfl kr kr kr kr kr ?_
    refine Runs.alln ?_
    refine Wp.fg ⟨[(4, .nil), (5, .own 1441792), (24, .t (.sl 2 (p1.fSums.map Sum.enc))), (25, .t (.int .i64 ((p1.fSums.length : Int)))), (26, .t (.int .i64 0))], [], [(1441792, .live 5 1 (r5.map (eInt .u8)))]⟩ ?_
    refine Wp.block ?_
    refine Wp.loopF (α := (List Int) × Manifest × Int) (fun a => ⟨[(4, .nil), (5, .own 327681), (24, .t (.sl 2 (a.2.1.fSums.map Sum.enc))), (25, .t (.int .i64 ((a.2.1.fSums.length : Int)))), (26, .t (.int .i64 a.2.2))], [], [(327681, .live 5 1 (a.1.map (eInt .u8)))]⟩) (fun k_impl_PutMan_l2 a => impl_PutMan_l2 u k_impl_PutMan_l2 a.1 a.2.1 a.2.2 = some r) ?_ ?_ u (r5, p1, 0) h (Le.of (mo := []) (mr := [(327681, 1441792)]) kr kr kr kr)
    · intro a h; unfold impl_PutMan_l2 at h; cases h
    · rintro k_impl_PutMan_l2 ⟨x8, p1, x9⟩ h
      change impl_PutMan_l2 u (k_impl_PutMan_l2 + 1) x8 p1 x9 = some r at h
      rw [impl_PutMan_l2] at h
      refine Wp.srg [] [] ?_
      refine Runs.alln ?_
      refine Wp.fg ⟨[(4, .nil), (5, .own 327681), (24, .t (.sl 2 (p1.fSums.map Sum.enc))), (25, .t (.int .i64 ((p1.fSums.length : Int)))), (26, .t (.int .i64 x9)), (27, .t (.bool (decide (x9 < ((p1.fSums.length : Int))))))], [], [(327681, .live 5 1 (x8.map (eInt .u8)))]⟩ ?_
      refine Wp.seq ?_
      refine Wp.cond2 (b := decide (x9 < ((p1.fSums.length : Int)))) kr (fun hc => ?_) (fun hc => ?_)
      · have h := cond_t h hc
        refine Wp.skip (thenN ?_)
        refine Wp.seq ?_
        refine Wp.block ?_
        refine Wp.srg [] [] ?_
        obtain ⟨y12, e_y12, h⟩ := bind_some h
        refine Runs.idxT (e := 69) (kk := .i64) (sz := 2) Sum.enc p1.fSums x9 rfl kr kr kr kr kr kr e_y12 ?_
        refine Runs.alln ?_
        refine Wp.fg ⟨[(4, .nil), (5, .own 327681), (7, .obj 7 0), (24, .t (.sl 2 (p1.fSums.map Sum.enc))), (25, .t (.int .i64 ((p1.fSums.length : Int)))), (26, .t (.int .i64 x9))], [(7, [.t (.int .i64 y12.fW), .t (.int .i64 y12.fS)])], [(327681, .live 5 1 (x8.map (eInt .u8)))]⟩ ?_
        refine Wp.rg [] [] ?_
        refine Runs.batch 3 kr ?_
        obtain ⟨r13, e_r13, h⟩ := bind_some h
        refine Runs.callK true 33 57 [] [.own 327681, .t (.int .i64 y12.fS)] _ _ _ rfl rfl kr kr kr kr kr (impl_appendVar_ok u x8 y12.fS r13 e_r13) kr ?_
        refine Runs.all kr ?_
        refine blkN ?_
        refine thenN ?_
        refine Wp.rg [] [] ?_
        refine Runs.alln ?_
        exact ⟨(r13, p1, bAdd .i64 x9 1), h, Le.of (mo := []) (mr := [(327681, 2162688)]) kr kr kr kr⟩
      have h := cond_f h hc
      refine Wp.exit ?_
      refine thenE ?_
      refine thenE ?_
      refine blkE ?_
      refine thenN ?_
      exact ⟨x8, h, Le.of (mo := []) (mr := []) kr kr kr kr⟩
theorem impl_ManBytes_ok (u : Nat) (p0 : Manifest) (r : Int) (h : impl_ManBytes u p0 = some r) : CallOK Tryz.prog 18 [.agg [.t (.int .i64 p0.fGen), .t (.int .i64 p0.fSize), .t (.int .i64 p0.fLen), .t (.sl 2 (p0.fSums.map Sum.enc))]] (.one (.t (.int .i64 r))) [] := by
  unfold impl_ManBytes at h
  refine CallOK.of_bodyK (fn := Tryz.f18) (m := false) [.agg ((Manifest.enc p0).map .t)] kr rfl kr kr kr kr kr ?_
  refine Wp.srg [] [] ?_
  refine Runs.alln ?_
  refine Wp.fg ⟨[(1, .obj 1 0), (2, .t (.int .i64 0))], [(1, ((Manifest.enc p0).map .t))], []⟩ ?_
  refine Wp.srg [] [] ?_
  refine Runs.batch 1 kr ?_
  obtain ⟨r1, e_r1, h⟩ := bind_some h
  refine Runs.callK false 4 35 [] [.nil, .agg ((Manifest.enc p0).map .t)] [.one (.t (.sl 0 [])), .agg ((Manifest.enc p0).map .t)] (.one (.ow 5 1 (r1.map (eInt .u8)))) [] rfl rfl kr kr kr kr kr ((impl_PutMan_ok u ([]) p0 r1 e_r1).le (.cons (.one (.sz _ _)) (.cons (.refl _) .nil))) kr ?_
  refine Runs.lenT (y := .own 262144) (e := 5) (eInt .u8) r1 1 rfl rfl rfl kr kr kr kr kr ?_
  refine Runs.alln ?_
  refine Wp.fg ⟨[(2, .t (.int .i64 ((r1.length : Int))))], [], []⟩ ?_
  refine Wp.ret ?_
  obtain rfl := Option.some.inj h
  exact RetK [.t (.int .i64 ((r1.length : Int)))] _ [] kr kr (.refl _) .nil
theorem impl_FindSum_ok (u : Nat) (p0 : List Int) (p1 : Sum) (p2 : Int) (r : Int) (h : impl_FindSum u p0 p1 p2 = some r) : CallOK Tryz.prog 99 [.one (.t (.sl 1 (p0.map (eInt .u8)))), .agg [.t (.int .i64 p1.fW), .t (.int .i64 p1.fS)], .one (.t (.int .i64 p2))] (.one (.t (.int .i64 r))) [] := by
  unfold impl_FindSum at h
  refine CallOK.of_bodyK (fn := Tryz.f99) (m := false) [.t (.sl 1 (p0.map (eInt .u8))), .agg [.t (.int .i64 p1.fW), .t (.int .i64 p1.fS)], .t (.int .i64 p2)] kr rfl kr kr kr kr kr ?_
  refine Wp.srg [] [] ?_
  refine Runs.alln ?_
  refine Wp.fg ⟨[(0, .t (.sl 1 (p0.map (eInt .u8)))), (2, .t (.int .i64 p2)), (4, .obj 4 0), (6, .t (.int .i64 0))], [(4, [.t (.int .i64 p1.fW), .t (.int .i64 p1.fS)])], []⟩ ?_
  refine Wp.seq ?_
  refine Wp.srg [] [] ?_
  refine Runs.batch 1 kr ?_
  obtain ⟨r1, e_r1, h⟩ := bind_some h
  refine Runs.callK false 9 34 [] [.t (.int .i64 p2), .t (.int .i64 1), .t (.int .i64 6)] _ _ _ rfl rfl kr kr kr kr kr (impl_within_ok u p2 1 6 r1 e_r1) kr ?_
  refine Runs.alln ?_
  refine Wp.fg ⟨[(0, .t (.sl 1 (p0.map (eInt .u8)))), (2, .t (.int .i64 p2)), (4, .obj 4 0), (6, .t (.int .i64 0)), (10, .t (.bool (!r1)))], [(4, [.t (.int .i64 p1.fW), .t (.int .i64 p1.fS)])], []⟩ ?_
  refine Wp.cond2 (b := !r1) kr (fun hc => ?_) (fun hc => ?_)
  · have h := cond_t h hc
    refine Wp.srg [] [] ?_
    refine Runs.alln ?_
    refine Wp.fg ⟨[(0, .t (.sl 1 (p0.map (eInt .u8)))), (2, .t (.int .i64 p2)), (4, .obj 4 0), (6, .t (.int .i64 (-1)))], [(4, [.t (.int .i64 p1.fW), .t (.int .i64 p1.fS)])], []⟩ ?_
    refine Wp.ret ?_
    refine thenR ?_
    obtain rfl := Option.some.inj h
    exact RetK [.t (.int .i64 (-1))] _ [] kr kr (.refl _) .nil
  have h := cond_f h hc
  refine Wp.skip (thenN ?_)
  refine Wp.seqJ (α := Unit) (fun a => ⟨[(6, .t (.int .i64 0))], [], []⟩) (fun a => impl_FindSum_j1 u = some r) ?_ ?_
  · rintro ⟨⟩ h
    change impl_FindSum_j1 u = some r at h
    unfold impl_FindSum_j1 at h
    refine Wp.srg [] [] ?_
    refine Runs.alln ?_
    refine Wp.fg ⟨[(6, .t (.int .i64 (-1)))], [], []⟩ ?_
    refine Wp.ret ?_
    obtain rfl := Option.some.inj h
    exact RetK [.t (.int .i64 (-1))] _ [] kr kr (.refl _) .nil
  · refine Wp.srg [] [] ?_
    refine Runs.alln ?_
    refine Wp.fg ⟨[(0, .t (.sl 1 (p0.map (eInt .u8)))), (2, .t (.int .i64 p2)), (4, .obj 4 0), (6, .t (.int .i64 0)), (7, .t (.int .i64 0))], [(4, [.t (.int .i64 p1.fW), .t (.int .i64 p1.fS)])], []⟩ ?_
    refine Wp.block ?_
    refine Wp.loopF (α := (List Int) × Int × Int × Sum) (fun a => ⟨[(0, .t (.sl 1 (a.1.map (eInt .u8)))), (2, .t (.int .i64 a.2.1)), (4, .obj 4 0), (6, .t (.int .i64 0)), (7, .t (.int .i64 a.2.2.1))], [(4, [.t (.int .i64 a.2.2.2.fW), .t (.int .i64 a.2.2.2.fS)])], []⟩) (fun k_impl_FindSum_l2 a => impl_FindSum_l2 u k_impl_FindSum_l2 a.1 a.2.1 a.2.2.1 a.2.2.2 = some r) ?_ ?_ u (p0, p2, 0, p1) h (Le.of (mo := []) (mr := []) kr kr kr kr)
    · intro a h; unfold impl_FindSum_l2 at h; cases h
    · rintro k_impl_FindSum_l2 ⟨p0, p2, x3, p1⟩ h
      change impl_FindSum_l2 u (k_impl_FindSum_l2 + 1) p0 p2 x3 p1 = some r at h
      rw [impl_FindSum_l2] at h
      refine Wp.seq ?_
      refine Wp.srg [] [] ?_
      refine Runs.batch 4 kr ?_
      refine Runs.lenT (y := .t (.sl 1 (p0.map (eInt .u8)))) (e := 5) (eInt .u8) p0 1 rfl rfl rfl kr kr kr kr kr ?_
      refine Runs.alln ?_
      refine Wp.fg ⟨[(0, .t (.sl 1 (p0.map (eInt .u8)))), (2, .t (.int .i64 p2)), (4, .obj 4 0), (6, .t (.int .i64 0)), (7, .t (.int .i64 x3)), (16, .t (.bool (decide ((bAdd .i64 x3 p2) ≤ ((p0.length : Int))))))], [(4, [.t (.int .i64 p1.fW), .t (.int .i64 p1.fS)])], []⟩ ?_
      refine Wp.cond2 (b := decide ((bAdd .i64 x3 p2) ≤ ((p0.length : Int)))) kr (fun hc => ?_) (fun hc => ?_)
      · have h := cond_t h hc
        refine Wp.skip (thenN ?_)
        refine Wp.seq ?_
        refine Wp.block ?_
        refine Wp.seq ?_
        refine Wp.regionA (pOf []) (rhoOf [(0, .frz), (2, .frz), (4, .obj 4), (7, .frz), (19, .frz), (20, .frz), (21, .frz), (22, .frz), (23, .frz), (24, .frz), (25, .frz), (26, .frz)]) kr kr ?_
        refine Runs.batch 5 kr ?_
        obtain ⟨_, e_5, h⟩ := bind_some h
        refine Runs.subsl (e := 5) (ax := .t (.sl 1 (p0.map (eInt .u8)))) (alo := (some (.t (.int .i64 x3)))) (ahi := (some (.t (.int .i64 (bAdd .i64 x3 p2))))) (eInt .u8) p0 1 x3 (bAdd .i64 x3 p2) rfl kr kr kr kr kr kr kr kr kr kr kr (chk_some e_5) ?_
        obtain ⟨r6, e_r6, h⟩ := bind_some h
        refine Runs.callK false 25 66 [] [.t (.sl 1 (((p0.take (Int.toNat (bAdd .i64 x3 p2))).drop (Int.toNat x3)).map (eInt .u8)))] _ _ _ rfl rfl kr kr kr kr kr (impl_SumOf_ok u ((p0.take (Int.toNat (bAdd .i64 x3 p2))).drop (Int.toNat x3)) r6 e_r6) kr ?_
        refine Runs.alln ?_
        refine Wp.fg ⟨[(0, .t (.sl 1 (p0.map (eInt .u8)))), (2, .t (.int .i64 p2)), (4, .obj 4 0), (6, .t (.int .i64 0)), (7, .t (.int .i64 x3)), (27, .t (.bool ([r6.fW, r6.fS] == [p1.fW, p1.fS])))], [(4, [.t (.int .i64 p1.fW), .t (.int .i64 p1.fS)])], []⟩ ?_
        refine Wp.cond2 (b := [r6.fW, r6.fS] == [p1.fW, p1.fS]) kr (fun hc => ?_) (fun hc => ?_)
        · have h := cond_t h hc
          refine Wp.srg [] [] ?_
          refine Runs.alln ?_
          refine Wp.fg ⟨[(0, .t (.sl 1 (p0.map (eInt .u8)))), (2, .t (.int .i64 p2)), (4, .obj 4 0), (6, .t (.int .i64 x3)), (7, .t (.int .i64 x3))], [(4, [.t (.int .i64 p1.fW), .t (.int .i64 p1.fS)])], []⟩ ?_
          refine Wp.ret ?_
          refine blkR ?_
          refine thenR ?_
          refine thenR ?_
          refine blkR ?_
          refine thenR ?_
          obtain rfl := Option.some.inj h
          exact RetK [.t (.int .i64 x3)] _ [] kr kr (.refl _) .nil
        have h := cond_f h hc
        refine Wp.skip ?_
        refine blkN ?_
        refine thenN ?_
        refine Wp.rg [] [] ?_
        refine Runs.alln ?_
        exact ⟨(p0, p2, bAdd .i64 x3 1, p1), h, Le.of (mo := []) (mr := []) kr kr kr kr⟩
      have h := cond_f h hc
      refine Wp.exit ?_
      refine thenE ?_
      refine thenE ?_
      refine blkE ?_
      refine thenN ?_
      exact ⟨(), h, Le.of (mo := []) (mr := []) kr kr kr kr⟩
theorem impl_PlaceOf_ok (u : Nat) (p0 : List Int) (p1 : Manifest) (p2 : Int) (r : Int) (h : impl_PlaceOf u p0 p1 p2 = some r) : CallOK Tryz.prog 89 [.one (.t (.sl 1 (p0.map (eInt .u8)))), .agg [.t (.int .i64 p1.fGen), .t (.int .i64 p1.fSize), .t (.int .i64 p1.fLen), .t (.sl 2 (p1.fSums.map Sum.enc))], .one (.t (.int .i64 p2))] (.one (.t (.int .i64 r))) [] := by
  unfold impl_PlaceOf at h
  refine CallOK.of_bodyK (fn := Tryz.f89) (m := false) [.t (.sl 1 (p0.map (eInt .u8))), .agg ((Manifest.enc p1).map .t), .t (.int .i64 p2)] kr rfl kr kr kr kr kr ?_
  refine Wp.srg [] [] ?_
  refine Runs.alln ?_
  refine Wp.fg ⟨[(0, .t (.sl 1 (p0.map (eInt .u8)))), (2, .t (.int .i64 p2)), (4, .obj 4 0), (6, .t (.int .i64 0))], [(4, ((Manifest.enc p1).map .t))], []⟩ ?_
  refine Wp.srg [] [] ?_
  refine Runs.batch 5 kr ?_
  obtain ⟨r1, e_r1, h⟩ := bind_some h
  refine Runs.callK false 15 48 [] [.t (.int .i64 p1.fSize), .t (.int .i64 p1.fLen), .t (.int .i64 p2)] _ _ _ rfl rfl kr kr kr kr kr (impl_SpanOf_ok u p1.fSize p1.fLen p2 r1 e_r1) kr ?_
  refine Runs.alln ?_
  refine Wp.fg ⟨[(0, .t (.sl 1 (p0.map (eInt .u8)))), (2, .t (.int .i64 p2)), (4, .obj 4 0), (6, .t (.int .i64 0)), (8, .t (.int .i64 r1.2))], [(4, ((Manifest.enc p1).map .t))], []⟩ ?_
  refine Wp.seq ?_
  refine Wp.srg [] [] ?_
  refine Runs.batch 3 kr ?_
  refine Runs.lenT (y := .t (.sl 2 (p1.fSums.map Sum.enc))) (e := 69) Sum.enc p1.fSums 2 rfl rfl rfl kr kr kr kr kr ?_
  refine Runs.batch 1 kr ?_
  obtain ⟨r2, e_r2, h⟩ := bind_some h
  refine Runs.callK false 23 34 [] [.t (.int .i64 p2), .t (.int .i64 0), .t (.int .i64 (bSub .i64 ((p1.fSums.length : Int)) 1))] _ _ _ rfl rfl kr kr kr kr kr (impl_within_ok u p2 0 (bSub .i64 ((p1.fSums.length : Int)) 1) r2 e_r2) kr ?_
  refine Runs.alln ?_
  refine Wp.fg ⟨[(0, .t (.sl 1 (p0.map (eInt .u8)))), (2, .t (.int .i64 p2)), (4, .obj 4 0), (6, .t (.int .i64 0)), (8, .t (.int .i64 r1.2)), (24, .t (.bool (!r2)))], [(4, ((Manifest.enc p1).map .t))], []⟩ ?_
  refine Wp.cond2 (b := !r2) kr (fun hc => ?_) (fun hc => ?_)
  · have h := cond_t h hc
    refine Wp.srg [] [] ?_
    refine Runs.alln ?_
    refine Wp.fg ⟨[(0, .t (.sl 1 (p0.map (eInt .u8)))), (2, .t (.int .i64 p2)), (4, .obj 4 0), (6, .t (.int .i64 (-1))), (8, .t (.int .i64 r1.2))], [(4, ((Manifest.enc p1).map .t))], []⟩ ?_
    refine Wp.ret ?_
    refine thenR ?_
    obtain rfl := Option.some.inj h
    exact RetK [.t (.int .i64 (-1))] _ [] kr kr (.refl _) .nil
  have h := cond_f h hc
  refine Wp.skip (thenN ?_)
  refine Wp.srg [] [] ?_
  refine Runs.batch 4 kr ?_
  obtain ⟨y3, e_y3, h⟩ := bind_some h
  refine Runs.idxT (e := 69) (kk := .i64) (sz := 2) Sum.enc p1.fSums p2 rfl kr kr kr kr kr kr e_y3 ?_
  refine Runs.batch 2 kr ?_
  obtain ⟨r4, e_r4, h⟩ := bind_some h
  refine Runs.callK false 32 99 [] [.t (.sl 1 (p0.map (eInt .u8))), .agg [.t (.int .i64 y3.fW), .t (.int .i64 y3.fS)], .t (.int .i64 r1.2)] _ _ _ rfl rfl kr kr kr kr kr (impl_FindSum_ok u p0 y3 r1.2 r4 e_r4) kr ?_
  refine Runs.alln ?_
  refine Wp.fg ⟨[(6, .t (.int .i64 r4))], [], []⟩ ?_
  refine Wp.ret ?_
  obtain rfl := Option.some.inj h
  exact RetK [.t (.int .i64 r4)] _ [] kr kr (.refl _) .nil
theorem impl_placed_ok (u : Nat) (p0 : List Int) (p1 : Manifest) (p2 : Bool) (r : Int) (h : impl_placed u p0 p1 p2 = some r) : CallOK Tryz.prog 68 [.one (.t (.sl 1 (p0.map (eInt .u8)))), .agg [.t (.int .i64 p1.fGen), .t (.int .i64 p1.fSize), .t (.int .i64 p1.fLen), .t (.sl 2 (p1.fSums.map Sum.enc))], .one (.t (.bool p2))] (.one (.t (.int .i64 r))) [] := by
  unfold impl_placed at h
  refine CallOK.of_bodyK (fn := Tryz.f68) (m := false) [.t (.sl 1 (p0.map (eInt .u8))), .agg ((Manifest.enc p1).map .t), .t (.bool p2)] kr rfl kr kr kr kr kr ?_
  refine Wp.srg [] [] ?_
  refine Runs.alln ?_
  refine Wp.fg ⟨[(0, .t (.sl 1 (p0.map (eInt .u8)))), (2, .t (.bool p2)), (4, .obj 4 0), (6, .t (.int .i64 0))], [(4, ((Manifest.enc p1).map .t))], []⟩ ?_
  refine Wp.srg [] [] ?_
  refine Runs.alln ?_
  refine Wp.fg ⟨[(0, .t (.sl 1 (p0.map (eInt .u8)))), (2, .t (.bool p2)), (4, .obj 4 0), (6, .t (.int .i64 0)), (7, .t (.int .i64 0))], [(4, ((Manifest.enc p1).map .t))], []⟩ ?_
  refine Wp.seqJ (α := Int) (fun a => ⟨[(6, .t (.int .i64 0)), (7, .t (.int .i64 a))], [], []⟩) (fun a => impl_placed_j1 u a = some r) ?_ ?_
  · rintro x9 h
    change impl_placed_j1 u x9 = some r at h
    unfold impl_placed_j1 at h
    refine Wp.srg [] [] ?_
    refine Runs.alln ?_
    refine Wp.fg ⟨[(6, .t (.int .i64 x9))], [], []⟩ ?_
    refine Wp.ret ?_
    obtain rfl := Option.some.inj h
    exact RetK [.t (.int .i64 x9)] _ [] kr kr (.refl _) .nil
  · refine Wp.srg [] [] ?_
    refine Runs.batch 2 kr ?_
    refine Runs.lenT (y := .t (.sl 2 (p1.fSums.map Sum.enc))) (e := 69) Sum.enc p1.fSums 2 rfl rfl rfl kr kr kr kr kr ?_
    refine Runs.alln ?_
    refine Wp.fg ⟨[(0, .t (.sl 1 (p0.map (eInt .u8)))), (2, .t (.bool p2)), (4, .obj 4 0), (6, .t (.int .i64 0)), (7, .t (.int .i64 0)), (12, .t (.int .i64 (if ((p1.fSums.length : Int)) < 40 then ((p1.fSums.length : Int)) else 40))), (13, .t (.int .i64 0))], [(4, ((Manifest.enc p1).map .t))], []⟩ ?_
    refine Wp.block ?_
    refine Wp.loopF (α := (List Int) × Bool × Int × Manifest × Int) (fun a => ⟨[(0, .t (.sl 1 (a.1.map (eInt .u8)))), (2, .t (.bool a.2.1)), (4, .obj 4 0), (6, .t (.int .i64 0)), (7, .t (.int .i64 a.2.2.1)), (12, .t (.int .i64 (if ((a.2.2.2.1.fSums.length : Int)) < 40 then ((a.2.2.2.1.fSums.length : Int)) else 40))), (13, .t (.int .i64 a.2.2.2.2))], [(4, ((Manifest.enc a.2.2.2.1).map .t))], []⟩) (fun k_impl_placed_l2 a => impl_placed_l2 u k_impl_placed_l2 a.1 a.2.1 a.2.2.1 a.2.2.2.1 a.2.2.2.2 = some r) ?_ ?_ u (p0, p2, 0, p1, 0) h (Le.of (mo := []) (mr := []) kr kr kr kr)
    · intro a h; unfold impl_placed_l2 at h; cases h
    · rintro k_impl_placed_l2 ⟨p0, p2, x3, p1, x4⟩ h
      change impl_placed_l2 u (k_impl_placed_l2 + 1) p0 p2 x3 p1 x4 = some r at h
      rw [impl_placed_l2] at h
      refine Wp.srg [] [] ?_
      refine Runs.alln ?_
      refine Wp.fg ⟨[(0, .t (.sl 1 (p0.map (eInt .u8)))), (2, .t (.bool p2)), (4, .obj 4 0), (6, .t (.int .i64 0)), (7, .t (.int .i64 x3)), (12, .t (.int .i64 (if ((p1.fSums.length : Int)) < 40 then ((p1.fSums.length : Int)) else 40))), (13, .t (.int .i64 x4)), (14, .t (.bool (decide (x4 < (if ((p1.fSums.length : Int)) < 40 then ((p1.fSums.length : Int)) else 40)))))], [(4, ((Manifest.enc p1).map .t))], []⟩ ?_
      refine Wp.seq ?_
      refine Wp.cond2 (b := decide (x4 < (if ((p1.fSums.length : Int)) < 40 then ((p1.fSums.length : Int)) else 40))) kr (fun hc => ?_) (fun hc => ?_)
      · have h := cond_t h hc
        refine Wp.skip (thenN ?_)
        refine Wp.seqJ (α := (List Int) × Bool × Int × Manifest × Int) (fun a => ⟨[(0, .t (.sl 1 (a.1.map (eInt .u8)))), (2, .t (.bool a.2.1)), (4, .obj 4 0), (6, .t (.int .i64 0)), (7, .t (.int .i64 a.2.2.1)), (12, .t (.int .i64 (if ((a.2.2.2.1.fSums.length : Int)) < 40 then ((a.2.2.2.1.fSums.length : Int)) else 40))), (13, .t (.int .i64 a.2.2.2.2))], [(4, ((Manifest.enc a.2.2.2.1).map .t))], []⟩) (fun a => impl_placed_j3 u (fun z0 z1 z2 z3 z4 => impl_placed_l2 u k_impl_placed_l2 z0 z1 z2 z3 z4) a.1 a.2.1 a.2.2.1 a.2.2.2.1 a.2.2.2.2 = some r) ?_ ?_
        · rintro ⟨p0, p2, x8, p1, x4⟩ h
          change impl_placed_j3 u (fun z0 z1 z2 z3 z4 => impl_placed_l2 u k_impl_placed_l2 z0 z1 z2 z3 z4) p0 p2 x8 p1 x4 = some r at h
          unfold impl_placed_j3 at h
          refine Wp.rg [] [] ?_
          refine Runs.alln ?_
          exact ⟨(p0, p2, x8, p1, bAdd .i64 x4 1), h, Le.of (mo := []) (mr := []) kr kr kr kr⟩
        · refine Wp.block ?_
          refine Wp.srg [] [] ?_
          refine Runs.alln ?_
          refine Wp.fg ⟨[(0, .t (.sl 1 (p0.map (eInt .u8)))), (2, .t (.bool p2)), (4, .obj 4 0), (6, .t (.int .i64 0)), (7, .t (.int .i64 x3)), (8, .t (.int .i64 x4)), (12, .t (.int .i64 (if ((p1.fSums.length : Int)) < 40 then ((p1.fSums.length : Int)) else 40))), (13, .t (.int .i64 x4))], [(4, ((Manifest.enc p1).map .t))], []⟩ ?_
          refine Wp.srg [] [] ?_
          refine Runs.batch 3 kr ?_
          obtain ⟨r7, e_r7, h⟩ := bind_some h
          refine Runs.callK false 19 89 [] [.t (.sl 1 (p0.map (eInt .u8))), .agg ((Manifest.enc p1).map .t), .t (.int .i64 x4)] _ _ _ rfl rfl kr kr kr kr kr (impl_PlaceOf_ok u p0 p1 x4 r7 e_r7) kr ?_
          refine Runs.alln ?_
          refine Wp.fg ⟨[(0, .t (.sl 1 (p0.map (eInt .u8)))), (2, .t (.bool p2)), (4, .obj 4 0), (6, .t (.int .i64 0)), (7, .t (.int .i64 x3)), (8, .t (.int .i64 x4)), (12, .t (.int .i64 (if ((p1.fSums.length : Int)) < 40 then ((p1.fSums.length : Int)) else 40))), (13, .t (.int .i64 x4)), (22, .t (.bool ((decide (r7 ≥ 0)) == p2)))], [(4, ((Manifest.enc p1).map .t))], []⟩ ?_
          refine Wp.cond2 (b := (decide (r7 ≥ 0)) == p2) kr (fun hc => ?_) (fun hc => ?_)
          · have h := cond_t h hc
            refine Wp.rg [] [] ?_
            refine Runs.batch 2 kr ?_
            obtain ⟨_, e_8, h⟩ := bind_some h
            refine Runs.num .shl (.int .i64 1) (.int .i64 x4) (.int .i64 (bShl .i64 1 x4)) rfl kr kr kr kr (bin_shl _ _ _ _ _ (chk_some e_8)) ?_
            refine Runs.all kr ?_
            refine blkN ?_
            refine thenN ?_
            exact ⟨(p0, p2, bOr .i64 x3 (bShl .i64 1 x4), p1, x4), h, Le.of (mo := []) (mr := []) kr kr kr kr⟩
          have h := cond_f h hc
          refine Wp.skip ?_
          refine blkN ?_
          refine thenN ?_
          exact ⟨(p0, p2, x3, p1, x4), h, Le.of (mo := []) (mr := []) kr kr kr kr⟩
      have h := cond_f h hc
      refine Wp.exit ?_
      refine thenE ?_
      refine thenE ?_
      refine blkE ?_
      refine thenN ?_
      exact ⟨x3, h, Le.of (mo := []) (mr := []) kr kr kr kr⟩
theorem impl_Lacking_ok (u : Nat) (p0 : List Int) (p1 : Manifest) (r : Int) (h : impl_Lacking u p0 p1 = some r) : CallOK Tryz.prog 47 [.one (.t (.sl 1 (p0.map (eInt .u8)))), .agg [.t (.int .i64 p1.fGen), .t (.int .i64 p1.fSize), .t (.int .i64 p1.fLen), .t (.sl 2 (p1.fSums.map Sum.enc))]] (.one (.t (.int .i64 r))) [] := by
  unfold impl_Lacking at h
  refine CallOK.of_bodyK (fn := Tryz.f47) (m := false) [.t (.sl 1 (p0.map (eInt .u8))), .agg ((Manifest.enc p1).map .t)] kr rfl kr kr kr kr kr ?_
  refine Wp.srg [] [] ?_
  refine Runs.alln ?_
  refine Wp.fg ⟨[(0, .t (.sl 1 (p0.map (eInt .u8)))), (3, .obj 3 0), (4, .t (.int .i64 0))], [(3, ((Manifest.enc p1).map .t))], []⟩ ?_
  refine Wp.srg [] [] ?_
  refine Runs.batch 2 kr ?_
  obtain ⟨r1, e_r1, h⟩ := bind_some h
  refine Runs.callK false 7 68 [] [.t (.sl 1 (p0.map (eInt .u8))), .agg ((Manifest.enc p1).map .t), .t (.bool false)] _ _ _ rfl rfl kr kr kr kr kr (impl_placed_ok u p0 p1 false r1 e_r1) kr ?_
  refine Runs.alln ?_
  refine Wp.fg ⟨[(4, .t (.int .i64 r1))], [], []⟩ ?_
  refine Wp.ret ?_
  obtain rfl := Option.some.inj h
  exact RetK [.t (.int .i64 r1)] _ [] kr kr (.refl _) .nil
theorem impl_SetOk_ok (u : Nat) (p0 : Int) (r : Bool) (h : impl_SetOk u p0 = some r) : CallOK Tryz.prog 87 [.one (.t (.int .i64 p0))] (.one (.t (.bool r))) [] := by
  unfold impl_SetOk at h
  refine CallOK.of_bodyK (fn := Tryz.f87) (m := false) [.t (.int .i64 p0)] kr rfl kr kr kr kr kr ?_
  refine Wp.srg [] [] ?_
  refine Runs.alln ?_
  refine Wp.fg ⟨[(0, .t (.int .i64 p0)), (2, .t (.bool false))], [], []⟩ ?_
  refine Wp.srg [] [] ?_
  refine Runs.batch 1 kr ?_
  obtain ⟨r1, e_r1, h⟩ := bind_some h
  refine Runs.callK false 4 34 [] [.t (.int .i64 p0), .t (.int .i64 0), .t (.int .i64 1099511627775)] _ _ _ rfl rfl kr kr kr kr kr (impl_within_ok u p0 0 1099511627775 r1 e_r1) kr ?_
  refine Runs.alln ?_
  refine Wp.fg ⟨[(2, .t (.bool r1))], [], []⟩ ?_
  refine Wp.ret ?_
  obtain rfl := Option.some.inj h
  exact RetK [.t (.bool r1)] _ [] kr kr (.refl _) .nil
theorem impl_isPlace_ok (u : Nat) (p0 : Int) (r : Bool) (h : impl_isPlace u p0 = some r) : CallOK Tryz.prog 88 [.one (.t (.int .i64 p0))] (.one (.t (.bool r))) [] := by
  unfold impl_isPlace at h
  refine CallOK.of_bodyK (fn := Tryz.f88) (m := false) [.t (.int .i64 p0)] kr rfl kr kr kr kr kr ?_
  refine Wp.srg [] [] ?_
  refine Runs.alln ?_
  refine Wp.fg ⟨[(0, .t (.int .i64 p0)), (2, .t (.bool false))], [], []⟩ ?_
  refine Wp.srg [] [] ?_
  refine Runs.batch 1 kr ?_
  obtain ⟨r1, e_r1, h⟩ := bind_some h
  refine Runs.callK false 4 34 [] [.t (.int .i64 p0), .t (.int .i64 0), .t (.int .i64 39)] _ _ _ rfl rfl kr kr kr kr kr (impl_within_ok u p0 0 39 r1 e_r1) kr ?_
  refine Runs.alln ?_
  refine Wp.fg ⟨[(2, .t (.bool r1))], [], []⟩ ?_
  refine Wp.ret ?_
  obtain rfl := Option.some.inj h
  exact RetK [.t (.bool r1)] _ [] kr kr (.refl _) .nil
theorem impl_InSet_ok (u : Nat) (p0 : Int) (p1 : Int) (r : Bool) (h : impl_InSet u p0 p1 = some r) : CallOK Tryz.prog 67 [.one (.t (.int .i64 p0)), .one (.t (.int .i64 p1))] (.one (.t (.bool r))) [] := by
  unfold impl_InSet at h
  refine CallOK.of_bodyK (fn := Tryz.f67) (m := false) [.t (.int .i64 p0), .t (.int .i64 p1)] kr rfl kr kr kr kr kr ?_
  refine Wp.srg [] [] ?_
  refine Runs.alln ?_
  refine Wp.fg ⟨[(0, .t (.int .i64 p0)), (1, .t (.int .i64 p1)), (4, .t (.bool false))], [], []⟩ ?_
  refine Wp.srg [] [] ?_
  refine Runs.batch 1 kr ?_
  obtain ⟨r1, e_r1, h⟩ := bind_some h
  refine Runs.callK false 6 87 [] [.t (.int .i64 p0)] _ _ _ rfl rfl kr kr kr kr kr (impl_SetOk_ok u p0 r1 e_r1) kr ?_
  refine Runs.batch 1 kr ?_
  rcases tf (r1) with hc | hc
  · have h := cond_t h hc
    refine Runs.known 7 (v := true) kr hc ?_
    refine Runs.batch 1 kr ?_
    obtain ⟨r2, e_r2, h⟩ := bind_some h
    refine Runs.callK false 9 88 [] [.t (.int .i64 p1)] _ _ _ rfl rfl kr kr kr kr kr (impl_isPlace_ok u p1 r2 e_r2) kr ?_
    refine Runs.batch 2 kr ?_
    rcases tf (r2) with hc | hc
    · have h := cond_t h hc
      refine Runs.known 11 (v := true) kr hc ?_
      refine Runs.batch 2 kr ?_
      obtain ⟨_, e_3, h⟩ := bind_some h
      refine Runs.num .shr (.int .i64 p0) (.int .i64 p1) (.int .i64 (bShr .i64 p0 p1)) rfl kr kr kr kr (bin_shr _ _ _ _ _ (chk_some e_3)) ?_
      refine Runs.alln ?_
      refine Wp.fg ⟨[(4, .t (.bool ((bAnd .i64 (bShr .i64 p0 p1) 1) == 1)))], [], []⟩ ?_
      refine Wp.ret ?_
      obtain rfl := Option.some.inj h
      exact RetK [.t (.bool ((bAnd .i64 (bShr .i64 p0 p1) 1) == 1))] _ [] kr kr (.refl _) .nil
    have h := cond_f h hc
    refine Runs.known 11 (v := false) kr hc ?_
    refine Runs.alln ?_
    refine Wp.fg ⟨[(4, .t (.bool false))], [], []⟩ ?_
    refine Wp.ret ?_
    obtain rfl := Option.some.inj h
    exact RetK [.t (.bool false)] _ [] kr kr (.refl _) .nil
  have h := cond_f h hc
  refine Runs.known 7 (v := false) kr hc ?_
  refine Runs.alln ?_
  refine Wp.fg ⟨[(4, .t (.bool false))], [], []⟩ ?_
  refine Wp.ret ?_
  obtain rfl := Option.some.inj h
  exact RetK [.t (.bool false)] _ [] kr kr (.refl _) .nil
theorem impl_PartsIn_ok (u : Nat) (p0 : Int) (r : (List Int)) (h : impl_PartsIn u p0 = some r) : CallOK Tryz.prog 46 [.one (.t (.int .i64 p0))] (.one (.ow 3 1 (r.map (eInt .i64)))) [] := by
  unfold impl_PartsIn at h
  refine CallOK.of_bodyK (fn := Tryz.f46) (m := true) [.t (.int .i64 p0)] kr rfl kr kr kr kr kr ?_
  refine Wp.srg [] [] ?_
  refine Runs.alln ?_
  refine Wp.fg ⟨[(0, .t (.int .i64 p0)), (2, .nil)], [], []⟩ ?_
  refine Wp.srg [] [] ?_
  refine Runs.alln ?_
  refine Wp.fg ⟨[(0, .t (.int .i64 p0)), (2, .nil), (3, .own 327680)], [], [(327680, .live 3 1 ((([] : List Int)).map (eInt .i64)))]⟩ ?_
  refine Wp.seqJ (α := (List Int)) (fun a => ⟨[(2, .nil), (3, .own 196609)], [], [(196609, .live 3 1 (a.map (eInt .i64)))]⟩) (fun a => impl_PartsIn_j1 u a = some r) ?_ ?_
  · rintro x9 h
    change impl_PartsIn_j1 u x9 = some r at h
    unfold impl_PartsIn_j1 at h
    refine Wp.srg [] [] ?_
    refine Runs.alln ?_
    refine Wp.fg ⟨[(2, .own 196609)], [], [(196609, .live 3 1 (x9.map (eInt .i64)))]⟩ ?_
    refine Wp.ret ?_
    obtain rfl := Option.some.inj h
    exact RetK [.own 196609] _ [] kr kr (.refl _) .nil
  · refine Wp.srg [] [] ?_
    refine Runs.alln ?_
    refine Wp.fg ⟨[(0, .t (.int .i64 p0)), (2, .nil), (3, .own 327680), (6, .t (.int .i64 0))], [], [(327680, .live 3 1 ((([] : List Int)).map (eInt .i64)))]⟩ ?_
    refine Wp.block ?_
    refine Wp.loopF (α := Int × (List Int) × Int) (fun a => ⟨[(0, .t (.int .i64 a.1)), (2, .nil), (3, .own 196609), (6, .t (.int .i64 a.2.2))], [], [(196609, .live 3 1 (a.2.1.map (eInt .i64)))]⟩) (fun k_impl_PartsIn_l2 a => impl_PartsIn_l2 u k_impl_PartsIn_l2 a.1 a.2.1 a.2.2 = some r) ?_ ?_ u (p0, ([] : List Int), 0) h (Le.of (mo := []) (mr := [(196609, 327680)]) kr kr kr kr)
    · intro a h; unfold impl_PartsIn_l2 at h; cases h
    · rintro k_impl_PartsIn_l2 ⟨p0, x3, x4⟩ h
      change impl_PartsIn_l2 u (k_impl_PartsIn_l2 + 1) p0 x3 x4 = some r at h
      rw [impl_PartsIn_l2] at h
      refine Wp.srg [] [] ?_
      refine Runs.alln ?_
      refine Wp.fg ⟨[(0, .t (.int .i64 p0)), (2, .nil), (3, .own 196609), (6, .t (.int .i64 x4)), (7, .t (.bool (decide (x4 < 40))))], [], [(196609, .live 3 1 (x3.map (eInt .i64)))]⟩ ?_
      refine Wp.seq ?_
      refine Wp.cond2 (b := decide (x4 < 40)) kr (fun hc => ?_) (fun hc => ?_)
      · have h := cond_t h hc
        refine Wp.skip (thenN ?_)
        refine Wp.seqJ (α := Int × (List Int) × Int) (fun a => ⟨[(0, .t (.int .i64 a.1)), (2, .nil), (3, .own 196609), (6, .t (.int .i64 a.2.2))], [], [(196609, .live 3 1 (a.2.1.map (eInt .i64)))]⟩) (fun a => impl_PartsIn_j3 u (fun z0 z1 z2 => impl_PartsIn_l2 u k_impl_PartsIn_l2 z0 z1 z2) a.1 a.2.1 a.2.2 = some r) ?_ ?_
        · rintro ⟨p0, x8, x4⟩ h
          change impl_PartsIn_j3 u (fun z0 z1 z2 => impl_PartsIn_l2 u k_impl_PartsIn_l2 z0 z1 z2) p0 x8 x4 = some r at h
          unfold impl_PartsIn_j3 at h
          refine Wp.rg [] [] ?_
          refine Runs.alln ?_
          exact ⟨(p0, x8, bAdd .i64 x4 1), h, Le.of (mo := []) (mr := []) kr kr kr kr⟩
        · refine Wp.block ?_
          refine Wp.srg [] [] ?_
          refine Runs.alln ?_
          refine Wp.fg ⟨[(0, .t (.int .i64 p0)), (2, .nil), (3, .own 196609), (4, .t (.int .i64 x4)), (6, .t (.int .i64 x4))], [], [(196609, .live 3 1 (x3.map (eInt .i64)))]⟩ ?_
          refine Wp.srg [] [] ?_
          refine Runs.batch 2 kr ?_
          obtain ⟨r7, e_r7, h⟩ := bind_some h
          refine Runs.callK false 11 67 [] [.t (.int .i64 p0), .t (.int .i64 x4)] _ _ _ rfl rfl kr kr kr kr kr (impl_InSet_ok u p0 x4 r7 e_r7) kr ?_
          refine Runs.done ?_
          refine thenN ?_
          refine Wp.fg ⟨[(0, .t (.int .i64 p0)), (2, .nil), (3, .own 196609), (4, .t (.int .i64 x4)), (6, .t (.int .i64 x4)), (11, .t (.bool r7))], [], [(196609, .live 3 1 (x3.map (eInt .i64)))]⟩ ?_
          refine Wp.cond2 (b := r7) kr (fun hc => ?_) (fun hc => ?_)
          · have h := cond_t h hc
            refine Wp.rg [] [] ?_
            refine Runs.batch 3 kr ?_
            obtain ⟨_, e_8, h⟩ := bind_some h
            refine Runs.appT (y := .own 917504) (eInt .i64) 15 1 3 1 8 196609 x3 ([x4]) rfl rfl rfl rfl kr kr kr kr kr kr (.inl rfl) kr (of_decide_eq_true (chk_some e_8)) kr kr ?_
            refine Runs.all kr ?_
            refine blkN ?_
            refine thenN ?_
            exact ⟨(p0, x3 ++ ([x4]), x4), h, Le.of (mo := []) (mr := [(196609, 983040)]) kr kr kr kr⟩
          have h := cond_f h hc
          refine Wp.skip ?_
          refine blkN ?_
          refine thenN ?_
          exact ⟨(p0, x3, x4), h, Le.of (mo := []) (mr := []) kr kr kr kr⟩
      have h := cond_f h hc
      refine Wp.exit ?_
      refine thenE ?_
      refine thenE ?_
      refine blkE ?_
      refine thenN ?_
      exact ⟨x3, h, Le.of (mo := []) (mr := []) kr kr kr kr⟩
theorem impl_BytesLacking_ok (u : Nat) (p0 : List Int) (p1 : Manifest) (r : Int) (h : impl_BytesLacking u p0 p1 = some r) : CallOK Tryz.prog 30 [.one (.t (.sl 1 (p0.map (eInt .u8)))), .agg [.t (.int .i64 p1.fGen), .t (.int .i64 p1.fSize), .t (.int .i64 p1.fLen), .t (.sl 2 (p1.fSums.map Sum.enc))]] (.one (.t (.int .i64 r))) [] := by
  unfold impl_BytesLacking at h
  refine CallOK.of_bodyK (fn := Tryz.f30) (m := false) [.t (.sl 1 (p0.map (eInt .u8))), .agg ((Manifest.enc p1).map .t)] kr rfl kr kr kr kr kr ?_
  refine Wp.srg [] [] ?_
  refine Runs.alln ?_
  refine Wp.fg ⟨[(0, .t (.sl 1 (p0.map (eInt .u8)))), (3, .obj 3 0), (4, .t (.int .i64 0))], [(3, ((Manifest.enc p1).map .t))], []⟩ ?_
  refine Wp.srg [] [] ?_
  refine Runs.alln ?_
  refine Wp.fg ⟨[(0, .t (.sl 1 (p0.map (eInt .u8)))), (3, .obj 3 0), (4, .t (.int .i64 0)), (5, .t (.int .i64 0))], [(3, ((Manifest.enc p1).map .t))], []⟩ ?_
  refine Wp.seqJ (α := Int) (fun a => ⟨[(4, .t (.int .i64 0)), (5, .t (.int .i64 a))], [], []⟩) (fun a => impl_BytesLacking_j1 u a = some r) ?_ ?_
  · rintro x11 h
    change impl_BytesLacking_j1 u x11 = some r at h
    unfold impl_BytesLacking_j1 at h
    refine Wp.srg [] [] ?_
    refine Runs.alln ?_
    refine Wp.fg ⟨[(4, .t (.int .i64 x11))], [], []⟩ ?_
    refine Wp.ret ?_
    obtain rfl := Option.some.inj h
    exact RetK [.t (.int .i64 x11)] _ [] kr kr (.refl _) .nil
  · refine Wp.srg [] [] ?_
    refine Runs.batch 2 kr ?_
    obtain ⟨r1, e_r1, h⟩ := bind_some h
    refine Runs.callK false 12 47 [] [.t (.sl 1 (p0.map (eInt .u8))), .agg ((Manifest.enc p1).map .t)] _ _ _ rfl rfl kr kr kr kr kr (impl_Lacking_ok u p0 p1 r1 e_r1) kr ?_
    obtain ⟨r2, e_r2, h⟩ := bind_some h
    refine Runs.callK false 13 46 [] [.t (.int .i64 r1)] _ _ _ rfl rfl kr kr kr kr kr (impl_PartsIn_ok u r1 r2 e_r2) kr ?_
    refine Runs.lenT (y := .own 851968) (e := 3) (eInt .i64) r2 1 rfl rfl rfl kr kr kr kr kr ?_
    refine Runs.alln ?_
    refine Wp.fg ⟨[(3, .obj 3 0), (4, .t (.int .i64 0)), (5, .t (.int .i64 0)), (13, .own 851968), (14, .t (.int .i64 ((r2.length : Int)))), (15, .t (.int .i64 0))], [(3, ((Manifest.enc p1).map .t))], [(851968, .live 3 1 (r2.map (eInt .i64)))]⟩ ?_
    refine Wp.block ?_
    refine Wp.loopF (α := Int × ((List Int)) × Int × Manifest) (fun a => ⟨[(3, .obj 3 0), (4, .t (.int .i64 0)), (5, .t (.int .i64 a.1)), (13, .own 851969), (14, .t (.int .i64 ((a.2.1.length : Int)))), (15, .t (.int .i64 a.2.2.1))], [(3, ((Manifest.enc a.2.2.2).map .t))], [(851969, .live 3 1 (a.2.1.map (eInt .i64)))]⟩) (fun k_impl_BytesLacking_l2 a => impl_BytesLacking_l2 u k_impl_BytesLacking_l2 a.1 a.2.1 a.2.2.1 a.2.2.2 = some r) ?_ ?_ u (0, r2, 0, p1) h (Le.of (mo := []) (mr := [(851969, 851968)]) kr kr kr kr)
    · intro a h; unfold impl_BytesLacking_l2 at h; cases h
    · rintro k_impl_BytesLacking_l2 ⟨x5, r2, x6, p1⟩ h
      change impl_BytesLacking_l2 u (k_impl_BytesLacking_l2 + 1) x5 r2 x6 p1 = some r at h
      rw [impl_BytesLacking_l2] at h
      refine Wp.srg [] [] ?_
      refine Runs.alln ?_
      refine Wp.fg ⟨[(3, .obj 3 0), (4, .t (.int .i64 0)), (5, .t (.int .i64 x5)), (13, .own 851969), (14, .t (.int .i64 ((r2.length : Int)))), (15, .t (.int .i64 x6)), (16, .t (.bool (decide (x6 < ((r2.length : Int))))))], [(3, ((Manifest.enc p1).map .t))], [(851969, .live 3 1 (r2.map (eInt .i64)))]⟩ ?_
      refine Wp.seq ?_
      refine Wp.cond2 (b := decide (x6 < ((r2.length : Int)))) kr (fun hc => ?_) (fun hc => ?_)
      · have h := cond_t h hc
        refine Wp.skip (thenN ?_)
        refine Wp.seq ?_
        refine Wp.block ?_
        refine Wp.srg [] [] ?_
        obtain ⟨y9, e_y9, h⟩ := bind_some h
        refine Runs.idxO (e := 3) (e' := 3) (kk := .i64) (sz := 1) (eInt .i64) r2 x6 851969 rfl kr kr kr kr kr kr kr e_y9 ?_
        refine Runs.loadE (e' := 3) (sz := 1) (m := 1) (gg := false) (eInt .i64) r2 851969 (Int.toNat x6) 0 (.t (.int .i64 y9)) rfl kr kr kr kr kr kr (idx_some e_y9).2 kr ?_
        refine Runs.alln ?_
        refine Wp.fg ⟨[(3, .obj 3 0), (4, .t (.int .i64 0)), (5, .t (.int .i64 x5)), (7, .t (.int .i64 y9)), (13, .own 851969), (14, .t (.int .i64 ((r2.length : Int)))), (15, .t (.int .i64 x6))], [(3, ((Manifest.enc p1).map .t))], [(851969, .live 3 1 (r2.map (eInt .i64)))]⟩ ?_
        refine Wp.srg [] [] ?_
        refine Runs.batch 5 kr ?_
        obtain ⟨r10, e_r10, h⟩ := bind_some h
        refine Runs.callK false 25 48 [] [.t (.int .i64 p1.fSize), .t (.int .i64 p1.fLen), .t (.int .i64 y9)] _ _ _ rfl rfl kr kr kr kr kr (impl_SpanOf_ok u p1.fSize p1.fLen y9 r10 e_r10) kr ?_
        refine Runs.alln ?_
        refine Wp.fg ⟨[(3, .obj 3 0), (4, .t (.int .i64 0)), (5, .t (.int .i64 x5)), (9, .t (.int .i64 r10.2)), (13, .own 851969), (14, .t (.int .i64 ((r2.length : Int)))), (15, .t (.int .i64 x6))], [(3, ((Manifest.enc p1).map .t))], [(851969, .live 3 1 (r2.map (eInt .i64)))]⟩ ?_
        refine Wp.rg [] [] ?_
        refine Runs.all kr ?_
        refine blkN ?_
        refine thenN ?_
        refine Wp.rg [] [] ?_
        refine Runs.alln ?_
        exact ⟨(bAdd .i64 x5 r10.2, r2, bAdd .i64 x6 1, p1), h, Le.of (mo := []) (mr := []) kr kr kr kr⟩
      have h := cond_f h hc
      refine Wp.exit ?_
      refine thenE ?_
      refine thenE ?_
      refine blkE ?_
      refine thenN ?_
      exact ⟨x5, h, Le.of (mo := []) (mr := []) kr kr kr kr⟩
theorem impl_CostOf_ok (u : Nat) (p0 : List Int) (p1 : List Image) (p2 : Int) (r : Int) (h : impl_CostOf u p0 p1 p2 = some r) : CallOK Tryz.prog 12 [.one (.t (.sl 1 (p0.map (eInt .u8)))), .one (.t (.sl 1 (p1.map Image.enc))), .one (.t (.int .i64 p2))] (.one (.t (.int .i64 r))) [] := by
  unfold impl_CostOf at h
  refine CallOK.of_bodyK (fn := Tryz.f12) (m := false) [.t (.sl 1 (p0.map (eInt .u8))), .t (.sl 1 (p1.map Image.enc)), .t (.int .i64 p2)] kr rfl kr kr kr kr kr ?_
  refine Wp.srg [] [] ?_
  refine Runs.alln ?_
  refine Wp.fg ⟨[(0, .t (.sl 1 (p0.map (eInt .u8)))), (1, .t (.sl 1 (p1.map Image.enc))), (2, .t (.int .i64 p2)), (6, .t (.int .i64 0))], [], []⟩ ?_
  refine Wp.seq ?_
  refine Wp.srg [] [] ?_
  refine Runs.batch 2 kr ?_
  refine Runs.lenT (y := .t (.sl 1 (p0.map (eInt .u8)))) (e := 5) (eInt .u8) p0 1 rfl rfl rfl kr kr kr kr kr ?_
  obtain ⟨r1, e_r1, h⟩ := bind_some h
  refine Runs.callK false 14 22 [] [.t (.int .i64 p2), .t (.int .i64 ((p0.length : Int)))] _ _ _ rfl rfl kr kr kr kr kr (impl_SizeOk_ok u p2 ((p0.length : Int)) r1 e_r1) kr ?_
  refine Runs.alln ?_
  refine Wp.fg ⟨[(0, .t (.sl 1 (p0.map (eInt .u8)))), (1, .t (.sl 1 (p1.map Image.enc))), (2, .t (.int .i64 p2)), (6, .t (.int .i64 0)), (15, .t (.bool (!r1)))], [], []⟩ ?_
  refine Wp.cond2 (b := !r1) kr (fun hc => ?_) (fun hc => ?_)
  · have h := cond_t h hc
    refine Wp.srg [] [] ?_
    refine Runs.alln ?_
    refine Wp.fg ⟨[(0, .t (.sl 1 (p0.map (eInt .u8)))), (1, .t (.sl 1 (p1.map Image.enc))), (2, .t (.int .i64 p2)), (6, .t (.int .i64 (-1)))], [], []⟩ ?_
    refine Wp.ret ?_
    refine thenR ?_
    obtain rfl := Option.some.inj h
    exact RetK [.t (.int .i64 (-1))] _ [] kr kr (.refl _) .nil
  have h := cond_f h hc
  refine Wp.skip (thenN ?_)
  refine Wp.srg [] [] ?_
  refine Runs.batch 2 kr ?_
  obtain ⟨r2, e_r2, h⟩ := bind_some h
  refine Runs.callK false 18 29 [] [.t (.int .i64 1), .t (.sl 1 (p0.map (eInt .u8))), .t (.int .i64 p2)] _ _ _ rfl rfl kr kr kr kr kr (impl_ManOf_ok u 1 p0 p2 r2 e_r2) kr ?_
  refine Runs.alln ?_
  refine Wp.fg ⟨[(1, .t (.sl 1 (p1.map Image.enc))), (6, .t (.int .i64 0)), (7, .obj 7 0)], [(7, [.t (.int .i64 r2.fGen), .t (.int .i64 r2.fSize), .t (.int .i64 r2.fLen), .own 1179651])], [(1179651, .live 69 2 (r2.fSums.map Sum.enc))]⟩ ?_
  refine Wp.srg [] [] ?_
  refine Runs.alln ?_
  refine Wp.fg ⟨[(1, .t (.sl 1 (p1.map Image.enc))), (6, .t (.int .i64 0)), (7, .obj 7 0), (8, .t (.int .i64 0))], [(7, [.t (.int .i64 r2.fGen), .t (.int .i64 r2.fSize), .t (.int .i64 r2.fLen), .own 1179651])], [(1179651, .live 69 2 (r2.fSums.map Sum.enc))]⟩ ?_
  refine Wp.seqJ (α := Int) (fun a => ⟨[(6, .t (.int .i64 0)), (8, .t (.int .i64 a))], [], []⟩) (fun a => impl_CostOf_j1 u a = some r) ?_ ?_
  · rintro x12 h
    change impl_CostOf_j1 u x12 = some r at h
    unfold impl_CostOf_j1 at h
    refine Wp.srg [] [] ?_
    refine Runs.alln ?_
    refine Wp.fg ⟨[(6, .t (.int .i64 x12))], [], []⟩ ?_
    refine Wp.ret ?_
    obtain rfl := Option.some.inj h
    exact RetK [.t (.int .i64 x12)] _ [] kr kr (.refl _) .nil
  · refine Wp.srg [] [] ?_
    refine Runs.batch 1 kr ?_
    refine Runs.lenT (y := .t (.sl 1 (p1.map Image.enc))) (e := 54) Image.enc p1 1 rfl rfl rfl kr kr kr kr kr ?_
    refine Runs.alln ?_
    refine Wp.fg ⟨[(6, .t (.int .i64 0)), (7, .obj 7 0), (8, .t (.int .i64 0)), (19, .t (.sl 1 (p1.map Image.enc))), (20, .t (.int .i64 ((p1.length : Int)))), (21, .t (.int .i64 0))], [(7, [.t (.int .i64 r2.fGen), .t (.int .i64 r2.fSize), .t (.int .i64 r2.fLen), .own 1179651])], [(1179651, .live 69 2 (r2.fSums.map Sum.enc))]⟩ ?_
    refine Wp.block ?_
    refine Wp.loopF (α := Int × (List Image) × Int × Manifest) (fun a => ⟨[(6, .t (.int .i64 0)), (7, .obj 7 0), (8, .t (.int .i64 a.1)), (19, .t (.sl 1 (a.2.1.map Image.enc))), (20, .t (.int .i64 ((a.2.1.length : Int)))), (21, .t (.int .i64 a.2.2.1))], [(7, ((Manifest.enc a.2.2.2).map .t))], []⟩) (fun k_impl_CostOf_l2 a => impl_CostOf_l2 u k_impl_CostOf_l2 a.1 a.2.1 a.2.2.1 a.2.2.2 = some r) ?_ ?_ u (0, p1, 0, r2) h (Le.trans (Le.frzO 7 3 1179651 69 2 [.t (.int .i64 r2.fGen), .t (.int .i64 r2.fSize), .t (.int .i64 r2.fLen), .own 1179651] (r2.fSums.map Sum.enc) kr kr kr) (Le.of (mo := []) (mr := []) kr kr kr kr))
    · intro a h; unfold impl_CostOf_l2 at h; cases h
    · rintro k_impl_CostOf_l2 ⟨x5, p1, x6, r2⟩ h
      change impl_CostOf_l2 u (k_impl_CostOf_l2 + 1) x5 p1 x6 r2 = some r at h
      rw [impl_CostOf_l2] at h
      refine Wp.srg [] [] ?_
      refine Runs.alln ?_
      refine Wp.fg ⟨[(6, .t (.int .i64 0)), (7, .obj 7 0), (8, .t (.int .i64 x5)), (19, .t (.sl 1 (p1.map Image.enc))), (20, .t (.int .i64 ((p1.length : Int)))), (21, .t (.int .i64 x6)), (22, .t (.bool (decide (x6 < ((p1.length : Int))))))], [(7, ((Manifest.enc r2).map .t))], []⟩ ?_
      refine Wp.seq ?_
      refine Wp.cond2 (b := decide (x6 < ((p1.length : Int)))) kr (fun hc => ?_) (fun hc => ?_)
      · have h := cond_t h hc
        refine Wp.skip (thenN ?_)
        refine Wp.seq ?_
        refine Wp.block ?_
        refine Wp.srg [] [] ?_
        obtain ⟨y9, e_y9, h⟩ := bind_some h
        refine Runs.idxT (e := 54) (kk := .i64) (sz := 1) Image.enc p1 x6 rfl kr kr kr kr kr kr e_y9 ?_
        refine Runs.alln ?_
        refine Wp.fg ⟨[(6, .t (.int .i64 0)), (7, .obj 7 0), (8, .t (.int .i64 x5)), (10, .obj 10 0), (19, .t (.sl 1 (p1.map Image.enc))), (20, .t (.int .i64 ((p1.length : Int)))), (21, .t (.int .i64 x6))], [(7, ((Manifest.enc r2).map .t)), (10, [.t (.sl 1 (y9.fB.map (eInt .u8)))])], []⟩ ?_
        refine Wp.regionA (pOf []) (rhoOf [(7, .obj 7), (8, .frz), (10, .obj 10), (25, .frz), (26, .frz), (27, .frz), (28, .obj 10), (29, .frz), (30, .frz), (31, .frz), (32, .frz), (33, .frz)]) kr kr ?_
        refine Runs.batch 2 kr ?_
        obtain ⟨r10, e_r10, h⟩ := bind_some h
        refine Runs.callK false 27 18 [] [.agg ((Manifest.enc r2).map .t)] _ _ _ rfl rfl kr kr kr kr kr (impl_ManBytes_ok u r2 r10 e_r10) kr ?_
        refine Runs.batch 3 kr ?_
        obtain ⟨r11, e_r11, h⟩ := bind_some h
        refine Runs.callK false 31 30 [] [.t (.sl 1 (y9.fB.map (eInt .u8))), .agg ((Manifest.enc r2).map .t)] _ _ _ rfl rfl kr kr kr kr kr (impl_BytesLacking_ok u y9.fB r2 r11 e_r11) kr ?_
        refine Runs.all kr ?_
        refine blkN ?_
        refine thenN ?_
        refine Wp.rg [] [] ?_
        refine Runs.alln ?_
        exact ⟨(bAdd .i64 x5 (bAdd .i64 r10 r11), p1, bAdd .i64 x6 1, r2), h, Le.of (mo := []) (mr := []) kr kr kr kr⟩
      have h := cond_f h hc
      refine Wp.exit ?_
      refine thenE ?_
      refine thenE ?_
      refine blkE ?_
      refine thenN ?_
      exact ⟨x5, h, Le.of (mo := []) (mr := []) kr kr kr kr⟩
theorem impl_BestSize_ok (u : Nat) (p0 : List Int) (p1 : List Image) (r : Int) (h : impl_BestSize u p0 p1 = some r) : CallOK Tryz.prog 10 [.one (.t (.sl 1 (p0.map (eInt .u8)))), .one (.t (.sl 1 (p1.map Image.enc)))] (.one (.t (.int .i64 r))) [] := by
  unfold impl_BestSize at h
  refine CallOK.of_bodyK (fn := Tryz.f10) (m := false) [.t (.sl 1 (p0.map (eInt .u8))), .t (.sl 1 (p1.map Image.enc))] kr rfl kr kr kr kr kr ?_
  refine Wp.srg [] [] ?_
  refine Runs.alln ?_
  refine Wp.fg ⟨[(0, .t (.sl 1 (p0.map (eInt .u8)))), (1, .t (.sl 1 (p1.map Image.enc))), (4, .t (.int .i64 0))], [], []⟩ ?_
  refine Wp.srg [] [] ?_
  refine Runs.alln ?_
  refine Wp.fg ⟨[(0, .t (.sl 1 (p0.map (eInt .u8)))), (1, .t (.sl 1 (p1.map Image.enc))), (4, .t (.int .i64 0)), (5, .t (.int .i64 0)), (6, .t (.int .i64 (-1)))], [], []⟩ ?_
  refine Wp.seqJ (α := Int) (fun a => ⟨[(4, .t (.int .i64 0)), (5, .t (.int .i64 a))], [], []⟩) (fun a => impl_BestSize_j1 u a = some r) ?_ ?_
  · rintro x14 h
    change impl_BestSize_j1 u x14 = some r at h
    unfold impl_BestSize_j1 at h
    refine Wp.srg [] [] ?_
    refine Runs.alln ?_
    refine Wp.fg ⟨[(4, .t (.int .i64 x14))], [], []⟩ ?_
    refine Wp.ret ?_
    obtain rfl := Option.some.inj h
    exact RetK [.t (.int .i64 x14)] _ [] kr kr (.refl _) .nil
  · refine Wp.srg [] [] ?_
    refine Runs.alln ?_
    refine Wp.fg ⟨[(0, .t (.sl 1 (p0.map (eInt .u8)))), (1, .t (.sl 1 (p1.map Image.enc))), (4, .t (.int .i64 0)), (5, .t (.int .i64 0)), (6, .t (.int .i64 (-1))), (7, .t (.int .i64 2))], [], []⟩ ?_
    refine Wp.block ?_
    refine Wp.loopF (α := (List Int) × (List Image) × Int × Int × Int) (fun a => ⟨[(0, .t (.sl 1 (a.1.map (eInt .u8)))), (1, .t (.sl 1 (a.2.1.map Image.enc))), (4, .t (.int .i64 0)), (5, .t (.int .i64 a.2.2.1)), (6, .t (.int .i64 a.2.2.2.1)), (7, .t (.int .i64 a.2.2.2.2))], [], []⟩) (fun k_impl_BestSize_l2 a => impl_BestSize_l2 u k_impl_BestSize_l2 a.1 a.2.1 a.2.2.1 a.2.2.2.1 a.2.2.2.2 = some r) ?_ ?_ u (p0, p1, 0, -1, 2) h (Le.of (mo := []) (mr := []) kr kr kr kr)
    · intro a h; unfold impl_BestSize_l2 at h; cases h
    · rintro k_impl_BestSize_l2 ⟨p0, p1, x4, x5, x6⟩ h
      change impl_BestSize_l2 u (k_impl_BestSize_l2 + 1) p0 p1 x4 x5 x6 = some r at h
      rw [impl_BestSize_l2] at h
      refine Wp.seq ?_
      refine Wp.srg [] [] ?_
      refine Runs.alln ?_
      refine Wp.fg ⟨[(0, .t (.sl 1 (p0.map (eInt .u8)))), (1, .t (.sl 1 (p1.map Image.enc))), (4, .t (.int .i64 0)), (5, .t (.int .i64 x4)), (6, .t (.int .i64 x5)), (7, .t (.int .i64 x6)), (10, .t (.bool (decide (x6 ≤ 6))))], [], []⟩ ?_
      refine Wp.cond2 (b := decide (x6 ≤ 6)) kr (fun hc => ?_) (fun hc => ?_)
      · have h := cond_t h hc
        refine Wp.skip (thenN ?_)
        refine Wp.seqJ (α := (List Int) × (List Image) × Int × Int × Int) (fun a => ⟨[(0, .t (.sl 1 (a.1.map (eInt .u8)))), (1, .t (.sl 1 (a.2.1.map Image.enc))), (4, .t (.int .i64 0)), (5, .t (.int .i64 a.2.2.1)), (6, .t (.int .i64 a.2.2.2.1)), (7, .t (.int .i64 a.2.2.2.2))], [], []⟩) (fun a => impl_BestSize_j3 u (fun z0 z1 z2 z3 z4 => impl_BestSize_l2 u k_impl_BestSize_l2 z0 z1 z2 z3 z4) a.1 a.2.1 a.2.2.1 a.2.2.2.1 a.2.2.2.2 = some r) ?_ ?_
        · rintro ⟨p0, p1, x12, x13, x6⟩ h
          change impl_BestSize_j3 u (fun z0 z1 z2 z3 z4 => impl_BestSize_l2 u k_impl_BestSize_l2 z0 z1 z2 z3 z4) p0 p1 x12 x13 x6 = some r at h
          unfold impl_BestSize_j3 at h
          refine Wp.rg [] [] ?_
          refine Runs.alln ?_
          exact ⟨(p0, p1, x12, x13, bAdd .i64 x6 1), h, Le.of (mo := []) (mr := []) kr kr kr kr⟩
        · refine Wp.block ?_
          refine Wp.srg [] [] ?_
          refine Runs.batch 3 kr ?_
          obtain ⟨r10, e_r10, h⟩ := bind_some h
          refine Runs.callK false 16 12 [] [.t (.sl 1 (p0.map (eInt .u8))), .t (.sl 1 (p1.map Image.enc)), .t (.int .i64 x6)] _ _ _ rfl rfl kr kr kr kr kr (impl_CostOf_ok u p0 p1 x6 r10 e_r10) kr ?_
          refine Runs.alln ?_
          refine Wp.fg ⟨[(0, .t (.sl 1 (p0.map (eInt .u8)))), (1, .t (.sl 1 (p1.map Image.enc))), (4, .t (.int .i64 0)), (5, .t (.int .i64 x4)), (6, .t (.int .i64 x5)), (7, .t (.int .i64 x6)), (8, .t (.int .i64 r10))], [], []⟩ ?_
          refine Wp.seqJ (α := (List Int) × (List Image) × Int × Int × Int × Int × Bool) (fun a => ⟨[(0, .t (.sl 1 (a.1.map (eInt .u8)))), (1, .t (.sl 1 (a.2.1.map Image.enc))), (4, .t (.int .i64 0)), (5, .t (.int .i64 a.2.2.1)), (6, .t (.int .i64 a.2.2.2.1)), (7, .t (.int .i64 a.2.2.2.2.1)), (8, .t (.int .i64 a.2.2.2.2.2.1)), (27, .t (.bool a.2.2.2.2.2.2))], [], []⟩) (fun a => impl_BestSize_j4 u (fun z0 z1 z2 z3 z4 => impl_BestSize_l2 u k_impl_BestSize_l2 z0 z1 z2 z3 z4) a.1 a.2.1 a.2.2.1 a.2.2.2.1 a.2.2.2.2.1 a.2.2.2.2.2.1 a.2.2.2.2.2.2 = some r) ?_ ?_
          · rintro ⟨p0, p1, x4, x5, x6, r10, x11⟩ h
            change impl_BestSize_j4 u (fun z0 z1 z2 z3 z4 => impl_BestSize_l2 u k_impl_BestSize_l2 z0 z1 z2 z3 z4) p0 p1 x4 x5 x6 r10 x11 = some r at h
            unfold impl_BestSize_j4 at h
            refine Wp.cond2 (b := x11) kr (fun hc => ?_) (fun hc => ?_)
            · have h := cond_t h hc
              refine Wp.rg [] [] ?_
              refine Runs.all kr ?_
              refine blkN ?_
              refine thenN ?_
              exact ⟨(p0, p1, x6, r10, x6), h, Le.of (mo := []) (mr := []) kr kr kr kr⟩
            have h := cond_f h hc
            refine Wp.skip ?_
            refine blkN ?_
            refine thenN ?_
            exact ⟨(p0, p1, x4, x5, x6), h, Le.of (mo := []) (mr := []) kr kr kr kr⟩
          · refine Wp.rg [] [] ?_
            refine Runs.batch 3 kr ?_
            rcases tf (decide (r10 ≥ 0)) with hc | hc
            · have h := cond_t h hc
              refine Runs.known 19 (v := true) kr hc ?_
              refine Runs.batch 3 kr ?_
              rcases tf (x4 == 0) with hc | hc
              · have h := cond_t h hc
                refine Runs.known 22 (v := true) kr hc ?_
                refine Runs.alln ?_
                exact ⟨(p0, p1, x4, x5, x6, r10, true), h, Le.of (mo := []) (mr := []) kr kr kr kr⟩
              have h := cond_f h hc
              refine Runs.known 22 (v := false) kr hc ?_
              refine Runs.alln ?_
              exact ⟨(p0, p1, x4, x5, x6, r10, decide (r10 < x5)), h, Le.of (mo := []) (mr := []) kr kr kr kr⟩
            have h := cond_f h hc
            refine Runs.known 19 (v := false) kr hc ?_
            refine Runs.alln ?_
            exact ⟨(p0, p1, x4, x5, x6, r10, false), h, Le.of (mo := []) (mr := []) kr kr kr kr⟩
      have h := cond_f h hc
      refine Wp.exit ?_
      refine thenE ?_
      refine thenE ?_
      refine blkE ?_
      refine thenN ?_
      exact ⟨x4, h, Le.of (mo := []) (mr := []) kr kr kr kr⟩
theorem spec_BytesOf_ok (u : Nat) (p0 : Int) (r : (List Int) × Bool) (h : spec_BytesOf u p0 = some r) : CallOK Tryz.prog 80 [.one (.t (.int .i64 p0))] (.tup [.one (.ow 5 1 (r.1.map (eInt .u8))), .one (.t (.bool r.2))]) [] := by
  unfold spec_BytesOf at h
  refine CallOK.of_bodyK (fn := Tryz.f80) (m := true) [.t (.int .i64 p0)] kr rfl kr kr kr kr kr ?_
  refine Wp.srg [] [] ?_
  refine Runs.alln ?_
  refine Wp.fg ⟨[(0, .t (.int .i64 p0)), (2, .nil), (3, .t (.bool false))], [], []⟩ ?_
  refine Wp.seq ?_
  refine Wp.srg [] [] ?_
  refine Runs.batch 1 kr ?_
  obtain ⟨r1, e_r1, h⟩ := bind_some h
  refine Runs.callK false 6 49 [] [.t (.int .i64 p0), .t (.int .i64 1), .t (.int .i64 562949953421311)] _ _ _ rfl rfl kr kr kr kr kr (spec_l1In_ok u p0 1 562949953421311 r1 e_r1) kr ?_
  refine Runs.alln ?_
  refine Wp.fg ⟨[(0, .t (.int .i64 p0)), (2, .nil), (3, .t (.bool false)), (7, .t (.bool (!r1)))], [], []⟩ ?_
  refine Wp.cond2 (b := !r1) kr (fun hc => ?_) (fun hc => ?_)
  · have h := cond_t h hc
    refine Wp.srg [] [] ?_
    refine Runs.alln ?_
    refine Wp.fg ⟨[(0, .t (.int .i64 p0)), (2, .own 524288), (3, .t (.bool false))], [], [(524288, .live 5 1 ((([] : List Int)).map (eInt .u8)))]⟩ ?_
    refine Wp.ret ?_
    refine thenR ?_
    obtain rfl := Option.some.inj h
    exact RetK [.own 524288, .t (.bool false)] _ [] kr kr (.refl _) .nil
  have h := cond_f h hc
  refine Wp.skip (thenN ?_)
  refine Wp.srg [] [] ?_
  refine Runs.alln ?_
  refine Wp.fg ⟨[(0, .t (.int .i64 p0)), (2, .nil), (3, .t (.bool false)), (4, .own 589824)], [], [(589824, .live 5 1 ((([] : List Int)).map (eInt .u8)))]⟩ ?_
  refine Wp.seqJ (α := (List Int)) (fun a => ⟨[(2, .nil), (3, .t (.bool false)), (4, .own 262145)], [], [(262145, .live 5 1 (a.map (eInt .u8)))]⟩) (fun a => spec_BytesOf_j1 u a = some r) ?_ ?_
  · rintro x8 h
    change spec_BytesOf_j1 u x8 = some r at h
    unfold spec_BytesOf_j1 at h
    refine Wp.srg [] [] ?_
    refine Runs.alln ?_
    refine Wp.fg ⟨[(2, .own 262145), (3, .t (.bool true))], [], [(262145, .live 5 1 (x8.map (eInt .u8)))]⟩ ?_
    refine Wp.ret ?_
    obtain rfl := Option.some.inj h
    exact RetK [.own 262145, .t (.bool true)] _ [] kr kr (.refl _) .nil
  · refine Wp.block ?_
    refine Wp.loopF (α := Int × (List Int)) (fun a => ⟨[(0, .t (.int .i64 a.1)), (2, .nil), (3, .t (.bool false)), (4, .own 262145)], [], [(262145, .live 5 1 (a.2.map (eInt .u8)))]⟩) (fun k_spec_BytesOf_l2 a => spec_BytesOf_l2 u k_spec_BytesOf_l2 a.1 a.2 = some r) ?_ ?_ u (p0, ([] : List Int)) h (Le.of (mo := []) (mr := [(262145, 589824)]) kr kr kr kr)
    · intro a h; unfold spec_BytesOf_l2 at h; cases h
    · rintro k_spec_BytesOf_l2 ⟨x4, x5⟩ h
      change spec_BytesOf_l2 u (k_spec_BytesOf_l2 + 1) x4 x5 = some r at h
      rw [spec_BytesOf_l2] at h
      refine Wp.seq ?_
      refine Wp.srg [] [] ?_
      refine Runs.alln ?_
      refine Wp.fg ⟨[(0, .t (.int .i64 x4)), (2, .nil), (3, .t (.bool false)), (4, .own 262145), (11, .t (.bool (decide (x4 > 1))))], [], [(262145, .live 5 1 (x5.map (eInt .u8)))]⟩ ?_
      refine Wp.cond2 (b := decide (x4 > 1)) kr (fun hc => ?_) (fun hc => ?_)
      · have h := cond_t h hc
        refine Wp.skip (thenN ?_)
        refine Wp.block ?_
        refine Wp.seq ?_
        refine Wp.srg [] [] ?_
        refine Runs.alln ?_
        refine Wp.fg ⟨[(0, .t (.int .i64 x4)), (2, .nil), (3, .t (.bool false)), (4, .own 262145), (13, .t (.bool (decide (x4 < 256))))], [], [(262145, .live 5 1 (x5.map (eInt .u8)))]⟩ ?_
        refine Wp.cond2 (b := decide (x4 < 256)) kr (fun hc => ?_) (fun hc => ?_)
        · have h := cond_t h hc
          refine Wp.srg [] [] ?_
          refine Runs.alln ?_
          refine Wp.fg ⟨[(0, .t (.int .i64 x4)), (2, .own 917504), (3, .t (.bool false)), (4, .own 262145)], [], [(262145, .live 5 1 (x5.map (eInt .u8))), (917504, .live 5 1 ((([] : List Int)).map (eInt .u8)))]⟩ ?_
          refine Wp.ret ?_
          refine thenR ?_
          refine blkR ?_
          refine thenR ?_
          refine blkR ?_
          refine thenR ?_
          obtain rfl := Option.some.inj h
          exact RetK [.own 917504, .t (.bool false)] _ [] kr kr (.refl _) .nil
        have h := cond_f h hc
        refine Wp.skip (thenN ?_)
        refine Wp.srg [] [] ?_
        refine Runs.batch 5 kr ?_
        obtain ⟨_, e_8, h⟩ := bind_some h
        refine Runs.appT (y := .own 262145) (eInt .u8) 20 1 5 1 1 1179648 ([IntKind.wrap .u8 (bAnd .i64 x4 255)]) x5 rfl rfl rfl rfl kr kr kr kr kr kr (.inl rfl) kr (of_decide_eq_true (chk_some e_8)) kr kr ?_
        refine Runs.alln ?_
        refine Wp.fg ⟨[(0, .t (.int .i64 x4)), (2, .nil), (3, .t (.bool false)), (4, .own 1310720)], [], [(1310720, .live 5 1 ((([IntKind.wrap .u8 (bAnd .i64 x4 255)]) ++ x5).map (eInt .u8)))]⟩ ?_
        refine Wp.rg [] [] ?_
        refine Runs.all kr ?_
        refine blkN ?_
        refine thenN ?_
        exact ⟨(bShr .i64 x4 8, ([IntKind.wrap .u8 (bAnd .i64 x4 255)]) ++ x5), h, Le.of (mo := []) (mr := [(262145, 1310720)]) kr kr kr kr⟩
      have h := cond_f h hc
      refine Wp.exit ?_
      refine thenE ?_
      refine thenE ?_
      refine blkE ?_
      refine thenN ?_
      exact ⟨x5, h, Le.of (mo := []) (mr := []) kr kr kr kr⟩
theorem spec_ManOk_ok (u : Nat) (p0 : Manifest) (r : Bool) (h : spec_ManOk u p0 = some r) : CallOK Tryz.prog 58 [.agg [.t (.int .i64 p0.fGen), .t (.int .i64 p0.fSize), .t (.int .i64 p0.fLen), .t (.sl 2 (p0.fSums.map Sum.enc))]] (.one (.t (.bool r))) [] := by
  unfold spec_ManOk at h
  refine CallOK.of_bodyK (fn := Tryz.f58) (m := false) [.agg ((Manifest.enc p0).map .t)] kr rfl kr kr kr kr kr ?_
  refine Wp.srg [] [] ?_
  refine Runs.alln ?_
  refine Wp.fg ⟨[(1, .obj 1 0), (2, .t (.bool false))], [(1, ((Manifest.enc p0).map .t))], []⟩ ?_
  refine Wp.seq ?_
  refine Wp.srg [] [] ?_
  refine Runs.alln ?_
  refine Wp.fg ⟨[(1, .obj 1 0), (2, .t (.bool false)), (10, .t (.bool (p0.fGen == 0)))], [(1, ((Manifest.enc p0).map .t))], []⟩ ?_
  refine Wp.cond2 (b := p0.fGen == 0) kr (fun hc => ?_) (fun hc => ?_)
  · have h := cond_t h hc
    refine Wp.srg [] [] ?_
    refine Runs.batch 4 kr ?_
    rcases tf (p0.fSize == 0) with hc | hc
    · have h := cond_t h hc
      refine Runs.known 14 (v := true) kr hc ?_
      refine Runs.batch 5 kr ?_
      rcases tf (p0.fLen == 0) with hc | hc
      · have h := cond_t h hc
        refine Runs.known 19 (v := true) kr hc ?_
        refine Runs.batch 2 kr ?_
        refine Runs.lenT (y := .t (.sl 2 (p0.fSums.map Sum.enc))) (e := 69) Sum.enc p0.fSums 2 rfl rfl rfl kr kr kr kr kr ?_
        refine Runs.alln ?_
        refine Wp.fg ⟨[(1, .obj 1 0), (2, .t (.bool (((p0.fSums.length : Int)) == 0)))], [(1, ((Manifest.enc p0).map .t))], []⟩ ?_
        refine Wp.ret ?_
        refine thenR ?_
        obtain rfl := Option.some.inj h
        exact RetK [.t (.bool (((p0.fSums.length : Int)) == 0))] _ [] kr kr (.refl _) .nil
      have h := cond_f h hc
      refine Runs.known 19 (v := false) kr hc ?_
      refine Runs.alln ?_
      refine Wp.fg ⟨[(1, .obj 1 0), (2, .t (.bool false))], [(1, ((Manifest.enc p0).map .t))], []⟩ ?_
      refine Wp.ret ?_
      refine thenR ?_
      obtain rfl := Option.some.inj h
      exact RetK [.t (.bool false)] _ [] kr kr (.refl _) .nil
    have h := cond_f h hc
    refine Runs.known 14 (v := false) kr hc ?_
    refine Runs.alln ?_
    refine Wp.fg ⟨[(1, .obj 1 0), (2, .t (.bool false))], [(1, ((Manifest.enc p0).map .t))], []⟩ ?_
    refine Wp.ret ?_
    refine thenR ?_
    obtain rfl := Option.some.inj h
    exact RetK [.t (.bool false)] _ [] kr kr (.refl _) .nil
  have h := cond_f h hc
  refine Wp.skip (thenN ?_)
  refine Wp.seq ?_
  refine Wp.seqJ (α := Bool × Manifest) (fun a => ⟨[(1, .obj 1 0), (2, .t (.bool false)), (47, .t (.bool a.1))], [(1, ((Manifest.enc a.2).map .t))], []⟩) (fun a => spec_ManOk_j1 u a.1 a.2 = some r) ?_ ?_
  · rintro ⟨x4, p0⟩ h
    change spec_ManOk_j1 u x4 p0 = some r at h
    unfold spec_ManOk_j1 at h
    refine Wp.cond2 (b := x4) kr (fun hc => ?_) (fun hc => ?_)
    · have h := cond_t h hc
      refine Wp.srg [] [] ?_
      refine Runs.alln ?_
      refine Wp.fg ⟨[(1, .obj 1 0), (2, .t (.bool false))], [(1, ((Manifest.enc p0).map .t))], []⟩ ?_
      refine Wp.ret ?_
      refine thenR ?_
      obtain rfl := Option.some.inj h
      exact RetK [.t (.bool false)] _ [] kr kr (.refl _) .nil
    have h := cond_f h hc
    refine Wp.skip (thenN ?_)
    refine Wp.seqJ (α := Unit) (fun a => ⟨[(2, .t (.bool false))], [], []⟩) (fun a => spec_ManOk_j2 u = some r) ?_ ?_
    · rintro ⟨⟩ h
      change spec_ManOk_j2 u = some r at h
      unfold spec_ManOk_j2 at h
      refine Wp.srg [] [] ?_
      refine Runs.alln ?_
      refine Wp.fg ⟨[(2, .t (.bool true))], [], []⟩ ?_
      refine Wp.ret ?_
      obtain rfl := Option.some.inj h
      exact RetK [.t (.bool true)] _ [] kr kr (.refl _) .nil
    · refine Wp.srg [] [] ?_
      refine Runs.alln ?_
      refine Wp.fg ⟨[(1, .obj 1 0), (2, .t (.bool false)), (3, .t (.int .i64 0))], [(1, ((Manifest.enc p0).map .t))], []⟩ ?_
      refine Wp.block ?_
      refine Wp.loopF (α := Int × Manifest) (fun a => ⟨[(1, .obj 1 0), (2, .t (.bool false)), (3, .t (.int .i64 a.1))], [(1, ((Manifest.enc a.2).map .t))], []⟩) (fun k_spec_ManOk_l3 a => spec_ManOk_l3 u k_spec_ManOk_l3 a.1 a.2 = some r) ?_ ?_ u (0, p0) h (Le.of (mo := []) (mr := []) kr kr kr kr)
      · intro a h; unfold spec_ManOk_l3 at h; cases h
      · rintro k_spec_ManOk_l3 ⟨x6, p0⟩ h
        change spec_ManOk_l3 u (k_spec_ManOk_l3 + 1) x6 p0 = some r at h
        rw [spec_ManOk_l3] at h
        refine Wp.seq ?_
        refine Wp.srg [] [] ?_
        refine Runs.batch 3 kr ?_
        refine Runs.lenT (y := .t (.sl 2 (p0.fSums.map Sum.enc))) (e := 69) Sum.enc p0.fSums 2 rfl rfl rfl kr kr kr kr kr ?_
        refine Runs.alln ?_
        refine Wp.fg ⟨[(1, .obj 1 0), (2, .t (.bool false)), (3, .t (.int .i64 x6)), (52, .t (.bool (decide (x6 < ((p0.fSums.length : Int))))))], [(1, ((Manifest.enc p0).map .t))], []⟩ ?_
        refine Wp.cond2 (b := decide (x6 < ((p0.fSums.length : Int)))) kr (fun hc => ?_) (fun hc => ?_)
        · have h := cond_t h hc
          refine Wp.skip (thenN ?_)
          refine Wp.seq ?_
          refine Wp.block ?_
          refine Wp.srg [] [] ?_
          refine Runs.batch 3 kr ?_
          obtain ⟨y8, e_y8, h⟩ := bind_some h
          refine Runs.idxT (e := 69) (kk := .i64) (sz := 2) Sum.enc p0.fSums x6 rfl kr kr kr kr kr kr e_y8 ?_
          refine Runs.batch 2 kr ?_
          obtain ⟨r9, e_r9, h⟩ := bind_some h
          refine Runs.callK false 62 80 [] [.t (.int .i64 y8.fS)] _ _ _ rfl rfl kr kr kr kr kr (spec_BytesOf_ok u y8.fS r9 e_r9) kr ?_
          refine Runs.alln ?_
          refine Wp.fg ⟨[(1, .obj 1 0), (2, .t (.bool false)), (3, .t (.int .i64 x6)), (4, .own 4063232), (5, .t (.bool r9.2))], [(1, ((Manifest.enc p0).map .t))], [(4063232, .live 5 1 (r9.1.map (eInt .u8)))]⟩ ?_
          refine Wp.srg [] [] ?_
          refine Runs.batch 5 kr ?_
          obtain ⟨r10, e_r10, h⟩ := bind_some h
          refine Runs.callK false 71 53 [] [.t (.int .i64 p0.fSize), .t (.int .i64 p0.fLen), .t (.int .i64 x6)] _ _ _ rfl rfl kr kr kr kr kr (spec_SpanOf_ok u p0.fSize p0.fLen x6 r10 e_r10) kr ?_
          refine Runs.alln ?_
          refine Wp.fg ⟨[(1, .obj 1 0), (2, .t (.bool false)), (3, .t (.int .i64 x6)), (4, .own 4063232), (5, .t (.bool r9.2)), (7, .t (.int .i64 r10.2))], [(1, ((Manifest.enc p0).map .t))], [(4063232, .live 5 1 (r9.1.map (eInt .u8)))]⟩ ?_
          refine Wp.seqJ (α := Int × Bool × Manifest) (fun a => ⟨[(1, .obj 1 0), (2, .t (.bool false)), (3, .t (.int .i64 a.1)), (91, .t (.bool a.2.1))], [(1, ((Manifest.enc a.2.2).map .t))], []⟩) (fun a => spec_ManOk_j4 u (fun z0 z1 => spec_ManOk_l3 u k_spec_ManOk_l3 z0 z1) a.1 a.2.1 a.2.2 = some r) ?_ ?_
          · rintro ⟨x6, x13, p0⟩ h
            change spec_ManOk_j4 u (fun z0 z1 => spec_ManOk_l3 u k_spec_ManOk_l3 z0 z1) x6 x13 p0 = some r at h
            unfold spec_ManOk_j4 at h
            refine Wp.cond2 (b := x13) kr (fun hc => ?_) (fun hc => ?_)
            · have h := cond_t h hc
              refine Wp.srg [] [] ?_
              refine Runs.alln ?_
              refine Wp.fg ⟨[(1, .obj 1 0), (2, .t (.bool false)), (3, .t (.int .i64 x6))], [(1, ((Manifest.enc p0).map .t))], []⟩ ?_
              refine Wp.ret ?_
              refine blkR ?_
              refine thenR ?_
              refine thenR ?_
              refine blkR ?_
              refine thenR ?_
              obtain rfl := Option.some.inj h
              exact RetK [.t (.bool false)] _ [] kr kr (.refl _) .nil
            have h := cond_f h hc
            refine Wp.skip ?_
            refine blkN ?_
            refine thenN ?_
            refine Wp.rg [] [] ?_
            refine Runs.alln ?_
            exact ⟨(bAdd .i64 x6 1, p0), h, Le.of (mo := []) (mr := []) kr kr kr kr⟩
          · refine Wp.regionA (pOf []) (rhoOf [(1, .obj 1), (3, .frz), (4, .own 62), (5, .frz), (7, .frz), (74, .frz), (75, .frz), (76, .frz), (77, .own 62), (78, .frz), (79, .frz), (81, .frz), (82, .frz), (83, .own 62), (84, .frz), (85, .obj 1), (86, .frz), (87, .frz), (88, .frz), (89, .frz)]) kr kr ?_
            refine Runs.batch 3 kr ?_
            rcases tf (!r9.2) with hc | hc
            · have h := cond_t h hc
              refine Runs.known 76 (v := true) kr hc ?_
              refine Runs.alln ?_
              exact ⟨(x6, true, p0), h, Le.of (mo := []) (mr := []) kr kr kr kr⟩
            have h := cond_f h hc
            refine Runs.known 76 (v := false) kr hc ?_
            refine Runs.batch 1 kr ?_
            refine Runs.lenT (y := .own 4063232) (e := 5) (eInt .u8) r9.1 1 rfl rfl rfl kr kr kr kr kr ?_
            refine Runs.batch 4 kr ?_
            rcases tf (((r9.1.length : Int)) != r10.2) with hc | hc
            · have h := cond_t h hc
              refine Runs.known 82 (v := true) kr hc ?_
              refine Runs.alln ?_
              exact ⟨(x6, true, p0), h, Le.of (mo := []) (mr := []) kr kr kr kr⟩
            have h := cond_f h hc
            refine Runs.known 82 (v := false) kr hc ?_
            refine Runs.batch 1 kr ?_
            obtain ⟨r11, e_r11, h⟩ := bind_some h
            refine Runs.callBK 84 71 [] [.own 4063232] [.one (.t (.sl 1 (r9.1.map (eInt .u8))))] (.agg [.t (.int .i64 r11.fW), .t (.int .i64 r11.fS)]) rfl rfl kr kr kr kr kr (spec_SumOf_ok u r9.1 r11 e_r11) (by simp [V.plain, V.plains, C.plain, T.sc]) kr ?_
            refine Runs.batch 3 kr ?_
            obtain ⟨y12, e_y12, h⟩ := bind_some h
            refine Runs.idxT (e := 69) (kk := .i64) (sz := 2) Sum.enc p0.fSums x6 rfl kr kr kr kr kr kr e_y12 ?_
            refine Runs.alln ?_
            exact ⟨(x6, !([r11.fW, r11.fS] == [y12.fW, y12.fS]), p0), h, Le.of (mo := []) (mr := []) kr kr kr kr⟩
        have h := cond_f h hc
        refine Wp.exit ?_
        refine thenE ?_
        refine thenE ?_
        refine blkE ?_
        refine thenN ?_
        exact ⟨(), h, Le.of (mo := []) (mr := []) kr kr kr kr⟩
  · refine Wp.regionA (pOf []) (rhoOf [(1, .obj 1), (25, .obj 1), (26, .frz), (27, .frz), (28, .frz), (29, .frz), (30, .obj 1), (31, .frz), (32, .obj 1), (33, .frz), (34, .frz), (36, .frz), (37, .frz), (38, .obj 1), (39, .frz), (40, .frz), (41, .obj 1), (42, .frz), (43, .obj 1), (44, .frz), (45, .frz)]) kr kr ?_
    refine Runs.batch 2 kr ?_
    obtain ⟨r1, e_r1, h⟩ := bind_some h
    refine Runs.callK false 27 49 [] [.t (.int .i64 p0.fGen), .t (.int .i64 1), .t (.int .i64 1000000)] _ _ _ rfl rfl kr kr kr kr kr (spec_l1In_ok u p0.fGen 1 1000000 r1 e_r1) kr ?_
    refine Runs.batch 2 kr ?_
    rcases tf (!r1) with hc | hc
    · have h := cond_t h hc
      refine Runs.known 29 (v := true) kr hc ?_
      refine Runs.alln ?_
      exact ⟨(true, p0), h, Le.of (mo := []) (mr := []) kr kr kr kr⟩
    have h := cond_f h hc
    refine Runs.known 29 (v := false) kr hc ?_
    refine Runs.batch 4 kr ?_
    obtain ⟨r2, e_r2, h⟩ := bind_some h
    refine Runs.callK false 34 31 [] [.t (.int .i64 p0.fSize), .t (.int .i64 p0.fLen)] _ _ _ rfl rfl kr kr kr kr kr (spec_SizeOk_ok u p0.fSize p0.fLen r2 e_r2) kr ?_
    refine Runs.batch 3 kr ?_
    rcases tf (!r2) with hc | hc
    · have h := cond_t h hc
      refine Runs.known 37 (v := true) kr hc ?_
      refine Runs.alln ?_
      exact ⟨(true, p0), h, Le.of (mo := []) (mr := []) kr kr kr kr⟩
    have h := cond_f h hc
    refine Runs.known 37 (v := false) kr hc ?_
    refine Runs.batch 2 kr ?_
    refine Runs.lenT (y := .t (.sl 2 (p0.fSums.map Sum.enc))) (e := 69) Sum.enc p0.fSums 2 rfl rfl rfl kr kr kr kr kr ?_
    refine Runs.batch 4 kr ?_
    obtain ⟨r3, e_r3, h⟩ := bind_some h
    refine Runs.callK false 45 69 [] [.t (.int .i64 p0.fSize), .t (.int .i64 p0.fLen)] _ _ _ rfl rfl kr kr kr kr kr (spec_Blocks_ok u p0.fSize p0.fLen r3 e_r3) kr ?_
    refine Runs.alln ?_
    exact ⟨(((p0.fSums.length : Int)) != r3, p0), h, Le.of (mo := []) (mr := []) kr kr kr kr⟩
theorem spec_PutVar_okd (u : Nat) (p0 : List Int) (p1 : Int) (r : (List Int)) (h : spec_PutVar u p0 p1 = some r) : DOK Tryz.prog 59 [.one (.t (.sl 1 (p0.map (eInt .u8)))), .one (.t (.int .i64 p1))] (.one (.ow 5 1 (r.map (eInt .u8)))) := by
  unfold spec_PutVar at h
  refine DOK.of_bodyK (fn := Tryz.f59) (m := true) kr rfl kr kr kr ?_
  refine Wp.srg [] [] ?_
  refine Runs.alln ?_
  refine Wp.fg ⟨[(0, .ext false (.sl 1 (p0.map (eInt .u8)))), (1, .t (.int .i64 p1)), (4, .nil)], [], []⟩ ?_
  refine Wp.srg [] [] ?_
  refine Runs.batch 2 kr ?_
  obtain ⟨_, e_1, h⟩ := bind_some h
  refine Runs.appT (y := .ext false (.sl 1 (p0.map (eInt .u8)))) (eInt .u8) 8 1 5 1 1 393216 (([] : List Int)) p0 rfl rfl rfl rfl kr kr kr kr kr (rows_extI _ _ _) (.inl rfl) kr (of_decide_eq_true (chk_some e_1)) kr kr ?_
  refine Runs.alln ?_
  refine Wp.fg ⟨[(1, .t (.int .i64 p1)), (4, .nil), (5, .own 524288)], [], [(524288, .live 5 1 (((([] : List Int)) ++ p0).map (eInt .u8)))]⟩ ?_
  refine Wp.seq ?_
  refine Wp.srg [] [] ?_
  refine Runs.batch 1 kr ?_
  obtain ⟨r2, e_r2, h⟩ := bind_some h
  refine Runs.callK false 10 49 [] [.t (.int .i64 p1), .t (.int .i64 0), .t (.int .i64 1000000000000)] _ _ _ rfl rfl kr kr kr kr kr (spec_l1In_ok u p1 0 1000000000000 r2 e_r2) kr ?_
  refine Runs.alln ?_
  refine Wp.fg ⟨[(1, .t (.int .i64 p1)), (4, .nil), (5, .own 524288), (11, .t (.bool (!r2)))], [], [(524288, .live 5 1 (((([] : List Int)) ++ p0).map (eInt .u8)))]⟩ ?_
  refine Wp.cond2 (b := !r2) kr (fun hc => ?_) (fun hc => ?_)
  · have h := cond_t h hc
    refine Wp.srg [] [] ?_
    refine Runs.alln ?_
    refine Wp.fg ⟨[(1, .t (.int .i64 p1)), (4, .own 524288), (5, .own 524288)], [], [(524288, .live 5 1 (((([] : List Int)) ++ p0).map (eInt .u8)))]⟩ ?_
    refine Wp.ret ?_
    refine thenR ?_
    obtain rfl := Option.some.inj h
    exact RetK [.own 524288] _ [] kr kr (.refl _) .nil
  have h := cond_f h hc
  refine Wp.skip (thenN ?_)
  refine Wp.seqJ (α := Int × (List Int)) (fun a => ⟨[(1, .t (.int .i64 a.1)), (4, .nil), (5, .own 327681)], [], [(327681, .live 5 1 (a.2.map (eInt .u8)))]⟩) (fun a => spec_PutVar_j1 u a.1 a.2 = some r) ?_ ?_
  · rintro ⟨x9, x10⟩ h
    change spec_PutVar_j1 u x9 x10 = some r at h
    unfold spec_PutVar_j1 at h
    refine Wp.srg [] [] ?_
    refine Runs.batch 4 kr ?_
    obtain ⟨_, e_11, h⟩ := bind_some h
    refine Runs.appT (y := .own 1769472) (eInt .u8) 28 1 5 1 1 327681 x10 ([IntKind.wrap .u8 x9]) rfl rfl rfl rfl kr kr kr kr kr kr (.inl rfl) kr (of_decide_eq_true (chk_some e_11)) kr kr ?_
    refine Runs.alln ?_
    refine Wp.fg ⟨[(4, .own 1835008)], [], [(1835008, .live 5 1 ((x10 ++ ([IntKind.wrap .u8 x9])).map (eInt .u8)))]⟩ ?_
    refine Wp.ret ?_
    obtain rfl := Option.some.inj h
    exact RetK [.own 1835008] _ [] kr kr (.refl _) .nil
  · refine Wp.block ?_
    refine Wp.loopF (α := Int × (List Int)) (fun a => ⟨[(1, .t (.int .i64 a.1)), (4, .nil), (5, .own 327681)], [], [(327681, .live 5 1 (a.2.map (eInt .u8)))]⟩) (fun k_spec_PutVar_l2 a => spec_PutVar_l2 u k_spec_PutVar_l2 a.1 a.2 = some r) ?_ ?_ u (p1, (([] : List Int)) ++ p0) h (Le.of (mo := []) (mr := [(327681, 524288)]) kr kr kr kr)
    · intro a h; unfold spec_PutVar_l2 at h; cases h
    · rintro k_spec_PutVar_l2 ⟨x5, x6⟩ h
      change spec_PutVar_l2 u (k_spec_PutVar_l2 + 1) x5 x6 = some r at h
      rw [spec_PutVar_l2] at h
      refine Wp.seq ?_
      refine Wp.srg [] [] ?_
      refine Runs.alln ?_
      refine Wp.fg ⟨[(1, .t (.int .i64 x5)), (4, .nil), (5, .own 327681), (14, .t (.bool (decide (x5 > 127))))], [], [(327681, .live 5 1 (x6.map (eInt .u8)))]⟩ ?_
      refine Wp.cond2 (b := decide (x5 > 127)) kr (fun hc => ?_) (fun hc => ?_)
      · have h := cond_t h hc
        refine Wp.skip (thenN ?_)
        refine Wp.block ?_
        refine Wp.srg [] [] ?_
        refine Runs.batch 6 kr ?_
        obtain ⟨_, e_9, h⟩ := bind_some h
        refine Runs.appT (y := .own 1310720) (eInt .u8) 21 1 5 1 1 327681 x6 ([IntKind.wrap .u8 (bOr .i64 (bAnd .i64 x5 127) 128)]) rfl rfl rfl rfl kr kr kr kr kr kr (.inl rfl) kr (of_decide_eq_true (chk_some e_9)) kr kr ?_
        refine Runs.alln ?_
        refine Wp.fg ⟨[(1, .t (.int .i64 x5)), (4, .nil), (5, .own 1376256)], [], [(1376256, .live 5 1 ((x6 ++ ([IntKind.wrap .u8 (bOr .i64 (bAnd .i64 x5 127) 128)])).map (eInt .u8)))]⟩ ?_
        refine Wp.rg [] [] ?_
        refine Runs.all kr ?_
        refine blkN ?_
        refine thenN ?_
        exact ⟨(bShr .i64 x5 7, x6 ++ ([IntKind.wrap .u8 (bOr .i64 (bAnd .i64 x5 127) 128)])), h, Le.of (mo := []) (mr := [(327681, 1376256)]) kr kr kr kr⟩
      have h := cond_f h hc
      refine Wp.exit ?_
      refine thenE ?_
      refine thenE ?_
      refine blkE ?_
      refine thenN ?_
      exact ⟨(x5, x6), h, Le.of (mo := []) (mr := []) kr kr kr kr⟩
theorem spec_l6PutSum_ok (u : Nat) (p0 : List Int) (p1 : Int) (r : (List Int)) (h : spec_l6PutSum u p0 p1 = some r) : CallOK Tryz.prog 60 [.one (.ow 5 1 (p0.map (eInt .u8))), .one (.t (.int .i64 p1))] (.one (.ow 5 1 (r.map (eInt .u8)))) [] := by
  unfold spec_l6PutSum at h
  refine CallOK.of_bodyK (fn := Tryz.f60) (m := true) [.own 58982400, .t (.int .i64 p1)] kr rfl kr kr kr kr kr ?_
  refine Wp.srg [] [] ?_
  refine Runs.alln ?_
  refine Wp.fg ⟨[(0, .own 58982400), (1, .t (.int .i64 p1)), (4, .nil)], [], [(58982400, .live 5 1 (p0.map (eInt .u8)))]⟩ ?_
  refine Wp.seqJ (α := (List Int) × Int) (fun a => ⟨[(0, .own 1), (1, .t (.int .i64 a.2)), (4, .nil)], [], [(1, .live 5 1 (a.1.map (eInt .u8)))]⟩) (fun a => spec_l6PutSum_j1 u a.1 a.2 = some r) ?_ ?_
  · rintro ⟨x7, x8⟩ h
    change spec_l6PutSum_j1 u x7 x8 = some r at h
    unfold spec_l6PutSum_j1 at h
    refine Wp.srg [] [] ?_
    refine Runs.batch 4 kr ?_
    obtain ⟨_, e_9, h⟩ := bind_some h
    refine Runs.appT (y := .own 1245184) (eInt .u8) 20 1 5 1 1 1 x7 ([IntKind.wrap .u8 x8]) rfl rfl rfl rfl kr kr kr kr kr kr (.inl rfl) kr (of_decide_eq_true (chk_some e_9)) kr kr ?_
    refine Runs.alln ?_
    refine Wp.fg ⟨[(4, .own 1310720)], [], [(1310720, .live 5 1 ((x7 ++ ([IntKind.wrap .u8 x8])).map (eInt .u8)))]⟩ ?_
    refine Wp.ret ?_
    obtain rfl := Option.some.inj h
    exact RetK [.own 1310720] _ [] kr kr (.refl _) .nil
  · refine Wp.block ?_
    refine Wp.loopF (α := (List Int) × Int) (fun a => ⟨[(0, .own 1), (1, .t (.int .i64 a.2)), (4, .nil)], [], [(1, .live 5 1 (a.1.map (eInt .u8)))]⟩) (fun k_spec_l6PutSum_l2 a => spec_l6PutSum_l2 u k_spec_l6PutSum_l2 a.1 a.2 = some r) ?_ ?_ u (p0, p1) h (Le.of (mo := []) (mr := [(1, 58982400)]) kr kr kr kr)
    · intro a h; unfold spec_l6PutSum_l2 at h; cases h
    · rintro k_spec_l6PutSum_l2 ⟨x3, x4⟩ h
      change spec_l6PutSum_l2 u (k_spec_l6PutSum_l2 + 1) x3 x4 = some r at h
      rw [spec_l6PutSum_l2] at h
      refine Wp.seq ?_
      refine Wp.srg [] [] ?_
      refine Runs.alln ?_
      refine Wp.fg ⟨[(0, .own 1), (1, .t (.int .i64 x4)), (4, .nil), (6, .t (.bool (decide (x4 > 127))))], [], [(1, .live 5 1 (x3.map (eInt .u8)))]⟩ ?_
      refine Wp.cond2 (b := decide (x4 > 127)) kr (fun hc => ?_) (fun hc => ?_)
      · have h := cond_t h hc
        refine Wp.skip (thenN ?_)
        refine Wp.block ?_
        refine Wp.srg [] [] ?_
        refine Runs.batch 6 kr ?_
        obtain ⟨_, e_7, h⟩ := bind_some h
        refine Runs.appT (y := .own 786432) (eInt .u8) 13 1 5 1 1 1 x3 ([IntKind.wrap .u8 (bOr .i64 (bAnd .i64 x4 127) 128)]) rfl rfl rfl rfl kr kr kr kr kr kr (.inl rfl) kr (of_decide_eq_true (chk_some e_7)) kr kr ?_
        refine Runs.alln ?_
        refine Wp.fg ⟨[(0, .own 851968), (1, .t (.int .i64 x4)), (4, .nil)], [], [(851968, .live 5 1 ((x3 ++ ([IntKind.wrap .u8 (bOr .i64 (bAnd .i64 x4 127) 128)])).map (eInt .u8)))]⟩ ?_
        refine Wp.rg [] [] ?_
        refine Runs.all kr ?_
        refine blkN ?_
        refine thenN ?_
        exact ⟨(x3 ++ ([IntKind.wrap .u8 (bOr .i64 (bAnd .i64 x4 127) 128)]), bShr .i64 x4 7), h, Le.of (mo := []) (mr := [(1, 851968)]) kr kr kr kr⟩
      have h := cond_f h hc
      refine Wp.exit ?_
      refine thenE ?_
      refine thenE ?_
      refine blkE ?_
      refine thenN ?_
      exact ⟨(x3, x4), h, Le.of (mo := []) (mr := []) kr kr kr kr⟩
theorem spec_PutMan_okd (u : Nat) (p0 : List Int) (p1 : Manifest) (r : (List Int)) (h : spec_PutMan u p0 p1 = some r) : DOK Tryz.prog 36 [.one (.t (.sl 1 (p0.map (eInt .u8)))), .agg [.t (.int .i64 p1.fGen), .t (.int .i64 p1.fSize), .t (.int .i64 p1.fLen), .t (.sl 2 (p1.fSums.map Sum.enc))]] (.one (.ow 5 1 (r.map (eInt .u8)))) := by
  unfold spec_PutMan at h
  refine DOK.of_bodyK (fn := Tryz.f36) (m := true) kr rfl kr kr kr ?_
  refine Wp.srg [] [] ?_
  refine Runs.alln ?_
  refine Wp.fg ⟨[(0, .ext false (.sl 1 (p0.map (eInt .u8)))), (3, .obj 3 0), (4, .nil)], [(3, [.t (.int .i64 p1.fGen), .t (.int .i64 p1.fSize), .t (.int .i64 p1.fLen), .ext false (.sl 2 (p1.fSums.map Sum.enc))])], []⟩ ?_
  refine Wp.srg [] [] ?_
  refine Runs.batch 2 kr ?_
  obtain ⟨_, e_1, h⟩ := bind_some h
  refine Runs.appT (y := .ext false (.sl 1 (p0.map (eInt .u8)))) (eInt .u8) 9 1 5 1 1 458752 (([] : List Int)) p0 rfl rfl rfl rfl kr kr kr kr kr (rows_extI _ _ _) (.inl rfl) kr (of_decide_eq_true (chk_some e_1)) kr kr ?_
  refine Runs.alln ?_
  refine Wp.fg ⟨[(3, .obj 3 0), (4, .nil), (5, .own 589824)], [(3, [.t (.int .i64 p1.fGen), .t (.int .i64 p1.fSize), .t (.int .i64 p1.fLen), .ext false (.sl 2 (p1.fSums.map Sum.enc))])], [(589824, .live 5 1 (((([] : List Int)) ++ p0).map (eInt .u8)))]⟩ ?_
  refine Wp.seq ?_
  refine Wp.srg [] [] ?_
  refine Runs.batch 1 kr ?_
  obtain ⟨r2, e_r2, h⟩ := bind_some h
  refine Runs.callBK 11 58 [] [.agg [.t (.int .i64 p1.fGen), .t (.int .i64 p1.fSize), .t (.int .i64 p1.fLen), .ext false (.sl 2 (p1.fSums.map Sum.enc))]] [.agg ((Manifest.enc p1).map .t)] (.one (.t (.bool r2))) rfl rfl kr kr kr kr kr (spec_ManOk_ok u p1 r2 e_r2) (by simp [V.plain, V.plains, C.plain, T.sc]) kr ?_
  refine Runs.alln ?_
  refine Wp.fg ⟨[(3, .obj 3 0), (4, .nil), (5, .own 589824), (12, .t (.bool (!r2)))], [(3, [.t (.int .i64 p1.fGen), .t (.int .i64 p1.fSize), .t (.int .i64 p1.fLen), .ext false (.sl 2 (p1.fSums.map Sum.enc))])], [(589824, .live 5 1 (((([] : List Int)) ++ p0).map (eInt .u8)))]⟩ ?_
  refine Wp.cond2 (b := !r2) kr (fun hc => ?_) (fun hc => ?_)
  · have h := cond_t h hc
    refine Wp.srg [] [] ?_
    refine Runs.alln ?_
    refine Wp.fg ⟨[(3, .obj 3 0), (4, .own 589824), (5, .own 589824)], [(3, [.t (.int .i64 p1.fGen), .t (.int .i64 p1.fSize), .t (.int .i64 p1.fLen), .ext false (.sl 2 (p1.fSums.map Sum.enc))])], [(589824, .live 5 1 (((([] : List Int)) ++ p0).map (eInt .u8)))]⟩ ?_
    refine Wp.ret ?_
    refine thenR ?_
    obtain rfl := Option.some.inj h
    exact RetK [.own 589824] _ [] kr kr (.refl _) .nil
  have h := cond_f h hc
  refine Wp.skip (thenN ?_)
  refine Wp.seq ?_
  refine Wp.regionA (pOf []) (rhoOf [(3, .obj 3), (5, .own 9), (14, .own 9), (15, .obj 3), (16, .frz), (17, .own 17), (18, .obj 3), (19, .frz), (20, .own 20), (21, .obj 3), (22, .frz), (23, .own 23)]) kr kr ?_
  refine Runs.batch 3 kr ?_
  obtain ⟨r3, e_r3, h⟩ := bind_some h
  refine Runs.callDK 17 59 [] [.own 589824, .t (.int .i64 p1.fGen)] [.one (.t (.sl 1 (((([] : List Int)) ++ p0).map (eInt .u8)))), .one (.t (.int .i64 p1.fGen))] (.one (.ow 5 1 (r3.map (eInt .u8)))) rfl rfl kr kr kr kr kr (spec_PutVar_okd u ((([] : List Int)) ++ p0) p1.fGen r3 e_r3) kr ?_
  refine Runs.batch 2 kr ?_
  obtain ⟨r4, e_r4, h⟩ := bind_some h
  refine Runs.callDK 20 59 [] [.own 1114112, .t (.int .i64 p1.fSize)] [.one (.t (.sl 1 (r3.map (eInt .u8)))), .one (.t (.int .i64 p1.fSize))] (.one (.ow 5 1 (r4.map (eInt .u8)))) rfl rfl kr kr kr kr kr (spec_PutVar_okd u r3 p1.fSize r4 e_r4) kr ?_
  refine Runs.batch 2 kr ?_
  obtain ⟨r5, e_r5, h⟩ := bind_some h
  refine Runs.callDK 23 59 [] [.own 1310720, .t (.int .i64 p1.fLen)] [.one (.t (.sl 1 (r4.map (eInt .u8)))), .one (.t (.int .i64 p1.fLen))] (.one (.ow 5 1 (r5.map (eInt .u8)))) rfl rfl kr kr kr kr kr (spec_PutVar_okd u r4 p1.fLen r5 e_r5) kr ?_
  refine Runs.alln ?_
  refine Wp.fg ⟨[(3, .obj 3 0), (4, .nil), (5, .own 1507328)], [(3, [.t (.int .i64 p1.fGen), .t (.int .i64 p1.fSize), .t (.int .i64 p1.fLen), .ext false (.sl 2 (p1.fSums.map Sum.enc))])], [(1507328, .live 5 1 (r5.map (eInt .u8)))]⟩ ?_
  refine Wp.seqJ (α := (List Int)) (fun a => ⟨[(4, .nil), (5, .own 327681)], [], [(327681, .live 5 1 (a.map (eInt .u8)))]⟩) (fun a => spec_PutMan_j1 u a = some r) ?_ ?_
  · rintro x14 h
    change spec_PutMan_j1 u x14 = some r at h
    unfold spec_PutMan_j1 at h
    refine Wp.srg [] [] ?_
    refine Runs.alln ?_
    refine Wp.fg ⟨[(4, .own 327681)], [], [(327681, .live 5 1 (x14.map (eInt .u8)))]⟩ ?_
    refine Wp.ret ?_
    obtain rfl := Option.some.inj h
    exact RetK [.own 327681] _ [] kr kr (.refl _) .nil
  · refine Wp.srg [] [] ?_
    refine Runs.alln ?_
    refine Wp.fg ⟨[(3, .obj 3 0), (4, .nil), (5, .own 1507328), (6, .t (.int .i64 0))], [(3, [.t (.int .i64 p1.fGen), .t (.int .i64 p1.fSize), .t (.int .i64 p1.fLen), .ext false (.sl 2 (p1.fSums.map Sum.enc))])], [(1507328, .live 5 1 (r5.map (eInt .u8)))]⟩ ?_
    refine Wp.block ?_
    refine Wp.loopF (α := (List Int) × Int × Manifest) (fun a => ⟨[(3, .obj 3 0), (4, .nil), (5, .own 327681), (6, .t (.int .i64 a.2.1))], [(3, [.t (.int .i64 a.2.2.fGen), .t (.int .i64 a.2.2.fSize), .t (.int .i64 a.2.2.fLen), .ext false (.sl 2 (a.2.2.fSums.map Sum.enc))])], [(327681, .live 5 1 (a.1.map (eInt .u8)))]⟩) (fun k_spec_PutMan_l2 a => spec_PutMan_l2 u k_spec_PutMan_l2 a.1 a.2.1 a.2.2 = some r) ?_ ?_ u (r5, 0, p1) h (Le.of (mo := []) (mr := [(327681, 1507328)]) kr kr kr kr)
    · intro a h; unfold spec_PutMan_l2 at h; cases h
    · rintro k_spec_PutMan_l2 ⟨x8, x9, p1⟩ h
      change spec_PutMan_l2 u (k_spec_PutMan_l2 + 1) x8 x9 p1 = some r at h
      rw [spec_PutMan_l2] at h
      refine Wp.seq ?_
      refine Wp.srg [] [] ?_
      refine Runs.batch 3 kr ?_
      refine Runs.lenX (e := 69) Sum.enc p1.fSums false 2 rfl rfl rfl kr kr kr kr ?_
      refine Runs.alln ?_
      refine Wp.fg ⟨[(3, .obj 3 0), (4, .nil), (5, .own 327681), (6, .t (.int .i64 x9)), (28, .t (.bool (decide (x9 < ((p1.fSums.length : Int))))))], [(3, [.t (.int .i64 p1.fGen), .t (.int .i64 p1.fSize), .t (.int .i64 p1.fLen), .ext false (.sl 2 (p1.fSums.map Sum.enc))])], [(327681, .live 5 1 (x8.map (eInt .u8)))]⟩ ?_
      refine Wp.cond2 (b := decide (x9 < ((p1.fSums.length : Int)))) kr (fun hc => ?_) (fun hc => ?_)
      · have h := cond_t h hc
        refine Wp.skip (thenN ?_)
        refine Wp.seq ?_
        refine Wp.block ?_
        refine Wp.rg [] [] ?_
        refine Runs.batch 4 kr ?_
        obtain ⟨y12, e_y12, h⟩ := bind_some h
        refine Runs.idxX (e := 69) (kk := .i64) (sz := 2) Sum.enc p1.fSums x9 false rfl kr kr kr kr kr kr e_y12 ?_
        refine Runs.batch 2 kr ?_
        obtain ⟨r13, e_r13, h⟩ := bind_some h
        refine Runs.callK true 38 60 [] [.own 327681, .t (.int .i64 y12.fS)] _ _ _ rfl rfl kr kr kr kr kr (spec_l6PutSum_ok u x8 y12.fS r13 e_r13) kr ?_
        refine Runs.all kr ?_
        refine blkN ?_
        refine thenN ?_
        refine Wp.rg [] [] ?_
        refine Runs.alln ?_
        exact ⟨(r13, bAdd .i64 x9 1, p1), h, Le.of (mo := []) (mr := [(327681, 2490368)]) kr kr kr kr⟩
      have h := cond_f h hc
      refine Wp.exit ?_
      refine thenE ?_
      refine thenE ?_
      refine blkE ?_
      refine thenN ?_
      exact ⟨x8, h, Le.of (mo := []) (mr := []) kr kr kr kr⟩
end Go.Tm
