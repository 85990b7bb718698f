/- The functions as they are translated do what the pure functions say (printed). -/
import Derived.Test.YtdgkjbcglhekoaaGreatCLateInK1
import Derived.Test.YtdgkjbcglhekoaaGreatTm43
import Derived.Test.YtdgkjbcglhekoaaGreatProg
set_option maxRecDepth 100000
set_option maxHeartbeats 1000000
set_option linter.unusedVariables false
set_option linter.unusedSimpArgs false
namespace Go.Tm
open Go.Proofs
theorem slices_DeleteFunc___int_int__impl_LateIn_1_ok (u : Nat) (p0 : List Int) (p1_0 : World) (r : (List Int)) (h : slices_DeleteFunc___int_int__impl_LateIn_1 u p0 p1_0 = some r) : CallOK Tryz.prog 87 [.one (.ow 3 1 (p0.map (eInt .i64))), .clo 88 [.fptr [.int .i64 p1_0.fC.fSize, .int .i64 p1_0.fC.fWindow, .int .i64 p1_0.fC.fSuspect, .int .i64 p1_0.fC.fForget, .sl 1 (p1_0.fT.fUp.map (eInt .i64)), .sl 1 (p1_0.fNew.map (eInt .u8)), .sl 1 (p1_0.fOld.map Image.enc), .sl 12 (p1_0.fN.map Node.enc), .sl 6 (p1_0.fD.map Disk.enc), .sl 3 (p1_0.fNet.map Packet.enc), .sl 3 (p1_0.fLog.map Sent.enc), .int .i64 p1_0.fLost]]] (.one (.ow 3 1 (r.map (eInt .i64)))) [] := by
  unfold slices_DeleteFunc___int_int__impl_LateIn_1 at h
  refine CallOK.of_bodyK (fn := Tryz.f87) (m := true) [.own 58982400, .clo 88 [.fadr (World.enc p1_0)]] kr rfl kr kr kr kr kr ?_
  refine Wp.srg [] [] ?_
  refine Runs.alln ?_
  refine Wp.fg ⟨[(0, .own 58982400), (1, .clo 88 [.fadr (World.enc p1_0)]), (4, .nil)], [], [(58982400, .live 3 1 (p0.map (eInt .i64)))]⟩ ?_
  refine Wp.srg [] [] ?_
  refine Runs.batch 2 kr ?_
  obtain ⟨r1, e_r1, h⟩ := bind_some h
  refine Runs.callBK 10 114 [] [.own 58982400, .clo 88 [.fadr (World.enc p1_0)]] [.one (.t (.sl 1 (p0.map (eInt .i64)))), .clo 88 [.fptr (World.enc p1_0)]] (.one (.t (.int .i64 r1))) rfl rfl kr kr kr kr kr (slices_IndexFunc___int_int__impl_LateIn_1_ok u p0 p1_0 r1 e_r1) (by simp [V.plain, V.plains, C.plain, T.sc]) kr ?_
  refine Runs.alln ?_
  refine Wp.fg ⟨[(0, .own 58982400), (1, .clo 88 [.fadr (World.enc p1_0)]), (4, .nil), (5, .t (.int .i64 r1))], [], [(58982400, .live 3 1 (p0.map (eInt .i64)))]⟩ ?_
  refine Wp.seq ?_
  refine Wp.srg [] [] ?_
  refine Runs.alln ?_
  refine Wp.fg ⟨[(0, .own 58982400), (1, .clo 88 [.fadr (World.enc p1_0)]), (4, .nil), (5, .t (.int .i64 r1)), (12, .t (.bool (r1 == (-1))))], [], [(58982400, .live 3 1 (p0.map (eInt .i64)))]⟩ ?_
  refine Wp.cond2 (b := r1 == (-1)) kr (fun hc => ?_) (fun hc => ?_)
  · have h := cond_t h hc
    refine Wp.srg [] [] ?_
    refine Runs.alln ?_
    refine Wp.fg ⟨[(0, .own 58982400), (1, .clo 88 [.fadr (World.enc p1_0)]), (4, .own 58982400), (5, .t (.int .i64 r1))], [], [(58982400, .live 3 1 (p0.map (eInt .i64)))]⟩ ?_
    refine Wp.ret ?_
    refine thenR ?_
    obtain rfl := Option.some.inj h
    exact RetK [.own 58982400] _ [] kr kr (.refl _) .nil
  have h := cond_f h hc
  refine Wp.skip (thenN ?_)
  refine Wp.seqJ (α := (List Int) × Int) (fun a => ⟨[(0, .own 1), (4, .nil), (5, .t (.int .i64 a.2))], [], [(1, .live 3 1 (a.1.map (eInt .i64)))]⟩) (fun a => slices_DeleteFunc___int_int__impl_LateIn_1_j1 u a.1 a.2 = some r) ?_ ?_
  · rintro ⟨x16, x17⟩ h
    change slices_DeleteFunc___int_int__impl_LateIn_1_j1 u x16 x17 = some r at h
    unfold slices_DeleteFunc___int_int__impl_LateIn_1_j1 at h
    refine Wp.srg [] [(38, .win 0)] ?_
    refine Runs.batch 2 kr ?_
    obtain ⟨_, e_18, h⟩ := bind_some h
    refine Runs.subO (e := 3) (e' := 3) (alo := (some (.t (.int .i64 x17)))) (eInt .i64) x16 1 1 x17 rfl kr kr kr kr kr kr kr kr kr (chk_some e_18) ?_
    refine Runs.clearO (e := 3) (e' := 3) (eInt .i64) x16 0 (.int .i64 0) 1 (Int.toNat x17) rfl rfl rfl kr kr kr kr kr kr kr rfl (sub_le (chk_some e_18)) ?_
    refine Runs.done ?_
    refine thenN ?_
    refine Wp.fg ⟨[(0, .own 1), (4, .nil), (5, .t (.int .i64 x17))], [], [(1, .live 3 1 ((x16.take (Int.toNat x17) ++ List.replicate (x16.length - Int.toNat x17) 0).map (eInt .i64)))]⟩ ?_
    refine Wp.srg [] [(41, .own 41)] ?_
    refine Runs.batch 2 kr ?_
    obtain ⟨_, e_19, h⟩ := bind_some h
    refine Runs.truncO (e := 3) (e' := 3) (kk := .i64) (eInt .i64) (x16.take (Int.toNat x17) ++ List.replicate (x16.length - Int.toNat x17) 0) 41 1 1 x17 rfl rfl kr kr kr kr kr kr kr kr kr kr kr (chk_some e_19) ?_
    refine Runs.alln ?_
    refine Wp.fg ⟨[(4, .own 2686976)], [], [(2686976, .live 3 1 ((((x16.take (Int.toNat x17) ++ List.replicate (x16.length - Int.toNat x17) 0).take (Int.toNat x17)).drop (Int.toNat 0)).map (eInt .i64)))]⟩ ?_
    refine Wp.ret ?_
    obtain rfl := Option.some.inj h
    exact RetK [.own 2686976] _ [] kr kr (.refl _) .nil
  · refine Wp.srg [] [] ?_
    refine Runs.alln ?_
    refine Wp.fg ⟨[(0, .own 58982400), (1, .clo 88 [.fadr (World.enc p1_0)]), (4, .nil), (5, .t (.int .i64 r1)), (6, .t (.int .i64 (bAdd .i64 r1 1)))], [], [(58982400, .live 3 1 (p0.map (eInt .i64)))]⟩ ?_
    refine Wp.block ?_
    refine Wp.loopF (α := (List Int) × World × Int × Int) (fun a => ⟨[(0, .own 1), (1, .clo 88 [.fadr (World.enc a.2.1)]), (4, .nil), (5, .t (.int .i64 a.2.2.1)), (6, .t (.int .i64 a.2.2.2))], [], [(1, .live 3 1 (a.1.map (eInt .i64)))]⟩) (fun k_slices_DeleteFunc___int_int__impl_LateIn_1_l2 a => slices_DeleteFunc___int_int__impl_LateIn_1_l2 u k_slices_DeleteFunc___int_int__impl_LateIn_1_l2 a.1 a.2.1 a.2.2.1 a.2.2.2 = some r) ?_ ?_ u (p0, p1_0, r1, bAdd .i64 r1 1) h (Le.of (mo := []) (mr := [(1, 58982400)]) kr kr kr kr)
    · intro a h; unfold slices_DeleteFunc___int_int__impl_LateIn_1_l2 at h; cases h
    · rintro k_slices_DeleteFunc___int_int__impl_LateIn_1_l2 ⟨x5, p1_0, x6, x7⟩ h
      change slices_DeleteFunc___int_int__impl_LateIn_1_l2 u (k_slices_DeleteFunc___int_int__impl_LateIn_1_l2 + 1) x5 p1_0 x6 x7 = some r at h
      rw [slices_DeleteFunc___int_int__impl_LateIn_1_l2] at h
      refine Wp.seq ?_
      refine Wp.srg [] [] ?_
      refine Runs.batch 2 kr ?_
      refine Runs.lenT (y := .own 1) (e := 3) (eInt .i64) x5 1 rfl rfl rfl kr kr kr kr kr ?_
      refine Runs.alln ?_
      refine Wp.fg ⟨[(0, .own 1), (1, .clo 88 [.fadr (World.enc p1_0)]), (4, .nil), (5, .t (.int .i64 x6)), (6, .t (.int .i64 x7)), (19, .t (.bool (decide (x7 < ((x5.length : Int))))))], [], [(1, .live 3 1 (x5.map (eInt .i64)))]⟩ ?_
      refine Wp.cond2 (b := decide (x7 < ((x5.length : Int)))) kr (fun hc => ?_) (fun hc => ?_)
      · have h := cond_t h hc
        refine Wp.skip (thenN ?_)
        refine Wp.seqJ (α := (List Int) × World × Int × Int) (fun a => ⟨[(0, .own 1), (1, .clo 88 [.fadr (World.enc a.2.1)]), (4, .nil), (5, .t (.int .i64 a.2.2.1)), (6, .t (.int .i64 a.2.2.2))], [], [(1, .live 3 1 (a.1.map (eInt .i64)))]⟩) (fun a => slices_DeleteFunc___int_int__impl_LateIn_1_j3 u (fun z0 z1 z2 z3 => slices_DeleteFunc___int_int__impl_LateIn_1_l2 u k_slices_DeleteFunc___int_int__impl_LateIn_1_l2 z0 z1 z2 z3) a.1 a.2.1 a.2.2.1 a.2.2.2 = some r) ?_ ?_
        · rintro ⟨x14, p1_0, x15, x7⟩ h
          change slices_DeleteFunc___int_int__impl_LateIn_1_j3 u (fun z0 z1 z2 z3 => slices_DeleteFunc___int_int__impl_LateIn_1_l2 u k_slices_DeleteFunc___int_int__impl_LateIn_1_l2 z0 z1 z2 z3) x14 p1_0 x15 x7 = some r at h
          unfold slices_DeleteFunc___int_int__impl_LateIn_1_j3 at h
          refine Wp.rg [] [] ?_
          refine Runs.alln ?_
          exact ⟨(x14, p1_0, x15, bAdd .i64 x7 1), h, Le.of (mo := []) (mr := []) kr kr kr kr⟩
        · refine Wp.block ?_
          refine Wp.srg [] [] ?_
          refine Runs.batch 2 kr ?_
          obtain ⟨y11, e_y11, h⟩ := bind_some h
          refine Runs.idxO (e := 3) (e' := 3) (kk := .i64) (sz := 1) (eInt .i64) x5 x7 1 rfl kr kr kr kr kr kr kr e_y11 ?_
          refine Runs.loadE (e' := 3) (sz := 1) (m := 1) (gg := false) (eInt .i64) x5 1 (Int.toNat x7) 0 (.t (.int .i64 y11)) rfl kr kr kr kr kr kr (idx_some e_y11).2 kr ?_
          refine Runs.alln ?_
          refine Wp.fg ⟨[(0, .own 1), (1, .clo 88 [.fadr (World.enc p1_0)]), (4, .nil), (5, .t (.int .i64 x6)), (6, .t (.int .i64 x7)), (7, .t (.int .i64 y11))], [], [(1, .live 3 1 (x5.map (eInt .i64)))]⟩ ?_
          refine Wp.srg [] [] ?_
          refine Runs.batch 2 kr ?_
          obtain ⟨r12, e_r12, h⟩ := bind_some h
          refine Runs.callK false 28 88 [.fadr (World.enc p1_0)] [.t (.int .i64 y11)] _ _ _ rfl rfl kr kr kr kr kr (impl_LateIn_1_ok u y11 p1_0 r12 e_r12) kr ?_
          refine Runs.alln ?_
          refine Wp.fg ⟨[(0, .own 1), (1, .clo 88 [.fadr (World.enc p1_0)]), (4, .nil), (5, .t (.int .i64 x6)), (6, .t (.int .i64 x7)), (7, .t (.int .i64 y11)), (29, .t (.bool (!r12)))], [], [(1, .live 3 1 (x5.map (eInt .i64)))]⟩ ?_
          refine Wp.cond2 (b := !r12) kr (fun hc => ?_) (fun hc => ?_)
          · have h := cond_t h hc
            refine Wp.srg [] [] ?_
            refine Runs.batch 3 kr ?_
            obtain ⟨y13, e_y13, h⟩ := bind_some h
            refine Runs.idxO (e := 3) (e' := 3) (kk := .i64) (sz := 1) (eInt .i64) x5 x6 1 rfl kr kr kr kr kr kr kr e_y13 ?_
            refine Runs.storeT (e := 3) (sz := 1) (m := 1) (eInt .i64) x5 1 (Int.toNat x6) 0 y11 (.t (.int .i64 y11)) [.int .i64 y11] rfl kr kr kr kr kr kr kr kr (idx_some e_y13).2 kr kr ?_
            refine Runs.done ?_
            refine thenN ?_
            refine Wp.fg ⟨[(0, .own 1), (1, .clo 88 [.fadr (World.enc p1_0)]), (4, .nil), (5, .t (.int .i64 x6)), (6, .t (.int .i64 x7))], [], [(1, .live 3 1 ((x5.set (Int.toNat x6) y11).map (eInt .i64)))]⟩ ?_
            refine Wp.rg [] [] ?_
            refine Runs.all kr ?_
            refine blkN ?_
            refine thenN ?_
            exact ⟨(x5.set (Int.toNat x6) y11, p1_0, bAdd .i64 x6 1, x7), h, Le.of (mo := []) (mr := []) kr kr kr kr⟩
          have h := cond_f h hc
          refine Wp.skip ?_
          refine blkN ?_
          refine thenN ?_
          exact ⟨(x5, p1_0, x6, x7), h, Le.of (mo := []) (mr := []) kr kr kr kr⟩
      have h := cond_f h hc
      refine Wp.exit ?_
      refine thenE ?_
      refine thenE ?_
      refine blkE ?_
      refine thenN ?_
      exact ⟨(x5, x6), h, Le.of (mo := []) (mr := []) kr kr kr kr⟩
theorem impl_LateIn_ok (u : Nat) (p0 : World) (r : (List Int)) (h : impl_LateIn u p0 = some r) : CallOK Tryz.prog 34 [.agg [.t (.int .i64 p0.fC.fSize), .t (.int .i64 p0.fC.fWindow), .t (.int .i64 p0.fC.fSuspect), .t (.int .i64 p0.fC.fForget), .t (.sl 1 (p0.fT.fUp.map (eInt .i64))), .t (.sl 1 (p0.fNew.map (eInt .u8))), .t (.sl 1 (p0.fOld.map Image.enc)), .t (.sl 12 (p0.fN.map Node.enc)), .t (.sl 6 (p0.fD.map Disk.enc)), .t (.sl 3 (p0.fNet.map Packet.enc)), .t (.sl 3 (p0.fLog.map Sent.enc)), .t (.int .i64 p0.fLost)]] (.one (.ow 3 1 (r.map (eInt .i64)))) [] := by
  unfold impl_LateIn at h
  refine CallOK.of_bodyK (fn := Tryz.f34) (m := true) [.agg ((World.enc p0).map .t)] kr rfl kr kr kr kr kr ?_
  refine Wp.srg [] [] ?_
  refine Runs.alln ?_
  refine Wp.fg ⟨[(1, .obj 1 0), (2, .nil)], [(1, ((World.enc p0).map .t))], []⟩ ?_
  refine Wp.seq ?_
  refine Wp.le (Le.trans (Le.frzOb 1 (World.enc p0) kr kr) (Le.of (s := ⟨[(1, .fadr (World.enc p0)), (2, .nil)], [], []⟩) (mo := []) (mr := []) kr kr kr kr)) ?_
  refine Wp.rg [] [] ?_
  refine Runs.batch 1 kr ?_
  obtain ⟨r1, e_r1, h⟩ := bind_some h
  refine Runs.callK false 4 73 [] [.agg ((World.enc p0).map .t)] _ _ _ rfl rfl kr kr kr kr kr (impl_UpIn_ok u p0 r1 e_r1) kr ?_
  refine Runs.batch 1 kr ?_
  obtain ⟨r2, e_r2, h⟩ := bind_some h
  refine Runs.callK true 6 87 [] [.own 262144, .clo 88 [.fadr (World.enc p0)]] _ _ _ rfl rfl kr kr kr kr kr (slices_DeleteFunc___int_int__impl_LateIn_1_ok u r1 p0 r2 e_r2) kr ?_
  refine Runs.alln ?_
  refine Wp.fg ⟨[(2, .own 393216)], [], [(393216, .live 3 1 (r2.map (eInt .i64)))]⟩ ?_
  refine Wp.ret ?_
  obtain rfl := Option.some.inj h
  exact RetK [.own 393216] _ [] kr kr (.refl _) .nil
theorem laws_eqIntS_ok (u : Nat) (p0 : List Int) (p1 : List Int) (r : Bool) (h : laws_eqIntS u p0 p1 = some r) : CallOK Tryz.prog 25 [.one (.t (.sl 1 (p0.map (eInt .i64)))), .one (.t (.sl 1 (p1.map (eInt .i64))))] (.one (.t (.bool r))) [] := by
  unfold laws_eqIntS at h
  refine CallOK.of_bodyK (fn := Tryz.f25) (m := false) [.t (.sl 1 (p0.map (eInt .i64))), .t (.sl 1 (p1.map (eInt .i64)))] kr rfl kr kr kr kr kr ?_
  refine Wp.srg [] [] ?_
  refine Runs.alln ?_
  refine Wp.fg ⟨[(0, .t (.sl 1 (p0.map (eInt .i64)))), (1, .t (.sl 1 (p1.map (eInt .i64)))), (4, .t (.bool false))], [], []⟩ ?_
  refine Wp.seq ?_
  refine Wp.srg [] [] ?_
  refine Runs.batch 1 kr ?_
  refine Runs.lenT (y := .t (.sl 1 (p0.map (eInt .i64)))) (e := 3) (eInt .i64) p0 1 rfl rfl rfl kr kr kr kr kr ?_
  refine Runs.batch 1 kr ?_
  refine Runs.lenT (y := .t (.sl 1 (p1.map (eInt .i64)))) (e := 3) (eInt .i64) p1 1 rfl rfl rfl kr kr kr kr kr ?_
  refine Runs.alln ?_
  refine Wp.fg ⟨[(0, .t (.sl 1 (p0.map (eInt .i64)))), (1, .t (.sl 1 (p1.map (eInt .i64)))), (4, .t (.bool false)), (10, .t (.bool (((p0.length : Int)) != ((p1.length : Int)))))], [], []⟩ ?_
  refine Wp.cond2 (b := ((p0.length : Int)) != ((p1.length : Int))) kr (fun hc => ?_) (fun hc => ?_)
  · have h := cond_t h hc
    refine Wp.srg [] [] ?_
    refine Runs.alln ?_
    refine Wp.fg ⟨[(0, .t (.sl 1 (p0.map (eInt .i64)))), (1, .t (.sl 1 (p1.map (eInt .i64)))), (4, .t (.bool false))], [], []⟩ ?_
    refine Wp.ret ?_
    refine thenR ?_
    obtain rfl := Option.some.inj h
    exact RetK [.t (.bool false)] _ [] kr kr (.refl _) .nil
  have h := cond_f h hc
  refine Wp.skip (thenN ?_)
  refine Wp.seqJ (α := Unit) (fun a => ⟨[(4, .t (.bool false))], [], []⟩) (fun a => laws_eqIntS_j1 u = some r) ?_ ?_
  · rintro ⟨⟩ h
    change laws_eqIntS_j1 u = some r at h
    unfold laws_eqIntS_j1 at h
    refine Wp.srg [] [] ?_
    refine Runs.alln ?_
    refine Wp.fg ⟨[(4, .t (.bool true))], [], []⟩ ?_
    refine Wp.ret ?_
    obtain rfl := Option.some.inj h
    exact RetK [.t (.bool true)] _ [] kr kr (.refl _) .nil
  · refine Wp.srg [] [] ?_
    refine Runs.alln ?_
    refine Wp.fg ⟨[(0, .t (.sl 1 (p0.map (eInt .i64)))), (1, .t (.sl 1 (p1.map (eInt .i64)))), (4, .t (.bool false)), (5, .t (.int .i64 0))], [], []⟩ ?_
    refine Wp.block ?_
    refine Wp.loopF (α := (List Int) × (List Int) × Int) (fun a => ⟨[(0, .t (.sl 1 (a.1.map (eInt .i64)))), (1, .t (.sl 1 (a.2.1.map (eInt .i64)))), (4, .t (.bool false)), (5, .t (.int .i64 a.2.2))], [], []⟩) (fun k_laws_eqIntS_l2 a => laws_eqIntS_l2 u k_laws_eqIntS_l2 a.1 a.2.1 a.2.2 = some r) ?_ ?_ u (p0, p1, 0) h (Le.of (mo := []) (mr := []) kr kr kr kr)
    · intro a h; unfold laws_eqIntS_l2 at h; cases h
    · rintro k_laws_eqIntS_l2 ⟨p0, p1, x2⟩ h
      change laws_eqIntS_l2 u (k_laws_eqIntS_l2 + 1) p0 p1 x2 = some r at h
      rw [laws_eqIntS_l2] at h
      refine Wp.seq ?_
      refine Wp.srg [] [] ?_
      refine Runs.batch 2 kr ?_
      refine Runs.lenT (y := .t (.sl 1 (p0.map (eInt .i64)))) (e := 3) (eInt .i64) p0 1 rfl rfl rfl kr kr kr kr kr ?_
      refine Runs.alln ?_
      refine Wp.fg ⟨[(0, .t (.sl 1 (p0.map (eInt .i64)))), (1, .t (.sl 1 (p1.map (eInt .i64)))), (4, .t (.bool false)), (5, .t (.int .i64 x2)), (14, .t (.bool (decide (x2 < ((p0.length : Int))))))], [], []⟩ ?_
      refine Wp.cond2 (b := decide (x2 < ((p0.length : Int)))) kr (fun hc => ?_) (fun hc => ?_)
      · have h := cond_t h hc
        refine Wp.skip (thenN ?_)
        refine Wp.seq ?_
        refine Wp.block ?_
        refine Wp.seq ?_
        refine Wp.regionA (pOf []) (rhoOf [(0, .frz), (1, .frz), (5, .frz), (17, .frz), (18, .frz), (19, .frz), (20, .frz), (21, .frz), (22, .frz), (23, .frz), (24, .frz)]) kr kr ?_
        refine Runs.batch 2 kr ?_
        obtain ⟨y4, e_y4, h⟩ := bind_some h
        refine Runs.idxT (e := 3) (kk := .i64) (sz := 1) (eInt .i64) p0 x2 rfl kr kr kr kr kr kr e_y4 ?_
        refine Runs.batch 3 kr ?_
        obtain ⟨y5, e_y5, h⟩ := bind_some h
        refine Runs.idxT (e := 3) (kk := .i64) (sz := 1) (eInt .i64) p1 x2 rfl kr kr kr kr kr kr e_y5 ?_
        refine Runs.alln ?_
        refine Wp.fg ⟨[(0, .t (.sl 1 (p0.map (eInt .i64)))), (1, .t (.sl 1 (p1.map (eInt .i64)))), (4, .t (.bool false)), (5, .t (.int .i64 x2)), (25, .t (.bool (y4 != y5)))], [], []⟩ ?_
        refine Wp.cond2 (b := y4 != y5) kr (fun hc => ?_) (fun hc => ?_)
        · have h := cond_t h hc
          refine Wp.srg [] [] ?_
          refine Runs.alln ?_
          refine Wp.fg ⟨[(0, .t (.sl 1 (p0.map (eInt .i64)))), (1, .t (.sl 1 (p1.map (eInt .i64)))), (4, .t (.bool false)), (5, .t (.int .i64 x2))], [], []⟩ ?_
          refine Wp.ret ?_
          refine blkR ?_
          refine thenR ?_
          refine thenR ?_
          refine blkR ?_
          refine thenR ?_
          obtain rfl := Option.some.inj h
          exact RetK [.t (.bool false)] _ [] kr kr (.refl _) .nil
        have h := cond_f h hc
        refine Wp.skip ?_
        refine blkN ?_
        refine thenN ?_
        refine Wp.rg [] [] ?_
        refine Runs.alln ?_
        exact ⟨(p0, p1, bAdd .i64 x2 1), h, Le.of (mo := []) (mr := []) kr kr kr kr⟩
      have h := cond_f h hc
      refine Wp.exit ?_
      refine thenE ?_
      refine thenE ?_
      refine blkE ?_
      refine thenN ?_
      exact ⟨(), h, Le.of (mo := []) (mr := []) kr kr kr kr⟩
theorem laws_eqConf_ok (u : Nat) (p0 : Conf) (p1 : Conf) (r : Bool) (h : laws_eqConf u p0 p1 = some r) : CallOK Tryz.prog 52 [.agg [.t (.int .i64 p0.fSize), .t (.int .i64 p0.fWindow), .t (.int .i64 p0.fSuspect), .t (.int .i64 p0.fForget)], .agg [.t (.int .i64 p1.fSize), .t (.int .i64 p1.fWindow), .t (.int .i64 p1.fSuspect), .t (.int .i64 p1.fForget)]] (.one (.t (.bool r))) [] := by
  unfold laws_eqConf at h
  refine CallOK.of_bodyK (fn := Tryz.f52) (m := false) [.agg ((Conf.enc p0).map .t), .agg ((Conf.enc p1).map .t)] kr rfl kr kr kr kr kr ?_
  refine Wp.srg [] [] ?_
  refine Runs.alln ?_
  refine Wp.fg ⟨[(2, .obj 2 0), (3, .obj 3 0), (4, .t (.bool false))], [(2, ((Conf.enc p0).map .t)), (3, ((Conf.enc p1).map .t))], []⟩ ?_
  refine Wp.seq ?_
  refine Wp.srg [] [] ?_
  refine Runs.alln ?_
  refine Wp.fg ⟨[(2, .obj 2 0), (3, .obj 3 0), (4, .t (.bool false)), (9, .t (.bool (p0.fSize != p1.fSize)))], [(2, ((Conf.enc p0).map .t)), (3, ((Conf.enc p1).map .t))], []⟩ ?_
  refine Wp.cond2 (b := p0.fSize != p1.fSize) kr (fun hc => ?_) (fun hc => ?_)
  · have h := cond_t h hc
    refine Wp.srg [] [] ?_
    refine Runs.alln ?_
    refine Wp.fg ⟨[(2, .obj 2 0), (3, .obj 3 0), (4, .t (.bool false))], [(2, ((Conf.enc p0).map .t)), (3, ((Conf.enc p1).map .t))], []⟩ ?_
    refine Wp.ret ?_
    refine thenR ?_
    obtain rfl := Option.some.inj h
    exact RetK [.t (.bool false)] _ [] kr kr (.refl _) .nil
  have h := cond_f h hc
  refine Wp.skip (thenN ?_)
  refine Wp.seq ?_
  refine Wp.srg [] [] ?_
  refine Runs.alln ?_
  refine Wp.fg ⟨[(2, .obj 2 0), (3, .obj 3 0), (4, .t (.bool false)), (14, .t (.bool (p0.fWindow != p1.fWindow)))], [(2, ((Conf.enc p0).map .t)), (3, ((Conf.enc p1).map .t))], []⟩ ?_
  refine Wp.cond2 (b := p0.fWindow != p1.fWindow) kr (fun hc => ?_) (fun hc => ?_)
  · have h := cond_t h hc
    refine Wp.srg [] [] ?_
    refine Runs.alln ?_
    refine Wp.fg ⟨[(2, .obj 2 0), (3, .obj 3 0), (4, .t (.bool false))], [(2, ((Conf.enc p0).map .t)), (3, ((Conf.enc p1).map .t))], []⟩ ?_
    refine Wp.ret ?_
    refine thenR ?_
    obtain rfl := Option.some.inj h
    exact RetK [.t (.bool false)] _ [] kr kr (.refl _) .nil
  have h := cond_f h hc
  refine Wp.skip (thenN ?_)
  refine Wp.seq ?_
  refine Wp.srg [] [] ?_
  refine Runs.alln ?_
  refine Wp.fg ⟨[(2, .obj 2 0), (3, .obj 3 0), (4, .t (.bool false)), (19, .t (.bool (p0.fSuspect != p1.fSuspect)))], [(2, ((Conf.enc p0).map .t)), (3, ((Conf.enc p1).map .t))], []⟩ ?_
  refine Wp.cond2 (b := p0.fSuspect != p1.fSuspect) kr (fun hc => ?_) (fun hc => ?_)
  · have h := cond_t h hc
    refine Wp.srg [] [] ?_
    refine Runs.alln ?_
    refine Wp.fg ⟨[(2, .obj 2 0), (3, .obj 3 0), (4, .t (.bool false))], [(2, ((Conf.enc p0).map .t)), (3, ((Conf.enc p1).map .t))], []⟩ ?_
    refine Wp.ret ?_
    refine thenR ?_
    obtain rfl := Option.some.inj h
    exact RetK [.t (.bool false)] _ [] kr kr (.refl _) .nil
  have h := cond_f h hc
  refine Wp.skip (thenN ?_)
  refine Wp.seq ?_
  refine Wp.srg [] [] ?_
  refine Runs.alln ?_
  refine Wp.fg ⟨[(4, .t (.bool false)), (24, .t (.bool (p0.fForget != p1.fForget)))], [], []⟩ ?_
  refine Wp.cond2 (b := p0.fForget != p1.fForget) kr (fun hc => ?_) (fun hc => ?_)
  · have h := cond_t h hc
    refine Wp.srg [] [] ?_
    refine Runs.alln ?_
    refine Wp.fg ⟨[(4, .t (.bool false))], [], []⟩ ?_
    refine Wp.ret ?_
    refine thenR ?_
    obtain rfl := Option.some.inj h
    exact RetK [.t (.bool false)] _ [] kr kr (.refl _) .nil
  have h := cond_f h hc
  refine Wp.skip (thenN ?_)
  refine Wp.srg [] [] ?_
  refine Runs.alln ?_
  refine Wp.fg ⟨[(4, .t (.bool true))], [], []⟩ ?_
  refine Wp.ret ?_
  obtain rfl := Option.some.inj h
  exact RetK [.t (.bool true)] _ [] kr kr (.refl _) .nil
theorem laws_eqTree_ok (u : Nat) (p0 : Tree) (p1 : Tree) (r : Bool) (h : laws_eqTree u p0 p1 = some r) : CallOK Tryz.prog 53 [.agg [.t (.sl 1 (p0.fUp.map (eInt .i64)))], .agg [.t (.sl 1 (p1.fUp.map (eInt .i64)))]] (.one (.t (.bool r))) [] := by
  unfold laws_eqTree at h
  refine CallOK.of_bodyK (fn := Tryz.f53) (m := false) [.agg [.t (.sl 1 (p0.fUp.map (eInt .i64)))], .agg [.t (.sl 1 (p1.fUp.map (eInt .i64)))]] kr rfl kr kr kr kr kr ?_
  refine Wp.srg [] [] ?_
  refine Runs.alln ?_
  refine Wp.fg ⟨[(2, .obj 2 0), (3, .obj 3 0), (4, .t (.bool false))], [(2, [.t (.sl 1 (p0.fUp.map (eInt .i64)))]), (3, [.t (.sl 1 (p1.fUp.map (eInt .i64)))])], []⟩ ?_
  refine Wp.seq ?_
  refine Wp.srg [] [] ?_
  refine Runs.batch 4 kr ?_
  obtain ⟨r1, e_r1, h⟩ := bind_some h
  refine Runs.callK false 9 25 [] [.t (.sl 1 (p0.fUp.map (eInt .i64))), .t (.sl 1 (p1.fUp.map (eInt .i64)))] _ _ _ rfl rfl kr kr kr kr kr (laws_eqIntS_ok u p0.fUp p1.fUp r1 e_r1) kr ?_
  refine Runs.alln ?_
  refine Wp.fg ⟨[(4, .t (.bool false)), (10, .t (.bool (!r1)))], [], []⟩ ?_
  refine Wp.cond2 (b := !r1) kr (fun hc => ?_) (fun hc => ?_)
  · have h := cond_t h hc
    refine Wp.srg [] [] ?_
    refine Runs.alln ?_
    refine Wp.fg ⟨[(4, .t (.bool false))], [], []⟩ ?_
    refine Wp.ret ?_
    refine thenR ?_
    obtain rfl := Option.some.inj h
    exact RetK [.t (.bool false)] _ [] kr kr (.refl _) .nil
  have h := cond_f h hc
  refine Wp.skip (thenN ?_)
  refine Wp.srg [] [] ?_
  refine Runs.alln ?_
  refine Wp.fg ⟨[(4, .t (.bool true))], [], []⟩ ?_
  refine Wp.ret ?_
  obtain rfl := Option.some.inj h
  exact RetK [.t (.bool true)] _ [] kr kr (.refl _) .nil
theorem laws_eqByteS_ok (u : Nat) (p0 : List Int) (p1 : List Int) (r : Bool) (h : laws_eqByteS u p0 p1 = some r) : CallOK Tryz.prog 54 [.one (.t (.sl 1 (p0.map (eInt .u8)))), .one (.t (.sl 1 (p1.map (eInt .u8))))] (.one (.t (.bool r))) [] := by
  unfold laws_eqByteS at h
  refine CallOK.of_bodyK (fn := Tryz.f54) (m := false) [.t (.sl 1 (p0.map (eInt .u8))), .t (.sl 1 (p1.map (eInt .u8)))] kr rfl kr kr kr kr kr ?_
  refine Wp.srg [] [] ?_
  refine Runs.alln ?_
  refine Wp.fg ⟨[(0, .t (.sl 1 (p0.map (eInt .u8)))), (1, .t (.sl 1 (p1.map (eInt .u8)))), (4, .t (.bool false))], [], []⟩ ?_
  refine Wp.seq ?_
  refine Wp.srg [] [] ?_
  refine Runs.batch 1 kr ?_
  refine Runs.lenT (y := .t (.sl 1 (p0.map (eInt .u8)))) (e := 5) (eInt .u8) p0 1 rfl rfl rfl kr kr kr kr kr ?_
  refine Runs.batch 1 kr ?_
  refine Runs.lenT (y := .t (.sl 1 (p1.map (eInt .u8)))) (e := 5) (eInt .u8) p1 1 rfl rfl rfl kr kr kr kr kr ?_
  refine Runs.alln ?_
  refine Wp.fg ⟨[(0, .t (.sl 1 (p0.map (eInt .u8)))), (1, .t (.sl 1 (p1.map (eInt .u8)))), (4, .t (.bool false)), (10, .t (.bool (((p0.length : Int)) != ((p1.length : Int)))))], [], []⟩ ?_
  refine Wp.cond2 (b := ((p0.length : Int)) != ((p1.length : Int))) kr (fun hc => ?_) (fun hc => ?_)
  · have h := cond_t h hc
    refine Wp.srg [] [] ?_
    refine Runs.alln ?_
    refine Wp.fg ⟨[(0, .t (.sl 1 (p0.map (eInt .u8)))), (1, .t (.sl 1 (p1.map (eInt .u8)))), (4, .t (.bool false))], [], []⟩ ?_
    refine Wp.ret ?_
    refine thenR ?_
    obtain rfl := Option.some.inj h
    exact RetK [.t (.bool false)] _ [] kr kr (.refl _) .nil
  have h := cond_f h hc
  refine Wp.skip (thenN ?_)
  refine Wp.seqJ (α := Unit) (fun a => ⟨[(4, .t (.bool false))], [], []⟩) (fun a => laws_eqByteS_j1 u = some r) ?_ ?_
  · rintro ⟨⟩ h
    change laws_eqByteS_j1 u = some r at h
    unfold laws_eqByteS_j1 at h
    refine Wp.srg [] [] ?_
    refine Runs.alln ?_
    refine Wp.fg ⟨[(4, .t (.bool true))], [], []⟩ ?_
    refine Wp.ret ?_
    obtain rfl := Option.some.inj h
    exact RetK [.t (.bool true)] _ [] kr kr (.refl _) .nil
  · refine Wp.srg [] [] ?_
    refine Runs.alln ?_
    refine Wp.fg ⟨[(0, .t (.sl 1 (p0.map (eInt .u8)))), (1, .t (.sl 1 (p1.map (eInt .u8)))), (4, .t (.bool false)), (5, .t (.int .i64 0))], [], []⟩ ?_
    refine Wp.block ?_
    refine Wp.loopF (α := (List Int) × (List Int) × Int) (fun a => ⟨[(0, .t (.sl 1 (a.1.map (eInt .u8)))), (1, .t (.sl 1 (a.2.1.map (eInt .u8)))), (4, .t (.bool false)), (5, .t (.int .i64 a.2.2))], [], []⟩) (fun k_laws_eqByteS_l2 a => laws_eqByteS_l2 u k_laws_eqByteS_l2 a.1 a.2.1 a.2.2 = some r) ?_ ?_ u (p0, p1, 0) h (Le.of (mo := []) (mr := []) kr kr kr kr)
    · intro a h; unfold laws_eqByteS_l2 at h; cases h
    · rintro k_laws_eqByteS_l2 ⟨p0, p1, x2⟩ h
      change laws_eqByteS_l2 u (k_laws_eqByteS_l2 + 1) p0 p1 x2 = some r at h
      rw [laws_eqByteS_l2] at h
      refine Wp.seq ?_
      refine Wp.srg [] [] ?_
      refine Runs.batch 2 kr ?_
      refine Runs.lenT (y := .t (.sl 1 (p0.map (eInt .u8)))) (e := 5) (eInt .u8) p0 1 rfl rfl rfl kr kr kr kr kr ?_
      refine Runs.alln ?_
      refine Wp.fg ⟨[(0, .t (.sl 1 (p0.map (eInt .u8)))), (1, .t (.sl 1 (p1.map (eInt .u8)))), (4, .t (.bool false)), (5, .t (.int .i64 x2)), (14, .t (.bool (decide (x2 < ((p0.length : Int))))))], [], []⟩ ?_
      refine Wp.cond2 (b := decide (x2 < ((p0.length : Int)))) kr (fun hc => ?_) (fun hc => ?_)
      · have h := cond_t h hc
        refine Wp.skip (thenN ?_)
        refine Wp.seq ?_
        refine Wp.block ?_
        refine Wp.seq ?_
        refine Wp.regionA (pOf []) (rhoOf [(0, .frz), (1, .frz), (5, .frz), (17, .frz), (18, .frz), (19, .frz), (20, .frz), (21, .frz), (22, .frz), (23, .frz), (24, .frz)]) kr kr ?_
        refine Runs.batch 2 kr ?_
        obtain ⟨y4, e_y4, h⟩ := bind_some h
        refine Runs.idxT (e := 5) (kk := .i64) (sz := 1) (eInt .u8) p0 x2 rfl kr kr kr kr kr kr e_y4 ?_
        refine Runs.batch 3 kr ?_
        obtain ⟨y5, e_y5, h⟩ := bind_some h
        refine Runs.idxT (e := 5) (kk := .i64) (sz := 1) (eInt .u8) p1 x2 rfl kr kr kr kr kr kr e_y5 ?_
        refine Runs.alln ?_
        refine Wp.fg ⟨[(0, .t (.sl 1 (p0.map (eInt .u8)))), (1, .t (.sl 1 (p1.map (eInt .u8)))), (4, .t (.bool false)), (5, .t (.int .i64 x2)), (25, .t (.bool (y4 != y5)))], [], []⟩ ?_
        refine Wp.cond2 (b := y4 != y5) kr (fun hc => ?_) (fun hc => ?_)
        · have h := cond_t h hc
          refine Wp.srg [] [] ?_
          refine Runs.alln ?_
          refine Wp.fg ⟨[(0, .t (.sl 1 (p0.map (eInt .u8)))), (1, .t (.sl 1 (p1.map (eInt .u8)))), (4, .t (.bool false)), (5, .t (.int .i64 x2))], [], []⟩ ?_
          refine Wp.ret ?_
          refine blkR ?_
          refine thenR ?_
          refine thenR ?_
          refine blkR ?_
          refine thenR ?_
          obtain rfl := Option.some.inj h
          exact RetK [.t (.bool false)] _ [] kr kr (.refl _) .nil
        have h := cond_f h hc
        refine Wp.skip ?_
        refine blkN ?_
        refine thenN ?_
        refine Wp.rg [] [] ?_
        refine Runs.alln ?_
        exact ⟨(p0, p1, bAdd .i64 x2 1), h, Le.of (mo := []) (mr := []) kr kr kr kr⟩
      have h := cond_f h hc
      refine Wp.exit ?_
      refine thenE ?_
      refine thenE ?_
      refine blkE ?_
      refine thenN ?_
      exact ⟨(), h, Le.of (mo := []) (mr := []) kr kr kr kr⟩
theorem laws_eqImage_ok (u : Nat) (p0 : Image) (p1 : Image) (r : Bool) (h : laws_eqImage u p0 p1 = some r) : CallOK Tryz.prog 106 [.agg [.t (.sl 1 (p0.fB.map (eInt .u8)))], .agg [.t (.sl 1 (p1.fB.map (eInt .u8)))]] (.one (.t (.bool r))) [] := by
  unfold laws_eqImage at h
  refine CallOK.of_bodyK (fn := Tryz.f106) (m := false) [.agg [.t (.sl 1 (p0.fB.map (eInt .u8)))], .agg [.t (.sl 1 (p1.fB.map (eInt .u8)))]] kr rfl kr kr kr kr kr ?_
  refine Wp.srg [] [] ?_
  refine Runs.alln ?_
  refine Wp.fg ⟨[(2, .obj 2 0), (3, .obj 3 0), (4, .t (.bool false))], [(2, [.t (.sl 1 (p0.fB.map (eInt .u8)))]), (3, [.t (.sl 1 (p1.fB.map (eInt .u8)))])], []⟩ ?_
  refine Wp.seq ?_
  refine Wp.srg [] [] ?_
  refine Runs.batch 4 kr ?_
  obtain ⟨r1, e_r1, h⟩ := bind_some h
  refine Runs.callK false 9 54 [] [.t (.sl 1 (p0.fB.map (eInt .u8))), .t (.sl 1 (p1.fB.map (eInt .u8)))] _ _ _ rfl rfl kr kr kr kr kr (laws_eqByteS_ok u p0.fB p1.fB r1 e_r1) kr ?_
  refine Runs.alln ?_
  refine Wp.fg ⟨[(4, .t (.bool false)), (10, .t (.bool (!r1)))], [], []⟩ ?_
  refine Wp.cond2 (b := !r1) kr (fun hc => ?_) (fun hc => ?_)
  · have h := cond_t h hc
    refine Wp.srg [] [] ?_
    refine Runs.alln ?_
    refine Wp.fg ⟨[(4, .t (.bool false))], [], []⟩ ?_
    refine Wp.ret ?_
    refine thenR ?_
    obtain rfl := Option.some.inj h
    exact RetK [.t (.bool false)] _ [] kr kr (.refl _) .nil
  have h := cond_f h hc
  refine Wp.skip (thenN ?_)
  refine Wp.srg [] [] ?_
  refine Runs.alln ?_
  refine Wp.fg ⟨[(4, .t (.bool true))], [], []⟩ ?_
  refine Wp.ret ?_
  obtain rfl := Option.some.inj h
  exact RetK [.t (.bool true)] _ [] kr kr (.refl _) .nil
theorem laws_eqImageS_ok (u : Nat) (p0 : List Image) (p1 : List Image) (r : Bool) (h : laws_eqImageS u p0 p1 = some r) : CallOK Tryz.prog 55 [.one (.t (.sl 1 (p0.map Image.enc))), .one (.t (.sl 1 (p1.map Image.enc)))] (.one (.t (.bool r))) [] := by
  unfold laws_eqImageS at h
  refine CallOK.of_bodyK (fn := Tryz.f55) (m := false) [.t (.sl 1 (p0.map Image.enc)), .t (.sl 1 (p1.map Image.enc))] kr rfl kr kr kr kr kr ?_
  refine Wp.srg [] [] ?_
  refine Runs.alln ?_
  refine Wp.fg ⟨[(0, .t (.sl 1 (p0.map Image.enc))), (1, .t (.sl 1 (p1.map Image.enc))), (4, .t (.bool false))], [], []⟩ ?_
  refine Wp.seq ?_
  refine Wp.srg [] [] ?_
  refine Runs.batch 1 kr ?_
  refine Runs.lenT (y := .t (.sl 1 (p0.map Image.enc))) (e := 89) Image.enc p0 1 rfl rfl rfl kr kr kr kr kr ?_
  refine Runs.batch 1 kr ?_
  refine Runs.lenT (y := .t (.sl 1 (p1.map Image.enc))) (e := 89) Image.enc p1 1 rfl rfl rfl kr kr kr kr kr ?_
  refine Runs.alln ?_
  refine Wp.fg ⟨[(0, .t (.sl 1 (p0.map Image.enc))), (1, .t (.sl 1 (p1.map Image.enc))), (4, .t (.bool false)), (10, .t (.bool (((p0.length : Int)) != ((p1.length : Int)))))], [], []⟩ ?_
  refine Wp.cond2 (b := ((p0.length : Int)) != ((p1.length : Int))) kr (fun hc => ?_) (fun hc => ?_)
  · have h := cond_t h hc
    refine Wp.srg [] [] ?_
    refine Runs.alln ?_
    refine Wp.fg ⟨[(0, .t (.sl 1 (p0.map Image.enc))), (1, .t (.sl 1 (p1.map Image.enc))), (4, .t (.bool false))], [], []⟩ ?_
    refine Wp.ret ?_
    refine thenR ?_
    obtain rfl := Option.some.inj h
    exact RetK [.t (.bool false)] _ [] kr kr (.refl _) .nil
  have h := cond_f h hc
  refine Wp.skip (thenN ?_)
  refine Wp.seqJ (α := Unit) (fun a => ⟨[(4, .t (.bool false))], [], []⟩) (fun a => laws_eqImageS_j1 u = some r) ?_ ?_
  · rintro ⟨⟩ h
    change laws_eqImageS_j1 u = some r at h
    unfold laws_eqImageS_j1 at h
    refine Wp.srg [] [] ?_
    refine Runs.alln ?_
    refine Wp.fg ⟨[(4, .t (.bool true))], [], []⟩ ?_
    refine Wp.ret ?_
    obtain rfl := Option.some.inj h
    exact RetK [.t (.bool true)] _ [] kr kr (.refl _) .nil
  · refine Wp.srg [] [] ?_
    refine Runs.alln ?_
    refine Wp.fg ⟨[(0, .t (.sl 1 (p0.map Image.enc))), (1, .t (.sl 1 (p1.map Image.enc))), (4, .t (.bool false)), (5, .t (.int .i64 0))], [], []⟩ ?_
    refine Wp.block ?_
    refine Wp.loopF (α := (List Image) × (List Image) × Int) (fun a => ⟨[(0, .t (.sl 1 (a.1.map Image.enc))), (1, .t (.sl 1 (a.2.1.map Image.enc))), (4, .t (.bool false)), (5, .t (.int .i64 a.2.2))], [], []⟩) (fun k_laws_eqImageS_l2 a => laws_eqImageS_l2 u k_laws_eqImageS_l2 a.1 a.2.1 a.2.2 = some r) ?_ ?_ u (p0, p1, 0) h (Le.of (mo := []) (mr := []) kr kr kr kr)
    · intro a h; unfold laws_eqImageS_l2 at h; cases h
    · rintro k_laws_eqImageS_l2 ⟨p0, p1, x2⟩ h
      change laws_eqImageS_l2 u (k_laws_eqImageS_l2 + 1) p0 p1 x2 = some r at h
      rw [laws_eqImageS_l2] at h
      refine Wp.seq ?_
      refine Wp.srg [] [] ?_
      refine Runs.batch 2 kr ?_
      refine Runs.lenT (y := .t (.sl 1 (p0.map Image.enc))) (e := 89) Image.enc p0 1 rfl rfl rfl kr kr kr kr kr ?_
      refine Runs.alln ?_
      refine Wp.fg ⟨[(0, .t (.sl 1 (p0.map Image.enc))), (1, .t (.sl 1 (p1.map Image.enc))), (4, .t (.bool false)), (5, .t (.int .i64 x2)), (14, .t (.bool (decide (x2 < ((p0.length : Int))))))], [], []⟩ ?_
      refine Wp.cond2 (b := decide (x2 < ((p0.length : Int)))) kr (fun hc => ?_) (fun hc => ?_)
      · have h := cond_t h hc
        refine Wp.skip (thenN ?_)
        refine Wp.seq ?_
        refine Wp.block ?_
        refine Wp.seq ?_
        refine Wp.regionA (pOf []) (rhoOf [(0, .frz), (1, .frz), (5, .frz), (17, .frz), (18, .frz), (19, .frz), (20, .frz), (21, .frz), (22, .frz), (23, .frz), (24, .frz), (25, .frz)]) kr kr ?_
        refine Runs.batch 2 kr ?_
        obtain ⟨y4, e_y4, h⟩ := bind_some h
        refine Runs.idxT (e := 89) (kk := .i64) (sz := 1) Image.enc p0 x2 rfl kr kr kr kr kr kr e_y4 ?_
        refine Runs.batch 3 kr ?_
        obtain ⟨y5, e_y5, h⟩ := bind_some h
        refine Runs.idxT (e := 89) (kk := .i64) (sz := 1) Image.enc p1 x2 rfl kr kr kr kr kr kr e_y5 ?_
        refine Runs.batch 1 kr ?_
        obtain ⟨r6, e_r6, h⟩ := bind_some h
        refine Runs.callK false 25 106 [] [.agg [.t (.sl 1 (y4.fB.map (eInt .u8)))], .agg [.t (.sl 1 (y5.fB.map (eInt .u8)))]] _ _ _ rfl rfl kr kr kr kr kr (laws_eqImage_ok u y4 y5 r6 e_r6) kr ?_
        refine Runs.alln ?_
        refine Wp.fg ⟨[(0, .t (.sl 1 (p0.map Image.enc))), (1, .t (.sl 1 (p1.map Image.enc))), (4, .t (.bool false)), (5, .t (.int .i64 x2)), (26, .t (.bool (!r6)))], [], []⟩ ?_
        refine Wp.cond2 (b := !r6) kr (fun hc => ?_) (fun hc => ?_)
        · have h := cond_t h hc
          refine Wp.srg [] [] ?_
          refine Runs.alln ?_
          refine Wp.fg ⟨[(0, .t (.sl 1 (p0.map Image.enc))), (1, .t (.sl 1 (p1.map Image.enc))), (4, .t (.bool false)), (5, .t (.int .i64 x2))], [], []⟩ ?_
          refine Wp.ret ?_
          refine blkR ?_
          refine thenR ?_
          refine thenR ?_
          refine blkR ?_
          refine thenR ?_
          obtain rfl := Option.some.inj h
          exact RetK [.t (.bool false)] _ [] kr kr (.refl _) .nil
        have h := cond_f h hc
        refine Wp.skip ?_
        refine blkN ?_
        refine thenN ?_
        refine Wp.rg [] [] ?_
        refine Runs.alln ?_
        exact ⟨(p0, p1, bAdd .i64 x2 1), h, Le.of (mo := []) (mr := []) kr kr kr kr⟩
      have h := cond_f h hc
      refine Wp.exit ?_
      refine thenE ?_
      refine thenE ?_
      refine blkE ?_
      refine thenN ?_
      exact ⟨(), h, Le.of (mo := []) (mr := []) kr kr kr kr⟩
theorem laws_eqSum_ok (u : Nat) (p0 : Sum) (p1 : Sum) (r : Bool) (h : laws_eqSum u p0 p1 = some r) : CallOK Tryz.prog 203 [.agg [.t (.int .i64 p0.fW), .t (.int .i64 p0.fS)], .agg [.t (.int .i64 p1.fW), .t (.int .i64 p1.fS)]] (.one (.t (.bool r))) [] := by
  unfold laws_eqSum at h
  refine CallOK.of_bodyK (fn := Tryz.f203) (m := false) [.agg [.t (.int .i64 p0.fW), .t (.int .i64 p0.fS)], .agg [.t (.int .i64 p1.fW), .t (.int .i64 p1.fS)]] kr rfl kr kr kr kr kr ?_
  refine Wp.srg [] [] ?_
  refine Runs.alln ?_
  refine Wp.fg ⟨[(2, .obj 2 0), (3, .obj 3 0), (4, .t (.bool false))], [(2, [.t (.int .i64 p0.fW), .t (.int .i64 p0.fS)]), (3, [.t (.int .i64 p1.fW), .t (.int .i64 p1.fS)])], []⟩ ?_
  refine Wp.seq ?_
  refine Wp.srg [] [] ?_
  refine Runs.alln ?_
  refine Wp.fg ⟨[(2, .obj 2 0), (3, .obj 3 0), (4, .t (.bool false)), (9, .t (.bool (p0.fW != p1.fW)))], [(2, [.t (.int .i64 p0.fW), .t (.int .i64 p0.fS)]), (3, [.t (.int .i64 p1.fW), .t (.int .i64 p1.fS)])], []⟩ ?_
  refine Wp.cond2 (b := p0.fW != p1.fW) kr (fun hc => ?_) (fun hc => ?_)
  · have h := cond_t h hc
    refine Wp.srg [] [] ?_
    refine Runs.alln ?_
    refine Wp.fg ⟨[(2, .obj 2 0), (3, .obj 3 0), (4, .t (.bool false))], [(2, [.t (.int .i64 p0.fW), .t (.int .i64 p0.fS)]), (3, [.t (.int .i64 p1.fW), .t (.int .i64 p1.fS)])], []⟩ ?_
    refine Wp.ret ?_
    refine thenR ?_
    obtain rfl := Option.some.inj h
    exact RetK [.t (.bool false)] _ [] kr kr (.refl _) .nil
  have h := cond_f h hc
  refine Wp.skip (thenN ?_)
  refine Wp.seq ?_
  refine Wp.srg [] [] ?_
  refine Runs.alln ?_
  refine Wp.fg ⟨[(4, .t (.bool false)), (14, .t (.bool (p0.fS != p1.fS)))], [], []⟩ ?_
  refine Wp.cond2 (b := p0.fS != p1.fS) kr (fun hc => ?_) (fun hc => ?_)
  · have h := cond_t h hc
    refine Wp.srg [] [] ?_
    refine Runs.alln ?_
    refine Wp.fg ⟨[(4, .t (.bool false))], [], []⟩ ?_
    refine Wp.ret ?_
    refine thenR ?_
    obtain rfl := Option.some.inj h
    exact RetK [.t (.bool false)] _ [] kr kr (.refl _) .nil
  have h := cond_f h hc
  refine Wp.skip (thenN ?_)
  refine Wp.srg [] [] ?_
  refine Runs.alln ?_
  refine Wp.fg ⟨[(4, .t (.bool true))], [], []⟩ ?_
  refine Wp.ret ?_
  obtain rfl := Option.some.inj h
  exact RetK [.t (.bool true)] _ [] kr kr (.refl _) .nil
theorem laws_eqSumS_ok (u : Nat) (p0 : List Sum) (p1 : List Sum) (r : Bool) (h : laws_eqSumS u p0 p1 = some r) : CallOK Tryz.prog 178 [.one (.t (.sl 2 (p0.map Sum.enc))), .one (.t (.sl 2 (p1.map Sum.enc)))] (.one (.t (.bool r))) [] := by
  unfold laws_eqSumS at h
  refine CallOK.of_bodyK (fn := Tryz.f178) (m := false) [.t (.sl 2 (p0.map Sum.enc)), .t (.sl 2 (p1.map Sum.enc))] kr rfl kr kr kr kr kr ?_
  refine Wp.srg [] [] ?_
  refine Runs.alln ?_
  refine Wp.fg ⟨[(0, .t (.sl 2 (p0.map Sum.enc))), (1, .t (.sl 2 (p1.map Sum.enc))), (4, .t (.bool false))], [], []⟩ ?_
  refine Wp.seq ?_
  refine Wp.srg [] [] ?_
  refine Runs.batch 1 kr ?_
  refine Runs.lenT (y := .t (.sl 2 (p0.map Sum.enc))) (e := 184) Sum.enc p0 2 rfl rfl rfl kr kr kr kr kr ?_
  refine Runs.batch 1 kr ?_
  refine Runs.lenT (y := .t (.sl 2 (p1.map Sum.enc))) (e := 184) Sum.enc p1 2 rfl rfl rfl kr kr kr kr kr ?_
  refine Runs.alln ?_
  refine Wp.fg ⟨[(0, .t (.sl 2 (p0.map Sum.enc))), (1, .t (.sl 2 (p1.map Sum.enc))), (4, .t (.bool false)), (10, .t (.bool (((p0.length : Int)) != ((p1.length : Int)))))], [], []⟩ ?_
  refine Wp.cond2 (b := ((p0.length : Int)) != ((p1.length : Int))) kr (fun hc => ?_) (fun hc => ?_)
  · have h := cond_t h hc
    refine Wp.srg [] [] ?_
    refine Runs.alln ?_
    refine Wp.fg ⟨[(0, .t (.sl 2 (p0.map Sum.enc))), (1, .t (.sl 2 (p1.map Sum.enc))), (4, .t (.bool false))], [], []⟩ ?_
    refine Wp.ret ?_
    refine thenR ?_
    obtain rfl := Option.some.inj h
    exact RetK [.t (.bool false)] _ [] kr kr (.refl _) .nil
  have h := cond_f h hc
  refine Wp.skip (thenN ?_)
  refine Wp.seqJ (α := Unit) (fun a => ⟨[(4, .t (.bool false))], [], []⟩) (fun a => laws_eqSumS_j1 u = some r) ?_ ?_
  · rintro ⟨⟩ h
    change laws_eqSumS_j1 u = some r at h
    unfold laws_eqSumS_j1 at h
    refine Wp.srg [] [] ?_
    refine Runs.alln ?_
    refine Wp.fg ⟨[(4, .t (.bool true))], [], []⟩ ?_
    refine Wp.ret ?_
    obtain rfl := Option.some.inj h
    exact RetK [.t (.bool true)] _ [] kr kr (.refl _) .nil
  · refine Wp.srg [] [] ?_
    refine Runs.alln ?_
    refine Wp.fg ⟨[(0, .t (.sl 2 (p0.map Sum.enc))), (1, .t (.sl 2 (p1.map Sum.enc))), (4, .t (.bool false)), (5, .t (.int .i64 0))], [], []⟩ ?_
    refine Wp.block ?_
    refine Wp.loopF (α := (List Sum) × (List Sum) × Int) (fun a => ⟨[(0, .t (.sl 2 (a.1.map Sum.enc))), (1, .t (.sl 2 (a.2.1.map Sum.enc))), (4, .t (.bool false)), (5, .t (.int .i64 a.2.2))], [], []⟩) (fun k_laws_eqSumS_l2 a => laws_eqSumS_l2 u k_laws_eqSumS_l2 a.1 a.2.1 a.2.2 = some r) ?_ ?_ u (p0, p1, 0) h (Le.of (mo := []) (mr := []) kr kr kr kr)
    · intro a h; unfold laws_eqSumS_l2 at h; cases h
    · rintro k_laws_eqSumS_l2 ⟨p0, p1, x2⟩ h
      change laws_eqSumS_l2 u (k_laws_eqSumS_l2 + 1) p0 p1 x2 = some r at h
      rw [laws_eqSumS_l2] at h
      refine Wp.seq ?_
      refine Wp.srg [] [] ?_
      refine Runs.batch 2 kr ?_
      refine Runs.lenT (y := .t (.sl 2 (p0.map Sum.enc))) (e := 184) Sum.enc p0 2 rfl rfl rfl kr kr kr kr kr ?_
      refine Runs.alln ?_
      refine Wp.fg ⟨[(0, .t (.sl 2 (p0.map Sum.enc))), (1, .t (.sl 2 (p1.map Sum.enc))), (4, .t (.bool false)), (5, .t (.int .i64 x2)), (14, .t (.bool (decide (x2 < ((p0.length : Int))))))], [], []⟩ ?_
      refine Wp.cond2 (b := decide (x2 < ((p0.length : Int)))) kr (fun hc => ?_) (fun hc => ?_)
      · have h := cond_t h hc
        refine Wp.skip (thenN ?_)
        refine Wp.seq ?_
        refine Wp.block ?_
        refine Wp.seq ?_
        refine Wp.regionA (pOf []) (rhoOf [(0, .frz), (1, .frz), (5, .frz), (17, .frz), (18, .frz), (19, .frz), (20, .frz), (21, .frz), (22, .frz), (23, .frz), (24, .frz), (25, .frz)]) kr kr ?_
        refine Runs.batch 2 kr ?_
        obtain ⟨y4, e_y4, h⟩ := bind_some h
        refine Runs.idxT (e := 184) (kk := .i64) (sz := 2) Sum.enc p0 x2 rfl kr kr kr kr kr kr e_y4 ?_
        refine Runs.batch 3 kr ?_
        obtain ⟨y5, e_y5, h⟩ := bind_some h
        refine Runs.idxT (e := 184) (kk := .i64) (sz := 2) Sum.enc p1 x2 rfl kr kr kr kr kr kr e_y5 ?_
        refine Runs.batch 1 kr ?_
        obtain ⟨r6, e_r6, h⟩ := bind_some h
        refine Runs.callK false 25 203 [] [.agg [.t (.int .i64 y4.fW), .t (.int .i64 y4.fS)], .agg [.t (.int .i64 y5.fW), .t (.int .i64 y5.fS)]] _ _ _ rfl rfl kr kr kr kr kr (laws_eqSum_ok u y4 y5 r6 e_r6) kr ?_
        refine Runs.alln ?_
        refine Wp.fg ⟨[(0, .t (.sl 2 (p0.map Sum.enc))), (1, .t (.sl 2 (p1.map Sum.enc))), (4, .t (.bool false)), (5, .t (.int .i64 x2)), (26, .t (.bool (!r6)))], [], []⟩ ?_
        refine Wp.cond2 (b := !r6) kr (fun hc => ?_) (fun hc => ?_)
        · have h := cond_t h hc
          refine Wp.srg [] [] ?_
          refine Runs.alln ?_
          refine Wp.fg ⟨[(0, .t (.sl 2 (p0.map Sum.enc))), (1, .t (.sl 2 (p1.map Sum.enc))), (4, .t (.bool false)), (5, .t (.int .i64 x2))], [], []⟩ ?_
          refine Wp.ret ?_
          refine blkR ?_
          refine thenR ?_
          refine thenR ?_
          refine blkR ?_
          refine thenR ?_
          obtain rfl := Option.some.inj h
          exact RetK [.t (.bool false)] _ [] kr kr (.refl _) .nil
        have h := cond_f h hc
        refine Wp.skip ?_
        refine blkN ?_
        refine thenN ?_
        refine Wp.rg [] [] ?_
        refine Runs.alln ?_
        exact ⟨(p0, p1, bAdd .i64 x2 1), h, Le.of (mo := []) (mr := []) kr kr kr kr⟩
      have h := cond_f h hc
      refine Wp.exit ?_
      refine thenE ?_
      refine thenE ?_
      refine blkE ?_
      refine thenN ?_
      exact ⟨(), h, Le.of (mo := []) (mr := []) kr kr kr kr⟩
theorem laws_eqManifest_ok (u : Nat) (p0 : Manifest) (p1 : Manifest) (r : Bool) (h : laws_eqManifest u p0 p1 = some r) : CallOK Tryz.prog 145 [.agg [.t (.int .i64 p0.fGen), .t (.int .i64 p0.fSize), .t (.int .i64 p0.fLen), .t (.sl 2 (p0.fSums.map Sum.enc))], .agg [.t (.int .i64 p1.fGen), .t (.int .i64 p1.fSize), .t (.int .i64 p1.fLen), .t (.sl 2 (p1.fSums.map Sum.enc))]] (.one (.t (.bool r))) [] := by
  unfold laws_eqManifest at h
  refine CallOK.of_bodyK (fn := Tryz.f145) (m := false) [.agg ((Manifest.enc p0).map .t), .agg ((Manifest.enc p1).map .t)] kr rfl kr kr kr kr kr ?_
  refine Wp.srg [] [] ?_
  refine Runs.alln ?_
  refine Wp.fg ⟨[(2, .obj 2 0), (3, .obj 3 0), (4, .t (.bool false))], [(2, ((Manifest.enc p0).map .t)), (3, ((Manifest.enc p1).map .t))], []⟩ ?_
  refine Wp.seq ?_
  refine Wp.srg [] [] ?_
  refine Runs.alln ?_
  refine Wp.fg ⟨[(2, .obj 2 0), (3, .obj 3 0), (4, .t (.bool false)), (9, .t (.bool (p0.fGen != p1.fGen)))], [(2, ((Manifest.enc p0).map .t)), (3, ((Manifest.enc p1).map .t))], []⟩ ?_
  refine Wp.cond2 (b := p0.fGen != p1.fGen) kr (fun hc => ?_) (fun hc => ?_)
  · have h := cond_t h hc
    refine Wp.srg [] [] ?_
    refine Runs.alln ?_
    refine Wp.fg ⟨[(2, .obj 2 0), (3, .obj 3 0), (4, .t (.bool false))], [(2, ((Manifest.enc p0).map .t)), (3, ((Manifest.enc p1).map .t))], []⟩ ?_
    refine Wp.ret ?_
    refine thenR ?_
    obtain rfl := Option.some.inj h
    exact RetK [.t (.bool false)] _ [] kr kr (.refl _) .nil
  have h := cond_f h hc
  refine Wp.skip (thenN ?_)
  refine Wp.seq ?_
  refine Wp.srg [] [] ?_
  refine Runs.alln ?_
  refine Wp.fg ⟨[(2, .obj 2 0), (3, .obj 3 0), (4, .t (.bool false)), (14, .t (.bool (p0.fSize != p1.fSize)))], [(2, ((Manifest.enc p0).map .t)), (3, ((Manifest.enc p1).map .t))], []⟩ ?_
  refine Wp.cond2 (b := p0.fSize != p1.fSize) kr (fun hc => ?_) (fun hc => ?_)
  · have h := cond_t h hc
    refine Wp.srg [] [] ?_
    refine Runs.alln ?_
    refine Wp.fg ⟨[(2, .obj 2 0), (3, .obj 3 0), (4, .t (.bool false))], [(2, ((Manifest.enc p0).map .t)), (3, ((Manifest.enc p1).map .t))], []⟩ ?_
    refine Wp.ret ?_
    refine thenR ?_
    obtain rfl := Option.some.inj h
    exact RetK [.t (.bool false)] _ [] kr kr (.refl _) .nil
  have h := cond_f h hc
  refine Wp.skip (thenN ?_)
  refine Wp.seq ?_
  refine Wp.srg [] [] ?_
  refine Runs.alln ?_
  refine Wp.fg ⟨[(2, .obj 2 0), (3, .obj 3 0), (4, .t (.bool false)), (19, .t (.bool (p0.fLen != p1.fLen)))], [(2, ((Manifest.enc p0).map .t)), (3, ((Manifest.enc p1).map .t))], []⟩ ?_
  refine Wp.cond2 (b := p0.fLen != p1.fLen) kr (fun hc => ?_) (fun hc => ?_)
  · have h := cond_t h hc
    refine Wp.srg [] [] ?_
    refine Runs.alln ?_
    refine Wp.fg ⟨[(2, .obj 2 0), (3, .obj 3 0), (4, .t (.bool false))], [(2, ((Manifest.enc p0).map .t)), (3, ((Manifest.enc p1).map .t))], []⟩ ?_
    refine Wp.ret ?_
    refine thenR ?_
    obtain rfl := Option.some.inj h
    exact RetK [.t (.bool false)] _ [] kr kr (.refl _) .nil
  have h := cond_f h hc
  refine Wp.skip (thenN ?_)
  refine Wp.seq ?_
  refine Wp.srg [] [] ?_
  refine Runs.batch 4 kr ?_
  obtain ⟨r1, e_r1, h⟩ := bind_some h
  refine Runs.callK false 24 178 [] [.t (.sl 2 (p0.fSums.map Sum.enc)), .t (.sl 2 (p1.fSums.map Sum.enc))] _ _ _ rfl rfl kr kr kr kr kr (laws_eqSumS_ok u p0.fSums p1.fSums r1 e_r1) kr ?_
  refine Runs.alln ?_
  refine Wp.fg ⟨[(4, .t (.bool false)), (25, .t (.bool (!r1)))], [], []⟩ ?_
  refine Wp.cond2 (b := !r1) kr (fun hc => ?_) (fun hc => ?_)
  · have h := cond_t h hc
    refine Wp.srg [] [] ?_
    refine Runs.alln ?_
    refine Wp.fg ⟨[(4, .t (.bool false))], [], []⟩ ?_
    refine Wp.ret ?_
    refine thenR ?_
    obtain rfl := Option.some.inj h
    exact RetK [.t (.bool false)] _ [] kr kr (.refl _) .nil
  have h := cond_f h hc
  refine Wp.skip (thenN ?_)
  refine Wp.srg [] [] ?_
  refine Runs.alln ?_
  refine Wp.fg ⟨[(4, .t (.bool true))], [], []⟩ ?_
  refine Wp.ret ?_
  obtain rfl := Option.some.inj h
  exact RetK [.t (.bool true)] _ [] kr kr (.refl _) .nil
theorem laws_eqBuild_ok (u : Nat) (p0 : Build) (p1 : Build) (r : Bool) (h : laws_eqBuild u p0 p1 = some r) : CallOK Tryz.prog 146 [.agg [.t (.int .i64 p0.fHave), .t (.sl 1 (p0.fBuf.map (eInt .u8)))], .agg [.t (.int .i64 p1.fHave), .t (.sl 1 (p1.fBuf.map (eInt .u8)))]] (.one (.t (.bool r))) [] := by
  unfold laws_eqBuild at h
  refine CallOK.of_bodyK (fn := Tryz.f146) (m := false) [.agg [.t (.int .i64 p0.fHave), .t (.sl 1 (p0.fBuf.map (eInt .u8)))], .agg [.t (.int .i64 p1.fHave), .t (.sl 1 (p1.fBuf.map (eInt .u8)))]] kr rfl kr kr kr kr kr ?_
  refine Wp.srg [] [] ?_
  refine Runs.alln ?_
  refine Wp.fg ⟨[(2, .obj 2 0), (3, .obj 3 0), (4, .t (.bool false))], [(2, [.t (.int .i64 p0.fHave), .t (.sl 1 (p0.fBuf.map (eInt .u8)))]), (3, [.t (.int .i64 p1.fHave), .t (.sl 1 (p1.fBuf.map (eInt .u8)))])], []⟩ ?_
  refine Wp.seq ?_
  refine Wp.srg [] [] ?_
  refine Runs.alln ?_
  refine Wp.fg ⟨[(2, .obj 2 0), (3, .obj 3 0), (4, .t (.bool false)), (9, .t (.bool (p0.fHave != p1.fHave)))], [(2, [.t (.int .i64 p0.fHave), .t (.sl 1 (p0.fBuf.map (eInt .u8)))]), (3, [.t (.int .i64 p1.fHave), .t (.sl 1 (p1.fBuf.map (eInt .u8)))])], []⟩ ?_
  refine Wp.cond2 (b := p0.fHave != p1.fHave) kr (fun hc => ?_) (fun hc => ?_)
  · have h := cond_t h hc
    refine Wp.srg [] [] ?_
    refine Runs.alln ?_
    refine Wp.fg ⟨[(2, .obj 2 0), (3, .obj 3 0), (4, .t (.bool false))], [(2, [.t (.int .i64 p0.fHave), .t (.sl 1 (p0.fBuf.map (eInt .u8)))]), (3, [.t (.int .i64 p1.fHave), .t (.sl 1 (p1.fBuf.map (eInt .u8)))])], []⟩ ?_
    refine Wp.ret ?_
    refine thenR ?_
    obtain rfl := Option.some.inj h
    exact RetK [.t (.bool false)] _ [] kr kr (.refl _) .nil
  have h := cond_f h hc
  refine Wp.skip (thenN ?_)
  refine Wp.seq ?_
  refine Wp.srg [] [] ?_
  refine Runs.batch 4 kr ?_
  obtain ⟨r1, e_r1, h⟩ := bind_some h
  refine Runs.callK false 14 54 [] [.t (.sl 1 (p0.fBuf.map (eInt .u8))), .t (.sl 1 (p1.fBuf.map (eInt .u8)))] _ _ _ rfl rfl kr kr kr kr kr (laws_eqByteS_ok u p0.fBuf p1.fBuf r1 e_r1) kr ?_
  refine Runs.alln ?_
  refine Wp.fg ⟨[(4, .t (.bool false)), (15, .t (.bool (!r1)))], [], []⟩ ?_
  refine Wp.cond2 (b := !r1) kr (fun hc => ?_) (fun hc => ?_)
  · have h := cond_t h hc
    refine Wp.srg [] [] ?_
    refine Runs.alln ?_
    refine Wp.fg ⟨[(4, .t (.bool false))], [], []⟩ ?_
    refine Wp.ret ?_
    refine thenR ?_
    obtain rfl := Option.some.inj h
    exact RetK [.t (.bool false)] _ [] kr kr (.refl _) .nil
  have h := cond_f h hc
  refine Wp.skip (thenN ?_)
  refine Wp.srg [] [] ?_
  refine Runs.alln ?_
  refine Wp.fg ⟨[(4, .t (.bool true))], [], []⟩ ?_
  refine Wp.ret ?_
  obtain rfl := Option.some.inj h
  exact RetK [.t (.bool true)] _ [] kr kr (.refl _) .nil
theorem laws_eqKid_ok (u : Nat) (p0 : Kid) (p1 : Kid) (r : Bool) (h : laws_eqKid u p0 p1 = some r) : CallOK Tryz.prog 179 [.agg [.t (.int .i64 p0.fId), .t (.int .i64 p0.fWant), .t (.int .i64 p0.fDone), .t (.int .i64 p0.fAge), .t (.int .i64 p0.fSent)], .agg [.t (.int .i64 p1.fId), .t (.int .i64 p1.fWant), .t (.int .i64 p1.fDone), .t (.int .i64 p1.fAge), .t (.int .i64 p1.fSent)]] (.one (.t (.bool r))) [] := by
  unfold laws_eqKid at h
  refine CallOK.of_bodyK (fn := Tryz.f179) (m := false) [.agg ((Kid.enc p0).map .t), .agg ((Kid.enc p1).map .t)] kr rfl kr kr kr kr kr ?_
  refine Wp.srg [] [] ?_
  refine Runs.alln ?_
  refine Wp.fg ⟨[(2, .obj 2 0), (3, .obj 3 0), (4, .t (.bool false))], [(2, ((Kid.enc p0).map .t)), (3, ((Kid.enc p1).map .t))], []⟩ ?_
  refine Wp.seq ?_
  refine Wp.srg [] [] ?_
  refine Runs.alln ?_
  refine Wp.fg ⟨[(2, .obj 2 0), (3, .obj 3 0), (4, .t (.bool false)), (9, .t (.bool (p0.fId != p1.fId)))], [(2, ((Kid.enc p0).map .t)), (3, ((Kid.enc p1).map .t))], []⟩ ?_
  refine Wp.cond2 (b := p0.fId != p1.fId) kr (fun hc => ?_) (fun hc => ?_)
  · have h := cond_t h hc
    refine Wp.srg [] [] ?_
    refine Runs.alln ?_
    refine Wp.fg ⟨[(2, .obj 2 0), (3, .obj 3 0), (4, .t (.bool false))], [(2, ((Kid.enc p0).map .t)), (3, ((Kid.enc p1).map .t))], []⟩ ?_
    refine Wp.ret ?_
    refine thenR ?_
    obtain rfl := Option.some.inj h
    exact RetK [.t (.bool false)] _ [] kr kr (.refl _) .nil
  have h := cond_f h hc
  refine Wp.skip (thenN ?_)
  refine Wp.seq ?_
  refine Wp.srg [] [] ?_
  refine Runs.alln ?_
  refine Wp.fg ⟨[(2, .obj 2 0), (3, .obj 3 0), (4, .t (.bool false)), (14, .t (.bool (p0.fWant != p1.fWant)))], [(2, ((Kid.enc p0).map .t)), (3, ((Kid.enc p1).map .t))], []⟩ ?_
  refine Wp.cond2 (b := p0.fWant != p1.fWant) kr (fun hc => ?_) (fun hc => ?_)
  · have h := cond_t h hc
    refine Wp.srg [] [] ?_
    refine Runs.alln ?_
    refine Wp.fg ⟨[(2, .obj 2 0), (3, .obj 3 0), (4, .t (.bool false))], [(2, ((Kid.enc p0).map .t)), (3, ((Kid.enc p1).map .t))], []⟩ ?_
    refine Wp.ret ?_
    refine thenR ?_
    obtain rfl := Option.some.inj h
    exact RetK [.t (.bool false)] _ [] kr kr (.refl _) .nil
  have h := cond_f h hc
  refine Wp.skip (thenN ?_)
  refine Wp.seq ?_
  refine Wp.srg [] [] ?_
  refine Runs.alln ?_
  refine Wp.fg ⟨[(2, .obj 2 0), (3, .obj 3 0), (4, .t (.bool false)), (19, .t (.bool (p0.fDone != p1.fDone)))], [(2, ((Kid.enc p0).map .t)), (3, ((Kid.enc p1).map .t))], []⟩ ?_
  refine Wp.cond2 (b := p0.fDone != p1.fDone) kr (fun hc => ?_) (fun hc => ?_)
  · have h := cond_t h hc
    refine Wp.srg [] [] ?_
    refine Runs.alln ?_
    refine Wp.fg ⟨[(2, .obj 2 0), (3, .obj 3 0), (4, .t (.bool false))], [(2, ((Kid.enc p0).map .t)), (3, ((Kid.enc p1).map .t))], []⟩ ?_
    refine Wp.ret ?_
    refine thenR ?_
    obtain rfl := Option.some.inj h
    exact RetK [.t (.bool false)] _ [] kr kr (.refl _) .nil
  have h := cond_f h hc
  refine Wp.skip (thenN ?_)
  refine Wp.seq ?_
  refine Wp.srg [] [] ?_
  refine Runs.alln ?_
  refine Wp.fg ⟨[(2, .obj 2 0), (3, .obj 3 0), (4, .t (.bool false)), (24, .t (.bool (p0.fAge != p1.fAge)))], [(2, ((Kid.enc p0).map .t)), (3, ((Kid.enc p1).map .t))], []⟩ ?_
  refine Wp.cond2 (b := p0.fAge != p1.fAge) kr (fun hc => ?_) (fun hc => ?_)
  · have h := cond_t h hc
    refine Wp.srg [] [] ?_
    refine Runs.alln ?_
    refine Wp.fg ⟨[(2, .obj 2 0), (3, .obj 3 0), (4, .t (.bool false))], [(2, ((Kid.enc p0).map .t)), (3, ((Kid.enc p1).map .t))], []⟩ ?_
    refine Wp.ret ?_
    refine thenR ?_
    obtain rfl := Option.some.inj h
    exact RetK [.t (.bool false)] _ [] kr kr (.refl _) .nil
  have h := cond_f h hc
  refine Wp.skip (thenN ?_)
  refine Wp.seq ?_
  refine Wp.srg [] [] ?_
  refine Runs.alln ?_
  refine Wp.fg ⟨[(4, .t (.bool false)), (29, .t (.bool (p0.fSent != p1.fSent)))], [], []⟩ ?_
  refine Wp.cond2 (b := p0.fSent != p1.fSent) kr (fun hc => ?_) (fun hc => ?_)
  · have h := cond_t h hc
    refine Wp.srg [] [] ?_
    refine Runs.alln ?_
    refine Wp.fg ⟨[(4, .t (.bool false))], [], []⟩ ?_
    refine Wp.ret ?_
    refine thenR ?_
    obtain rfl := Option.some.inj h
    exact RetK [.t (.bool false)] _ [] kr kr (.refl _) .nil
  have h := cond_f h hc
  refine Wp.skip (thenN ?_)
  refine Wp.srg [] [] ?_
  refine Runs.alln ?_
  refine Wp.fg ⟨[(4, .t (.bool true))], [], []⟩ ?_
  refine Wp.ret ?_
  obtain rfl := Option.some.inj h
  exact RetK [.t (.bool true)] _ [] kr kr (.refl _) .nil
theorem laws_eqKidS_ok (u : Nat) (p0 : List Kid) (p1 : List Kid) (r : Bool) (h : laws_eqKidS u p0 p1 = some r) : CallOK Tryz.prog 147 [.one (.t (.sl 5 (p0.map Kid.enc))), .one (.t (.sl 5 (p1.map Kid.enc)))] (.one (.t (.bool r))) [] := by
  unfold laws_eqKidS at h
  refine CallOK.of_bodyK (fn := Tryz.f147) (m := false) [.t (.sl 5 (p0.map Kid.enc)), .t (.sl 5 (p1.map Kid.enc))] kr rfl kr kr kr kr kr ?_
  refine Wp.srg [] [] ?_
  refine Runs.alln ?_
  refine Wp.fg ⟨[(0, .t (.sl 5 (p0.map Kid.enc))), (1, .t (.sl 5 (p1.map Kid.enc))), (4, .t (.bool false))], [], []⟩ ?_
  refine Wp.seq ?_
  refine Wp.srg [] [] ?_
  refine Runs.batch 1 kr ?_
  refine Runs.lenT (y := .t (.sl 5 (p0.map Kid.enc))) (e := 175) Kid.enc p0 5 rfl rfl rfl kr kr kr kr kr ?_
  refine Runs.batch 1 kr ?_
  refine Runs.lenT (y := .t (.sl 5 (p1.map Kid.enc))) (e := 175) Kid.enc p1 5 rfl rfl rfl kr kr kr kr kr ?_
  refine Runs.alln ?_
  refine Wp.fg ⟨[(0, .t (.sl 5 (p0.map Kid.enc))), (1, .t (.sl 5 (p1.map Kid.enc))), (4, .t (.bool false)), (10, .t (.bool (((p0.length : Int)) != ((p1.length : Int)))))], [], []⟩ ?_
  refine Wp.cond2 (b := ((p0.length : Int)) != ((p1.length : Int))) kr (fun hc => ?_) (fun hc => ?_)
  · have h := cond_t h hc
    refine Wp.srg [] [] ?_
    refine Runs.alln ?_
    refine Wp.fg ⟨[(0, .t (.sl 5 (p0.map Kid.enc))), (1, .t (.sl 5 (p1.map Kid.enc))), (4, .t (.bool false))], [], []⟩ ?_
    refine Wp.ret ?_
    refine thenR ?_
    obtain rfl := Option.some.inj h
    exact RetK [.t (.bool false)] _ [] kr kr (.refl _) .nil
  have h := cond_f h hc
  refine Wp.skip (thenN ?_)
  refine Wp.seqJ (α := Unit) (fun a => ⟨[(4, .t (.bool false))], [], []⟩) (fun a => laws_eqKidS_j1 u = some r) ?_ ?_
  · rintro ⟨⟩ h
    change laws_eqKidS_j1 u = some r at h
    unfold laws_eqKidS_j1 at h
    refine Wp.srg [] [] ?_
    refine Runs.alln ?_
    refine Wp.fg ⟨[(4, .t (.bool true))], [], []⟩ ?_
    refine Wp.ret ?_
    obtain rfl := Option.some.inj h
    exact RetK [.t (.bool true)] _ [] kr kr (.refl _) .nil
  · refine Wp.srg [] [] ?_
    refine Runs.alln ?_
    refine Wp.fg ⟨[(0, .t (.sl 5 (p0.map Kid.enc))), (1, .t (.sl 5 (p1.map Kid.enc))), (4, .t (.bool false)), (5, .t (.int .i64 0))], [], []⟩ ?_
    refine Wp.block ?_
    refine Wp.loopF (α := (List Kid) × (List Kid) × Int) (fun a => ⟨[(0, .t (.sl 5 (a.1.map Kid.enc))), (1, .t (.sl 5 (a.2.1.map Kid.enc))), (4, .t (.bool false)), (5, .t (.int .i64 a.2.2))], [], []⟩) (fun k_laws_eqKidS_l2 a => laws_eqKidS_l2 u k_laws_eqKidS_l2 a.1 a.2.1 a.2.2 = some r) ?_ ?_ u (p0, p1, 0) h (Le.of (mo := []) (mr := []) kr kr kr kr)
    · intro a h; unfold laws_eqKidS_l2 at h; cases h
    · rintro k_laws_eqKidS_l2 ⟨p0, p1, x2⟩ h
      change laws_eqKidS_l2 u (k_laws_eqKidS_l2 + 1) p0 p1 x2 = some r at h
      rw [laws_eqKidS_l2] at h
      refine Wp.seq ?_
      refine Wp.srg [] [] ?_
      refine Runs.batch 2 kr ?_
      refine Runs.lenT (y := .t (.sl 5 (p0.map Kid.enc))) (e := 175) Kid.enc p0 5 rfl rfl rfl kr kr kr kr kr ?_
      refine Runs.alln ?_
      refine Wp.fg ⟨[(0, .t (.sl 5 (p0.map Kid.enc))), (1, .t (.sl 5 (p1.map Kid.enc))), (4, .t (.bool false)), (5, .t (.int .i64 x2)), (14, .t (.bool (decide (x2 < ((p0.length : Int))))))], [], []⟩ ?_
      refine Wp.cond2 (b := decide (x2 < ((p0.length : Int)))) kr (fun hc => ?_) (fun hc => ?_)
      · have h := cond_t h hc
        refine Wp.skip (thenN ?_)
        refine Wp.seq ?_
        refine Wp.block ?_
        refine Wp.seq ?_
        refine Wp.regionA (pOf []) (rhoOf [(0, .frz), (1, .frz), (5, .frz), (17, .frz), (18, .frz), (19, .frz), (20, .frz), (21, .frz), (22, .frz), (23, .frz), (24, .frz), (25, .frz)]) kr kr ?_
        refine Runs.batch 2 kr ?_
        obtain ⟨y4, e_y4, h⟩ := bind_some h
        refine Runs.idxT (e := 175) (kk := .i64) (sz := 5) Kid.enc p0 x2 rfl kr kr kr kr kr kr e_y4 ?_
        refine Runs.batch 3 kr ?_
        obtain ⟨y5, e_y5, h⟩ := bind_some h
        refine Runs.idxT (e := 175) (kk := .i64) (sz := 5) Kid.enc p1 x2 rfl kr kr kr kr kr kr e_y5 ?_
        refine Runs.batch 1 kr ?_
        obtain ⟨r6, e_r6, h⟩ := bind_some h
        refine Runs.callK false 25 179 [] [.agg ((Kid.enc y4).map .t), .agg ((Kid.enc y5).map .t)] _ _ _ rfl rfl kr kr kr kr kr (laws_eqKid_ok u y4 y5 r6 e_r6) kr ?_
        refine Runs.alln ?_
        refine Wp.fg ⟨[(0, .t (.sl 5 (p0.map Kid.enc))), (1, .t (.sl 5 (p1.map Kid.enc))), (4, .t (.bool false)), (5, .t (.int .i64 x2)), (26, .t (.bool (!r6)))], [], []⟩ ?_
        refine Wp.cond2 (b := !r6) kr (fun hc => ?_) (fun hc => ?_)
        · have h := cond_t h hc
          refine Wp.srg [] [] ?_
          refine Runs.alln ?_
          refine Wp.fg ⟨[(0, .t (.sl 5 (p0.map Kid.enc))), (1, .t (.sl 5 (p1.map Kid.enc))), (4, .t (.bool false)), (5, .t (.int .i64 x2))], [], []⟩ ?_
          refine Wp.ret ?_
          refine blkR ?_
          refine thenR ?_
          refine thenR ?_
          refine blkR ?_
          refine thenR ?_
          obtain rfl := Option.some.inj h
          exact RetK [.t (.bool false)] _ [] kr kr (.refl _) .nil
        have h := cond_f h hc
        refine Wp.skip ?_
        refine blkN ?_
        refine thenN ?_
        refine Wp.rg [] [] ?_
        refine Runs.alln ?_
        exact ⟨(p0, p1, bAdd .i64 x2 1), h, Le.of (mo := []) (mr := []) kr kr kr kr⟩
      have h := cond_f h hc
      refine Wp.exit ?_
      refine thenE ?_
      refine thenE ?_
      refine blkE ?_
      refine thenN ?_
      exact ⟨(), h, Le.of (mo := []) (mr := []) kr kr kr kr⟩
theorem laws_eqNode_ok (u : Nat) (p0 : Node) (p1 : Node) (r : Bool) (h : laws_eqNode u p0 p1 = some r) : CallOK Tryz.prog 107 [.agg [.t (.bool p0.fOn), .t (.int .i64 p0.fBoss), .t (.int .i64 p0.fQuiet), .t (.int .i64 p0.fMan.fGen), .t (.int .i64 p0.fMan.fSize), .t (.int .i64 p0.fMan.fLen), .t (.sl 2 (p0.fMan.fSums.map Sum.enc)), .t (.int .i64 p0.fBld.fHave), .t (.sl 1 (p0.fBld.fBuf.map (eInt .u8))), .t (.int .i64 p0.fPhase), .t (.sl 5 (p0.fKids.map Kid.enc)), .t (.int .i64 p0.fDrops)], .agg [.t (.bool p1.fOn), .t (.int .i64 p1.fBoss), .t (.int .i64 p1.fQuiet), .t (.int .i64 p1.fMan.fGen), .t (.int .i64 p1.fMan.fSize), .t (.int .i64 p1.fMan.fLen), .t (.sl 2 (p1.fMan.fSums.map Sum.enc)), .t (.int .i64 p1.fBld.fHave), .t (.sl 1 (p1.fBld.fBuf.map (eInt .u8))), .t (.int .i64 p1.fPhase), .t (.sl 5 (p1.fKids.map Kid.enc)), .t (.int .i64 p1.fDrops)]] (.one (.t (.bool r))) [] := by
  unfold laws_eqNode at h
  refine CallOK.of_bodyK (fn := Tryz.f107) (m := false) [.agg ((Node.enc p0).map .t), .agg ((Node.enc p1).map .t)] kr rfl kr kr kr kr kr ?_
  refine Wp.srg [] [] ?_
  refine Runs.alln ?_
  refine Wp.fg ⟨[(2, .obj 2 0), (3, .obj 3 0), (4, .t (.bool false))], [(2, ((Node.enc p0).map .t)), (3, ((Node.enc p1).map .t))], []⟩ ?_
  refine Wp.seq ?_
  refine Wp.srg [] [] ?_
  refine Runs.alln ?_
  refine Wp.fg ⟨[(2, .obj 2 0), (3, .obj 3 0), (4, .t (.bool false)), (9, .t (.bool (!(p0.fOn == p1.fOn))))], [(2, ((Node.enc p0).map .t)), (3, ((Node.enc p1).map .t))], []⟩ ?_
  refine Wp.cond2 (b := !(p0.fOn == p1.fOn)) kr (fun hc => ?_) (fun hc => ?_)
  · have h := cond_t h hc
    refine Wp.srg [] [] ?_
    refine Runs.alln ?_
    refine Wp.fg ⟨[(2, .obj 2 0), (3, .obj 3 0), (4, .t (.bool false))], [(2, ((Node.enc p0).map .t)), (3, ((Node.enc p1).map .t))], []⟩ ?_
    refine Wp.ret ?_
    refine thenR ?_
    obtain rfl := Option.some.inj h
    exact RetK [.t (.bool false)] _ [] kr kr (.refl _) .nil
  have h := cond_f h hc
  refine Wp.skip (thenN ?_)
  refine Wp.seq ?_
  refine Wp.srg [] [] ?_
  refine Runs.alln ?_
  refine Wp.fg ⟨[(2, .obj 2 0), (3, .obj 3 0), (4, .t (.bool false)), (14, .t (.bool (p0.fBoss != p1.fBoss)))], [(2, ((Node.enc p0).map .t)), (3, ((Node.enc p1).map .t))], []⟩ ?_
  refine Wp.cond2 (b := p0.fBoss != p1.fBoss) kr (fun hc => ?_) (fun hc => ?_)
  · have h := cond_t h hc
    refine Wp.srg [] [] ?_
    refine Runs.alln ?_
    refine Wp.fg ⟨[(2, .obj 2 0), (3, .obj 3 0), (4, .t (.bool false))], [(2, ((Node.enc p0).map .t)), (3, ((Node.enc p1).map .t))], []⟩ ?_
    refine Wp.ret ?_
    refine thenR ?_
    obtain rfl := Option.some.inj h
    exact RetK [.t (.bool false)] _ [] kr kr (.refl _) .nil
  have h := cond_f h hc
  refine Wp.skip (thenN ?_)
  refine Wp.seq ?_
  refine Wp.srg [] [] ?_
  refine Runs.alln ?_
  refine Wp.fg ⟨[(2, .obj 2 0), (3, .obj 3 0), (4, .t (.bool false)), (19, .t (.bool (p0.fQuiet != p1.fQuiet)))], [(2, ((Node.enc p0).map .t)), (3, ((Node.enc p1).map .t))], []⟩ ?_
  refine Wp.cond2 (b := p0.fQuiet != p1.fQuiet) kr (fun hc => ?_) (fun hc => ?_)
  · have h := cond_t h hc
    refine Wp.srg [] [] ?_
    refine Runs.alln ?_
    refine Wp.fg ⟨[(2, .obj 2 0), (3, .obj 3 0), (4, .t (.bool false))], [(2, ((Node.enc p0).map .t)), (3, ((Node.enc p1).map .t))], []⟩ ?_
    refine Wp.ret ?_
    refine thenR ?_
    obtain rfl := Option.some.inj h
    exact RetK [.t (.bool false)] _ [] kr kr (.refl _) .nil
  have h := cond_f h hc
  refine Wp.skip (thenN ?_)
  refine Wp.seq ?_
  refine Wp.srg [] [] ?_
  refine Runs.batch 4 kr ?_
  obtain ⟨r1, e_r1, h⟩ := bind_some h
  refine Runs.callK false 24 145 [] [.agg ((Manifest.enc p0.fMan).map .t), .agg ((Manifest.enc p1.fMan).map .t)] _ _ _ rfl rfl kr kr kr kr kr (laws_eqManifest_ok u p0.fMan p1.fMan r1 e_r1) kr ?_
  refine Runs.alln ?_
  refine Wp.fg ⟨[(2, .obj 2 0), (3, .obj 3 0), (4, .t (.bool false)), (25, .t (.bool (!r1)))], [(2, ((Node.enc p0).map .t)), (3, ((Node.enc p1).map .t))], []⟩ ?_
  refine Wp.cond2 (b := !r1) kr (fun hc => ?_) (fun hc => ?_)
  · have h := cond_t h hc
    refine Wp.srg [] [] ?_
    refine Runs.alln ?_
    refine Wp.fg ⟨[(2, .obj 2 0), (3, .obj 3 0), (4, .t (.bool false))], [(2, ((Node.enc p0).map .t)), (3, ((Node.enc p1).map .t))], []⟩ ?_
    refine Wp.ret ?_
    refine thenR ?_
    obtain rfl := Option.some.inj h
    exact RetK [.t (.bool false)] _ [] kr kr (.refl _) .nil
  have h := cond_f h hc
  refine Wp.skip (thenN ?_)
  refine Wp.seq ?_
  refine Wp.srg [] [] ?_
  refine Runs.batch 4 kr ?_
  obtain ⟨r2, e_r2, h⟩ := bind_some h
  refine Runs.callK false 30 146 [] [.agg [.t (.int .i64 p0.fBld.fHave), .t (.sl 1 (p0.fBld.fBuf.map (eInt .u8)))], .agg [.t (.int .i64 p1.fBld.fHave), .t (.sl 1 (p1.fBld.fBuf.map (eInt .u8)))]] _ _ _ rfl rfl kr kr kr kr kr (laws_eqBuild_ok u p0.fBld p1.fBld r2 e_r2) kr ?_
  refine Runs.alln ?_
  refine Wp.fg ⟨[(2, .obj 2 0), (3, .obj 3 0), (4, .t (.bool false)), (31, .t (.bool (!r2)))], [(2, ((Node.enc p0).map .t)), (3, ((Node.enc p1).map .t))], []⟩ ?_
  refine Wp.cond2 (b := !r2) kr (fun hc => ?_) (fun hc => ?_)
  · have h := cond_t h hc
    refine Wp.srg [] [] ?_
    refine Runs.alln ?_
    refine Wp.fg ⟨[(2, .obj 2 0), (3, .obj 3 0), (4, .t (.bool false))], [(2, ((Node.enc p0).map .t)), (3, ((Node.enc p1).map .t))], []⟩ ?_
    refine Wp.ret ?_
    refine thenR ?_
    obtain rfl := Option.some.inj h
    exact RetK [.t (.bool false)] _ [] kr kr (.refl _) .nil
  have h := cond_f h hc
  refine Wp.skip (thenN ?_)
  refine Wp.seq ?_
  refine Wp.srg [] [] ?_
  refine Runs.alln ?_
  refine Wp.fg ⟨[(2, .obj 2 0), (3, .obj 3 0), (4, .t (.bool false)), (36, .t (.bool (p0.fPhase != p1.fPhase)))], [(2, ((Node.enc p0).map .t)), (3, ((Node.enc p1).map .t))], []⟩ ?_
  refine Wp.cond2 (b := p0.fPhase != p1.fPhase) kr (fun hc => ?_) (fun hc => ?_)
  · have h := cond_t h hc
    refine Wp.srg [] [] ?_
    refine Runs.alln ?_
    refine Wp.fg ⟨[(2, .obj 2 0), (3, .obj 3 0), (4, .t (.bool false))], [(2, ((Node.enc p0).map .t)), (3, ((Node.enc p1).map .t))], []⟩ ?_
    refine Wp.ret ?_
    refine thenR ?_
    obtain rfl := Option.some.inj h
    exact RetK [.t (.bool false)] _ [] kr kr (.refl _) .nil
  have h := cond_f h hc
  refine Wp.skip (thenN ?_)
  refine Wp.seq ?_
  refine Wp.srg [] [] ?_
  refine Runs.batch 4 kr ?_
  obtain ⟨r3, e_r3, h⟩ := bind_some h
  refine Runs.callK false 41 147 [] [.t (.sl 5 (p0.fKids.map Kid.enc)), .t (.sl 5 (p1.fKids.map Kid.enc))] _ _ _ rfl rfl kr kr kr kr kr (laws_eqKidS_ok u p0.fKids p1.fKids r3 e_r3) kr ?_
  refine Runs.alln ?_
  refine Wp.fg ⟨[(2, .obj 2 0), (3, .obj 3 0), (4, .t (.bool false)), (42, .t (.bool (!r3)))], [(2, ((Node.enc p0).map .t)), (3, ((Node.enc p1).map .t))], []⟩ ?_
  refine Wp.cond2 (b := !r3) kr (fun hc => ?_) (fun hc => ?_)
  · have h := cond_t h hc
    refine Wp.srg [] [] ?_
    refine Runs.alln ?_
    refine Wp.fg ⟨[(2, .obj 2 0), (3, .obj 3 0), (4, .t (.bool false))], [(2, ((Node.enc p0).map .t)), (3, ((Node.enc p1).map .t))], []⟩ ?_
    refine Wp.ret ?_
    refine thenR ?_
    obtain rfl := Option.some.inj h
    exact RetK [.t (.bool false)] _ [] kr kr (.refl _) .nil
  have h := cond_f h hc
  refine Wp.skip (thenN ?_)
  refine Wp.seq ?_
  refine Wp.srg [] [] ?_
  refine Runs.alln ?_
  refine Wp.fg ⟨[(4, .t (.bool false)), (47, .t (.bool (p0.fDrops != p1.fDrops)))], [], []⟩ ?_
  refine Wp.cond2 (b := p0.fDrops != p1.fDrops) kr (fun hc => ?_) (fun hc => ?_)
  · have h := cond_t h hc
    refine Wp.srg [] [] ?_
    refine Runs.alln ?_
    refine Wp.fg ⟨[(4, .t (.bool false))], [], []⟩ ?_
    refine Wp.ret ?_
    refine thenR ?_
    obtain rfl := Option.some.inj h
    exact RetK [.t (.bool false)] _ [] kr kr (.refl _) .nil
  have h := cond_f h hc
  refine Wp.skip (thenN ?_)
  refine Wp.srg [] [] ?_
  refine Runs.alln ?_
  refine Wp.fg ⟨[(4, .t (.bool true))], [], []⟩ ?_
  refine Wp.ret ?_
  obtain rfl := Option.some.inj h
  exact RetK [.t (.bool true)] _ [] kr kr (.refl _) .nil
theorem laws_eqNodeS_ok (u : Nat) (p0 : List Node) (p1 : List Node) (r : Bool) (h : laws_eqNodeS u p0 p1 = some r) : CallOK Tryz.prog 56 [.one (.t (.sl 12 (p0.map Node.enc))), .one (.t (.sl 12 (p1.map Node.enc)))] (.one (.t (.bool r))) [] := by
  unfold laws_eqNodeS at h
  refine CallOK.of_bodyK (fn := Tryz.f56) (m := false) [.t (.sl 12 (p0.map Node.enc)), .t (.sl 12 (p1.map Node.enc))] kr rfl kr kr kr kr kr ?_
  refine Wp.srg [] [] ?_
  refine Runs.alln ?_
  refine Wp.fg ⟨[(0, .t (.sl 12 (p0.map Node.enc))), (1, .t (.sl 12 (p1.map Node.enc))), (4, .t (.bool false))], [], []⟩ ?_
  refine Wp.seq ?_
  refine Wp.srg [] [] ?_
  refine Runs.batch 1 kr ?_
  refine Runs.lenT (y := .t (.sl 12 (p0.map Node.enc))) (e := 97) Node.enc p0 12 rfl rfl rfl kr kr kr kr kr ?_
  refine Runs.batch 1 kr ?_
  refine Runs.lenT (y := .t (.sl 12 (p1.map Node.enc))) (e := 97) Node.enc p1 12 rfl rfl rfl kr kr kr kr kr ?_
  refine Runs.alln ?_
  refine Wp.fg ⟨[(0, .t (.sl 12 (p0.map Node.enc))), (1, .t (.sl 12 (p1.map Node.enc))), (4, .t (.bool false)), (10, .t (.bool (((p0.length : Int)) != ((p1.length : Int)))))], [], []⟩ ?_
  refine Wp.cond2 (b := ((p0.length : Int)) != ((p1.length : Int))) kr (fun hc => ?_) (fun hc => ?_)
  · have h := cond_t h hc
    refine Wp.srg [] [] ?_
    refine Runs.alln ?_
    refine Wp.fg ⟨[(0, .t (.sl 12 (p0.map Node.enc))), (1, .t (.sl 12 (p1.map Node.enc))), (4, .t (.bool false))], [], []⟩ ?_
    refine Wp.ret ?_
    refine thenR ?_
    obtain rfl := Option.some.inj h
    exact RetK [.t (.bool false)] _ [] kr kr (.refl _) .nil
  have h := cond_f h hc
  refine Wp.skip (thenN ?_)
  refine Wp.seqJ (α := Unit) (fun a => ⟨[(4, .t (.bool false))], [], []⟩) (fun a => laws_eqNodeS_j1 u = some r) ?_ ?_
  · rintro ⟨⟩ h
    change laws_eqNodeS_j1 u = some r at h
    unfold laws_eqNodeS_j1 at h
    refine Wp.srg [] [] ?_
    refine Runs.alln ?_
    refine Wp.fg ⟨[(4, .t (.bool true))], [], []⟩ ?_
    refine Wp.ret ?_
    obtain rfl := Option.some.inj h
    exact RetK [.t (.bool true)] _ [] kr kr (.refl _) .nil
  · refine Wp.srg [] [] ?_
    refine Runs.alln ?_
    refine Wp.fg ⟨[(0, .t (.sl 12 (p0.map Node.enc))), (1, .t (.sl 12 (p1.map Node.enc))), (4, .t (.bool false)), (5, .t (.int .i64 0))], [], []⟩ ?_
    refine Wp.block ?_
    refine Wp.loopF (α := (List Node) × (List Node) × Int) (fun a => ⟨[(0, .t (.sl 12 (a.1.map Node.enc))), (1, .t (.sl 12 (a.2.1.map Node.enc))), (4, .t (.bool false)), (5, .t (.int .i64 a.2.2))], [], []⟩) (fun k_laws_eqNodeS_l2 a => laws_eqNodeS_l2 u k_laws_eqNodeS_l2 a.1 a.2.1 a.2.2 = some r) ?_ ?_ u (p0, p1, 0) h (Le.of (mo := []) (mr := []) kr kr kr kr)
    · intro a h; unfold laws_eqNodeS_l2 at h; cases h
    · rintro k_laws_eqNodeS_l2 ⟨p0, p1, x2⟩ h
      change laws_eqNodeS_l2 u (k_laws_eqNodeS_l2 + 1) p0 p1 x2 = some r at h
      rw [laws_eqNodeS_l2] at h
      refine Wp.seq ?_
      refine Wp.srg [] [] ?_
      refine Runs.batch 2 kr ?_
      refine Runs.lenT (y := .t (.sl 12 (p0.map Node.enc))) (e := 97) Node.enc p0 12 rfl rfl rfl kr kr kr kr kr ?_
      refine Runs.alln ?_
      refine Wp.fg ⟨[(0, .t (.sl 12 (p0.map Node.enc))), (1, .t (.sl 12 (p1.map Node.enc))), (4, .t (.bool false)), (5, .t (.int .i64 x2)), (14, .t (.bool (decide (x2 < ((p0.length : Int))))))], [], []⟩ ?_
      refine Wp.cond2 (b := decide (x2 < ((p0.length : Int)))) kr (fun hc => ?_) (fun hc => ?_)
      · have h := cond_t h hc
        refine Wp.skip (thenN ?_)
        refine Wp.seq ?_
        refine Wp.block ?_
        refine Wp.seq ?_
        refine Wp.regionA (pOf []) (rhoOf [(0, .frz), (1, .frz), (5, .frz), (17, .frz), (18, .frz), (19, .frz), (20, .frz), (21, .frz), (22, .frz), (23, .frz), (24, .frz), (25, .frz)]) kr kr ?_
        refine Runs.batch 2 kr ?_
        obtain ⟨y4, e_y4, h⟩ := bind_some h
        refine Runs.idxT (e := 97) (kk := .i64) (sz := 12) Node.enc p0 x2 rfl kr kr kr kr kr kr e_y4 ?_
        refine Runs.batch 3 kr ?_
        obtain ⟨y5, e_y5, h⟩ := bind_some h
        refine Runs.idxT (e := 97) (kk := .i64) (sz := 12) Node.enc p1 x2 rfl kr kr kr kr kr kr e_y5 ?_
        refine Runs.batch 1 kr ?_
        obtain ⟨r6, e_r6, h⟩ := bind_some h
        refine Runs.callK false 25 107 [] [.agg ((Node.enc y4).map .t), .agg ((Node.enc y5).map .t)] _ _ _ rfl rfl kr kr kr kr kr (laws_eqNode_ok u y4 y5 r6 e_r6) kr ?_
        refine Runs.alln ?_
        refine Wp.fg ⟨[(0, .t (.sl 12 (p0.map Node.enc))), (1, .t (.sl 12 (p1.map Node.enc))), (4, .t (.bool false)), (5, .t (.int .i64 x2)), (26, .t (.bool (!r6)))], [], []⟩ ?_
        refine Wp.cond2 (b := !r6) kr (fun hc => ?_) (fun hc => ?_)
        · have h := cond_t h hc
          refine Wp.srg [] [] ?_
          refine Runs.alln ?_
          refine Wp.fg ⟨[(0, .t (.sl 12 (p0.map Node.enc))), (1, .t (.sl 12 (p1.map Node.enc))), (4, .t (.bool false)), (5, .t (.int .i64 x2))], [], []⟩ ?_
          refine Wp.ret ?_
          refine blkR ?_
          refine thenR ?_
          refine thenR ?_
          refine blkR ?_
          refine thenR ?_
          obtain rfl := Option.some.inj h
          exact RetK [.t (.bool false)] _ [] kr kr (.refl _) .nil
        have h := cond_f h hc
        refine Wp.skip ?_
        refine blkN ?_
        refine thenN ?_
        refine Wp.rg [] [] ?_
        refine Runs.alln ?_
        exact ⟨(p0, p1, bAdd .i64 x2 1), h, Le.of (mo := []) (mr := []) kr kr kr kr⟩
      have h := cond_f h hc
      refine Wp.exit ?_
      refine thenE ?_
      refine thenE ?_
      refine blkE ?_
      refine thenN ?_
      exact ⟨(), h, Le.of (mo := []) (mr := []) kr kr kr kr⟩
theorem laws_eqRecord_ok (u : Nat) (p0 : Record) (p1 : Record) (r : Bool) (h : laws_eqRecord u p0 p1 = some r) : CallOK Tryz.prog 148 [.agg [.t (.int .i64 p0.fGen), .t (.int .i64 p0.fSlot), .t (.int .i64 p0.fLen)], .agg [.t (.int .i64 p1.fGen), .t (.int .i64 p1.fSlot), .t (.int .i64 p1.fLen)]] (.one (.t (.bool r))) [] := by
  unfold laws_eqRecord at h
  refine CallOK.of_bodyK (fn := Tryz.f148) (m := false) [.agg ((Record.enc p0).map .t), .agg ((Record.enc p1).map .t)] kr rfl kr kr kr kr kr ?_
  refine Wp.srg [] [] ?_
  refine Runs.alln ?_
  refine Wp.fg ⟨[(2, .obj 2 0), (3, .obj 3 0), (4, .t (.bool false))], [(2, ((Record.enc p0).map .t)), (3, ((Record.enc p1).map .t))], []⟩ ?_
  refine Wp.seq ?_
  refine Wp.srg [] [] ?_
  refine Runs.alln ?_
  refine Wp.fg ⟨[(2, .obj 2 0), (3, .obj 3 0), (4, .t (.bool false)), (9, .t (.bool (p0.fGen != p1.fGen)))], [(2, ((Record.enc p0).map .t)), (3, ((Record.enc p1).map .t))], []⟩ ?_
  refine Wp.cond2 (b := p0.fGen != p1.fGen) kr (fun hc => ?_) (fun hc => ?_)
  · have h := cond_t h hc
    refine Wp.srg [] [] ?_
    refine Runs.alln ?_
    refine Wp.fg ⟨[(2, .obj 2 0), (3, .obj 3 0), (4, .t (.bool false))], [(2, ((Record.enc p0).map .t)), (3, ((Record.enc p1).map .t))], []⟩ ?_
    refine Wp.ret ?_
    refine thenR ?_
    obtain rfl := Option.some.inj h
    exact RetK [.t (.bool false)] _ [] kr kr (.refl _) .nil
  have h := cond_f h hc
  refine Wp.skip (thenN ?_)
  refine Wp.seq ?_
  refine Wp.srg [] [] ?_
  refine Runs.alln ?_
  refine Wp.fg ⟨[(2, .obj 2 0), (3, .obj 3 0), (4, .t (.bool false)), (14, .t (.bool (p0.fSlot != p1.fSlot)))], [(2, ((Record.enc p0).map .t)), (3, ((Record.enc p1).map .t))], []⟩ ?_
  refine Wp.cond2 (b := p0.fSlot != p1.fSlot) kr (fun hc => ?_) (fun hc => ?_)
  · have h := cond_t h hc
    refine Wp.srg [] [] ?_
    refine Runs.alln ?_
    refine Wp.fg ⟨[(2, .obj 2 0), (3, .obj 3 0), (4, .t (.bool false))], [(2, ((Record.enc p0).map .t)), (3, ((Record.enc p1).map .t))], []⟩ ?_
    refine Wp.ret ?_
    refine thenR ?_
    obtain rfl := Option.some.inj h
    exact RetK [.t (.bool false)] _ [] kr kr (.refl _) .nil
  have h := cond_f h hc
  refine Wp.skip (thenN ?_)
  refine Wp.seq ?_
  refine Wp.srg [] [] ?_
  refine Runs.alln ?_
  refine Wp.fg ⟨[(4, .t (.bool false)), (19, .t (.bool (p0.fLen != p1.fLen)))], [], []⟩ ?_
  refine Wp.cond2 (b := p0.fLen != p1.fLen) kr (fun hc => ?_) (fun hc => ?_)
  · have h := cond_t h hc
    refine Wp.srg [] [] ?_
    refine Runs.alln ?_
    refine Wp.fg ⟨[(4, .t (.bool false))], [], []⟩ ?_
    refine Wp.ret ?_
    refine thenR ?_
    obtain rfl := Option.some.inj h
    exact RetK [.t (.bool false)] _ [] kr kr (.refl _) .nil
  have h := cond_f h hc
  refine Wp.skip (thenN ?_)
  refine Wp.srg [] [] ?_
  refine Runs.alln ?_
  refine Wp.fg ⟨[(4, .t (.bool true))], [], []⟩ ?_
  refine Wp.ret ?_
  obtain rfl := Option.some.inj h
  exact RetK [.t (.bool true)] _ [] kr kr (.refl _) .nil
theorem laws_eqPut_ok (u : Nat) (p0 : Put) (p1 : Put) (r : Bool) (h : laws_eqPut u p0 p1 = some r) : CallOK Tryz.prog 180 [.agg [.t (.int .i64 p0.fWhat), .t (.int .i64 p0.fAt), .t (.sl 1 (p0.fB.map (eInt .u8))), .t (.int .i64 p0.fR.fGen), .t (.int .i64 p0.fR.fSlot), .t (.int .i64 p0.fR.fLen)], .agg [.t (.int .i64 p1.fWhat), .t (.int .i64 p1.fAt), .t (.sl 1 (p1.fB.map (eInt .u8))), .t (.int .i64 p1.fR.fGen), .t (.int .i64 p1.fR.fSlot), .t (.int .i64 p1.fR.fLen)]] (.one (.t (.bool r))) [] := by
  unfold laws_eqPut at h
  refine CallOK.of_bodyK (fn := Tryz.f180) (m := false) [.agg ((Put.enc p0).map .t), .agg ((Put.enc p1).map .t)] kr rfl kr kr kr kr kr ?_
  refine Wp.srg [] [] ?_
  refine Runs.alln ?_
  refine Wp.fg ⟨[(2, .obj 2 0), (3, .obj 3 0), (4, .t (.bool false))], [(2, ((Put.enc p0).map .t)), (3, ((Put.enc p1).map .t))], []⟩ ?_
  refine Wp.seq ?_
  refine Wp.srg [] [] ?_
  refine Runs.alln ?_
  refine Wp.fg ⟨[(2, .obj 2 0), (3, .obj 3 0), (4, .t (.bool false)), (9, .t (.bool (p0.fWhat != p1.fWhat)))], [(2, ((Put.enc p0).map .t)), (3, ((Put.enc p1).map .t))], []⟩ ?_
  refine Wp.cond2 (b := p0.fWhat != p1.fWhat) kr (fun hc => ?_) (fun hc => ?_)
  · have h := cond_t h hc
    refine Wp.srg [] [] ?_
    refine Runs.alln ?_
    refine Wp.fg ⟨[(2, .obj 2 0), (3, .obj 3 0), (4, .t (.bool false))], [(2, ((Put.enc p0).map .t)), (3, ((Put.enc p1).map .t))], []⟩ ?_
    refine Wp.ret ?_
    refine thenR ?_
    obtain rfl := Option.some.inj h
    exact RetK [.t (.bool false)] _ [] kr kr (.refl _) .nil
  have h := cond_f h hc
  refine Wp.skip (thenN ?_)
  refine Wp.seq ?_
  refine Wp.srg [] [] ?_
  refine Runs.alln ?_
  refine Wp.fg ⟨[(2, .obj 2 0), (3, .obj 3 0), (4, .t (.bool false)), (14, .t (.bool (p0.fAt != p1.fAt)))], [(2, ((Put.enc p0).map .t)), (3, ((Put.enc p1).map .t))], []⟩ ?_
  refine Wp.cond2 (b := p0.fAt != p1.fAt) kr (fun hc => ?_) (fun hc => ?_)
  · have h := cond_t h hc
    refine Wp.srg [] [] ?_
    refine Runs.alln ?_
    refine Wp.fg ⟨[(2, .obj 2 0), (3, .obj 3 0), (4, .t (.bool false))], [(2, ((Put.enc p0).map .t)), (3, ((Put.enc p1).map .t))], []⟩ ?_
    refine Wp.ret ?_
    refine thenR ?_
    obtain rfl := Option.some.inj h
    exact RetK [.t (.bool false)] _ [] kr kr (.refl _) .nil
  have h := cond_f h hc
  refine Wp.skip (thenN ?_)
  refine Wp.seq ?_
  refine Wp.srg [] [] ?_
  refine Runs.batch 4 kr ?_
  obtain ⟨r1, e_r1, h⟩ := bind_some h
  refine Runs.callK false 19 54 [] [.t (.sl 1 (p0.fB.map (eInt .u8))), .t (.sl 1 (p1.fB.map (eInt .u8)))] _ _ _ rfl rfl kr kr kr kr kr (laws_eqByteS_ok u p0.fB p1.fB r1 e_r1) kr ?_
  refine Runs.alln ?_
  refine Wp.fg ⟨[(2, .obj 2 0), (3, .obj 3 0), (4, .t (.bool false)), (20, .t (.bool (!r1)))], [(2, ((Put.enc p0).map .t)), (3, ((Put.enc p1).map .t))], []⟩ ?_
  refine Wp.cond2 (b := !r1) kr (fun hc => ?_) (fun hc => ?_)
  · have h := cond_t h hc
    refine Wp.srg [] [] ?_
    refine Runs.alln ?_
    refine Wp.fg ⟨[(2, .obj 2 0), (3, .obj 3 0), (4, .t (.bool false))], [(2, ((Put.enc p0).map .t)), (3, ((Put.enc p1).map .t))], []⟩ ?_
    refine Wp.ret ?_
    refine thenR ?_
    obtain rfl := Option.some.inj h
    exact RetK [.t (.bool false)] _ [] kr kr (.refl _) .nil
  have h := cond_f h hc
  refine Wp.skip (thenN ?_)
  refine Wp.seq ?_
  refine Wp.srg [] [] ?_
  refine Runs.batch 4 kr ?_
  obtain ⟨r2, e_r2, h⟩ := bind_some h
  refine Runs.callK false 25 148 [] [.agg ((Record.enc p0.fR).map .t), .agg ((Record.enc p1.fR).map .t)] _ _ _ rfl rfl kr kr kr kr kr (laws_eqRecord_ok u p0.fR p1.fR r2 e_r2) kr ?_
  refine Runs.alln ?_
  refine Wp.fg ⟨[(4, .t (.bool false)), (26, .t (.bool (!r2)))], [], []⟩ ?_
  refine Wp.cond2 (b := !r2) kr (fun hc => ?_) (fun hc => ?_)
  · have h := cond_t h hc
    refine Wp.srg [] [] ?_
    refine Runs.alln ?_
    refine Wp.fg ⟨[(4, .t (.bool false))], [], []⟩ ?_
    refine Wp.ret ?_
    refine thenR ?_
    obtain rfl := Option.some.inj h
    exact RetK [.t (.bool false)] _ [] kr kr (.refl _) .nil
  have h := cond_f h hc
  refine Wp.skip (thenN ?_)
  refine Wp.srg [] [] ?_
  refine Runs.alln ?_
  refine Wp.fg ⟨[(4, .t (.bool true))], [], []⟩ ?_
  refine Wp.ret ?_
  obtain rfl := Option.some.inj h
  exact RetK [.t (.bool true)] _ [] kr kr (.refl _) .nil
theorem laws_eqPutS_ok (u : Nat) (p0 : List Put) (p1 : List Put) (r : Bool) (h : laws_eqPutS u p0 p1 = some r) : CallOK Tryz.prog 149 [.one (.t (.sl 6 (p0.map Put.enc))), .one (.t (.sl 6 (p1.map Put.enc)))] (.one (.t (.bool r))) [] := by
  unfold laws_eqPutS at h
  refine CallOK.of_bodyK (fn := Tryz.f149) (m := false) [.t (.sl 6 (p0.map Put.enc)), .t (.sl 6 (p1.map Put.enc))] kr rfl kr kr kr kr kr ?_
  refine Wp.srg [] [] ?_
  refine Runs.alln ?_
  refine Wp.fg ⟨[(0, .t (.sl 6 (p0.map Put.enc))), (1, .t (.sl 6 (p1.map Put.enc))), (4, .t (.bool false))], [], []⟩ ?_
  refine Wp.seq ?_
  refine Wp.srg [] [] ?_
  refine Runs.batch 1 kr ?_
  refine Runs.lenT (y := .t (.sl 6 (p0.map Put.enc))) (e := 186) Put.enc p0 6 rfl rfl rfl kr kr kr kr kr ?_
  refine Runs.batch 1 kr ?_
  refine Runs.lenT (y := .t (.sl 6 (p1.map Put.enc))) (e := 186) Put.enc p1 6 rfl rfl rfl kr kr kr kr kr ?_
  refine Runs.alln ?_
  refine Wp.fg ⟨[(0, .t (.sl 6 (p0.map Put.enc))), (1, .t (.sl 6 (p1.map Put.enc))), (4, .t (.bool false)), (10, .t (.bool (((p0.length : Int)) != ((p1.length : Int)))))], [], []⟩ ?_
  refine Wp.cond2 (b := ((p0.length : Int)) != ((p1.length : Int))) kr (fun hc => ?_) (fun hc => ?_)
  · have h := cond_t h hc
    refine Wp.srg [] [] ?_
    refine Runs.alln ?_
    refine Wp.fg ⟨[(0, .t (.sl 6 (p0.map Put.enc))), (1, .t (.sl 6 (p1.map Put.enc))), (4, .t (.bool false))], [], []⟩ ?_
    refine Wp.ret ?_
    refine thenR ?_
    obtain rfl := Option.some.inj h
    exact RetK [.t (.bool false)] _ [] kr kr (.refl _) .nil
  have h := cond_f h hc
  refine Wp.skip (thenN ?_)
  refine Wp.seqJ (α := Unit) (fun a => ⟨[(4, .t (.bool false))], [], []⟩) (fun a => laws_eqPutS_j1 u = some r) ?_ ?_
  · rintro ⟨⟩ h
    change laws_eqPutS_j1 u = some r at h
    unfold laws_eqPutS_j1 at h
    refine Wp.srg [] [] ?_
    refine Runs.alln ?_
    refine Wp.fg ⟨[(4, .t (.bool true))], [], []⟩ ?_
    refine Wp.ret ?_
    obtain rfl := Option.some.inj h
    exact RetK [.t (.bool true)] _ [] kr kr (.refl _) .nil
  · refine Wp.srg [] [] ?_
    refine Runs.alln ?_
    refine Wp.fg ⟨[(0, .t (.sl 6 (p0.map Put.enc))), (1, .t (.sl 6 (p1.map Put.enc))), (4, .t (.bool false)), (5, .t (.int .i64 0))], [], []⟩ ?_
    refine Wp.block ?_
    refine Wp.loopF (α := (List Put) × (List Put) × Int) (fun a => ⟨[(0, .t (.sl 6 (a.1.map Put.enc))), (1, .t (.sl 6 (a.2.1.map Put.enc))), (4, .t (.bool false)), (5, .t (.int .i64 a.2.2))], [], []⟩) (fun k_laws_eqPutS_l2 a => laws_eqPutS_l2 u k_laws_eqPutS_l2 a.1 a.2.1 a.2.2 = some r) ?_ ?_ u (p0, p1, 0) h (Le.of (mo := []) (mr := []) kr kr kr kr)
    · intro a h; unfold laws_eqPutS_l2 at h; cases h
    · rintro k_laws_eqPutS_l2 ⟨p0, p1, x2⟩ h
      change laws_eqPutS_l2 u (k_laws_eqPutS_l2 + 1) p0 p1 x2 = some r at h
      rw [laws_eqPutS_l2] at h
      refine Wp.seq ?_
      refine Wp.srg [] [] ?_
      refine Runs.batch 2 kr ?_
      refine Runs.lenT (y := .t (.sl 6 (p0.map Put.enc))) (e := 186) Put.enc p0 6 rfl rfl rfl kr kr kr kr kr ?_
      refine Runs.alln ?_
      refine Wp.fg ⟨[(0, .t (.sl 6 (p0.map Put.enc))), (1, .t (.sl 6 (p1.map Put.enc))), (4, .t (.bool false)), (5, .t (.int .i64 x2)), (14, .t (.bool (decide (x2 < ((p0.length : Int))))))], [], []⟩ ?_
      refine Wp.cond2 (b := decide (x2 < ((p0.length : Int)))) kr (fun hc => ?_) (fun hc => ?_)
      · have h := cond_t h hc
        refine Wp.skip (thenN ?_)
        refine Wp.seq ?_
        refine Wp.block ?_
        refine Wp.seq ?_
        refine Wp.regionA (pOf []) (rhoOf [(0, .frz), (1, .frz), (5, .frz), (17, .frz), (18, .frz), (19, .frz), (20, .frz), (21, .frz), (22, .frz), (23, .frz), (24, .frz), (25, .frz)]) kr kr ?_
        refine Runs.batch 2 kr ?_
        obtain ⟨y4, e_y4, h⟩ := bind_some h
        refine Runs.idxT (e := 186) (kk := .i64) (sz := 6) Put.enc p0 x2 rfl kr kr kr kr kr kr e_y4 ?_
        refine Runs.batch 3 kr ?_
        obtain ⟨y5, e_y5, h⟩ := bind_some h
        refine Runs.idxT (e := 186) (kk := .i64) (sz := 6) Put.enc p1 x2 rfl kr kr kr kr kr kr e_y5 ?_
        refine Runs.batch 1 kr ?_
        obtain ⟨r6, e_r6, h⟩ := bind_some h
        refine Runs.callK false 25 180 [] [.agg ((Put.enc y4).map .t), .agg ((Put.enc y5).map .t)] _ _ _ rfl rfl kr kr kr kr kr (laws_eqPut_ok u y4 y5 r6 e_r6) kr ?_
        refine Runs.alln ?_
        refine Wp.fg ⟨[(0, .t (.sl 6 (p0.map Put.enc))), (1, .t (.sl 6 (p1.map Put.enc))), (4, .t (.bool false)), (5, .t (.int .i64 x2)), (26, .t (.bool (!r6)))], [], []⟩ ?_
        refine Wp.cond2 (b := !r6) kr (fun hc => ?_) (fun hc => ?_)
        · have h := cond_t h hc
          refine Wp.srg [] [] ?_
          refine Runs.alln ?_
          refine Wp.fg ⟨[(0, .t (.sl 6 (p0.map Put.enc))), (1, .t (.sl 6 (p1.map Put.enc))), (4, .t (.bool false)), (5, .t (.int .i64 x2))], [], []⟩ ?_
          refine Wp.ret ?_
          refine blkR ?_
          refine thenR ?_
          refine thenR ?_
          refine blkR ?_
          refine thenR ?_
          obtain rfl := Option.some.inj h
          exact RetK [.t (.bool false)] _ [] kr kr (.refl _) .nil
        have h := cond_f h hc
        refine Wp.skip ?_
        refine blkN ?_
        refine thenN ?_
        refine Wp.rg [] [] ?_
        refine Runs.alln ?_
        exact ⟨(p0, p1, bAdd .i64 x2 1), h, Le.of (mo := []) (mr := []) kr kr kr kr⟩
      have h := cond_f h hc
      refine Wp.exit ?_
      refine thenE ?_
      refine thenE ?_
      refine blkE ?_
      refine thenN ?_
      exact ⟨(), h, Le.of (mo := []) (mr := []) kr kr kr kr⟩
theorem laws_eqDisk_ok (u : Nat) (p0 : Disk) (p1 : Disk) (r : Bool) (h : laws_eqDisk u p0 p1 = some r) : CallOK Tryz.prog 108 [.agg [.t (.sl 1 (p0.fA.map (eInt .u8))), .t (.sl 1 (p0.fB.map (eInt .u8))), .t (.int .i64 p0.fR.fGen), .t (.int .i64 p0.fR.fSlot), .t (.int .i64 p0.fR.fLen), .t (.sl 6 (p0.fP.map Put.enc))], .agg [.t (.sl 1 (p1.fA.map (eInt .u8))), .t (.sl 1 (p1.fB.map (eInt .u8))), .t (.int .i64 p1.fR.fGen), .t (.int .i64 p1.fR.fSlot), .t (.int .i64 p1.fR.fLen), .t (.sl 6 (p1.fP.map Put.enc))]] (.one (.t (.bool r))) [] := by
  unfold laws_eqDisk at h
  refine CallOK.of_bodyK (fn := Tryz.f108) (m := false) [.agg ((Disk.enc p0).map .t), .agg ((Disk.enc p1).map .t)] kr rfl kr kr kr kr kr ?_
  refine Wp.srg [] [] ?_
  refine Runs.alln ?_
  refine Wp.fg ⟨[(2, .obj 2 0), (3, .obj 3 0), (4, .t (.bool false))], [(2, ((Disk.enc p0).map .t)), (3, ((Disk.enc p1).map .t))], []⟩ ?_
  refine Wp.seq ?_
  refine Wp.srg [] [] ?_
  refine Runs.batch 4 kr ?_
  obtain ⟨r1, e_r1, h⟩ := bind_some h
  refine Runs.callK false 9 54 [] [.t (.sl 1 (p0.fA.map (eInt .u8))), .t (.sl 1 (p1.fA.map (eInt .u8)))] _ _ _ rfl rfl kr kr kr kr kr (laws_eqByteS_ok u p0.fA p1.fA r1 e_r1) kr ?_
  refine Runs.alln ?_
  refine Wp.fg ⟨[(2, .obj 2 0), (3, .obj 3 0), (4, .t (.bool false)), (10, .t (.bool (!r1)))], [(2, ((Disk.enc p0).map .t)), (3, ((Disk.enc p1).map .t))], []⟩ ?_
  refine Wp.cond2 (b := !r1) kr (fun hc => ?_) (fun hc => ?_)
  · have h := cond_t h hc
    refine Wp.srg [] [] ?_
    refine Runs.alln ?_
    refine Wp.fg ⟨[(2, .obj 2 0), (3, .obj 3 0), (4, .t (.bool false))], [(2, ((Disk.enc p0).map .t)), (3, ((Disk.enc p1).map .t))], []⟩ ?_
    refine Wp.ret ?_
    refine thenR ?_
    obtain rfl := Option.some.inj h
    exact RetK [.t (.bool false)] _ [] kr kr (.refl _) .nil
  have h := cond_f h hc
  refine Wp.skip (thenN ?_)
  refine Wp.seq ?_
  refine Wp.srg [] [] ?_
  refine Runs.batch 4 kr ?_
  obtain ⟨r2, e_r2, h⟩ := bind_some h
  refine Runs.callK false 15 54 [] [.t (.sl 1 (p0.fB.map (eInt .u8))), .t (.sl 1 (p1.fB.map (eInt .u8)))] _ _ _ rfl rfl kr kr kr kr kr (laws_eqByteS_ok u p0.fB p1.fB r2 e_r2) kr ?_
  refine Runs.alln ?_
  refine Wp.fg ⟨[(2, .obj 2 0), (3, .obj 3 0), (4, .t (.bool false)), (16, .t (.bool (!r2)))], [(2, ((Disk.enc p0).map .t)), (3, ((Disk.enc p1).map .t))], []⟩ ?_
  refine Wp.cond2 (b := !r2) kr (fun hc => ?_) (fun hc => ?_)
  · have h := cond_t h hc
    refine Wp.srg [] [] ?_
    refine Runs.alln ?_
    refine Wp.fg ⟨[(2, .obj 2 0), (3, .obj 3 0), (4, .t (.bool false))], [(2, ((Disk.enc p0).map .t)), (3, ((Disk.enc p1).map .t))], []⟩ ?_
    refine Wp.ret ?_
    refine thenR ?_
    obtain rfl := Option.some.inj h
    exact RetK [.t (.bool false)] _ [] kr kr (.refl _) .nil
  have h := cond_f h hc
  refine Wp.skip (thenN ?_)
  refine Wp.seq ?_
  refine Wp.srg [] [] ?_
  refine Runs.batch 4 kr ?_
  obtain ⟨r3, e_r3, h⟩ := bind_some h
  refine Runs.callK false 21 148 [] [.agg ((Record.enc p0.fR).map .t), .agg ((Record.enc p1.fR).map .t)] _ _ _ rfl rfl kr kr kr kr kr (laws_eqRecord_ok u p0.fR p1.fR r3 e_r3) kr ?_
  refine Runs.alln ?_
  refine Wp.fg ⟨[(2, .obj 2 0), (3, .obj 3 0), (4, .t (.bool false)), (22, .t (.bool (!r3)))], [(2, ((Disk.enc p0).map .t)), (3, ((Disk.enc p1).map .t))], []⟩ ?_
  refine Wp.cond2 (b := !r3) kr (fun hc => ?_) (fun hc => ?_)
  · have h := cond_t h hc
    refine Wp.srg [] [] ?_
    refine Runs.alln ?_
    refine Wp.fg ⟨[(2, .obj 2 0), (3, .obj 3 0), (4, .t (.bool false))], [(2, ((Disk.enc p0).map .t)), (3, ((Disk.enc p1).map .t))], []⟩ ?_
    refine Wp.ret ?_
    refine thenR ?_
    obtain rfl := Option.some.inj h
    exact RetK [.t (.bool false)] _ [] kr kr (.refl _) .nil
  have h := cond_f h hc
  refine Wp.skip (thenN ?_)
  refine Wp.seq ?_
  refine Wp.srg [] [] ?_
  refine Runs.batch 4 kr ?_
  obtain ⟨r4, e_r4, h⟩ := bind_some h
  refine Runs.callK false 27 149 [] [.t (.sl 6 (p0.fP.map Put.enc)), .t (.sl 6 (p1.fP.map Put.enc))] _ _ _ rfl rfl kr kr kr kr kr (laws_eqPutS_ok u p0.fP p1.fP r4 e_r4) kr ?_
  refine Runs.alln ?_
  refine Wp.fg ⟨[(4, .t (.bool false)), (28, .t (.bool (!r4)))], [], []⟩ ?_
  refine Wp.cond2 (b := !r4) kr (fun hc => ?_) (fun hc => ?_)
  · have h := cond_t h hc
    refine Wp.srg [] [] ?_
    refine Runs.alln ?_
    refine Wp.fg ⟨[(4, .t (.bool false))], [], []⟩ ?_
    refine Wp.ret ?_
    refine thenR ?_
    obtain rfl := Option.some.inj h
    exact RetK [.t (.bool false)] _ [] kr kr (.refl _) .nil
  have h := cond_f h hc
  refine Wp.skip (thenN ?_)
  refine Wp.srg [] [] ?_
  refine Runs.alln ?_
  refine Wp.fg ⟨[(4, .t (.bool true))], [], []⟩ ?_
  refine Wp.ret ?_
  obtain rfl := Option.some.inj h
  exact RetK [.t (.bool true)] _ [] kr kr (.refl _) .nil
theorem laws_eqDiskS_ok (u : Nat) (p0 : List Disk) (p1 : List Disk) (r : Bool) (h : laws_eqDiskS u p0 p1 = some r) : CallOK Tryz.prog 57 [.one (.t (.sl 6 (p0.map Disk.enc))), .one (.t (.sl 6 (p1.map Disk.enc)))] (.one (.t (.bool r))) [] := by
  unfold laws_eqDiskS at h
  refine CallOK.of_bodyK (fn := Tryz.f57) (m := false) [.t (.sl 6 (p0.map Disk.enc)), .t (.sl 6 (p1.map Disk.enc))] kr rfl kr kr kr kr kr ?_
  refine Wp.srg [] [] ?_
  refine Runs.alln ?_
  refine Wp.fg ⟨[(0, .t (.sl 6 (p0.map Disk.enc))), (1, .t (.sl 6 (p1.map Disk.enc))), (4, .t (.bool false))], [], []⟩ ?_
  refine Wp.seq ?_
  refine Wp.srg [] [] ?_
  refine Runs.batch 1 kr ?_
  refine Runs.lenT (y := .t (.sl 6 (p0.map Disk.enc))) (e := 87) Disk.enc p0 6 rfl rfl rfl kr kr kr kr kr ?_
  refine Runs.batch 1 kr ?_
  refine Runs.lenT (y := .t (.sl 6 (p1.map Disk.enc))) (e := 87) Disk.enc p1 6 rfl rfl rfl kr kr kr kr kr ?_
  refine Runs.alln ?_
  refine Wp.fg ⟨[(0, .t (.sl 6 (p0.map Disk.enc))), (1, .t (.sl 6 (p1.map Disk.enc))), (4, .t (.bool false)), (10, .t (.bool (((p0.length : Int)) != ((p1.length : Int)))))], [], []⟩ ?_
  refine Wp.cond2 (b := ((p0.length : Int)) != ((p1.length : Int))) kr (fun hc => ?_) (fun hc => ?_)
  · have h := cond_t h hc
    refine Wp.srg [] [] ?_
    refine Runs.alln ?_
    refine Wp.fg ⟨[(0, .t (.sl 6 (p0.map Disk.enc))), (1, .t (.sl 6 (p1.map Disk.enc))), (4, .t (.bool false))], [], []⟩ ?_
    refine Wp.ret ?_
    refine thenR ?_
    obtain rfl := Option.some.inj h
    exact RetK [.t (.bool false)] _ [] kr kr (.refl _) .nil
  have h := cond_f h hc
  refine Wp.skip (thenN ?_)
  refine Wp.seqJ (α := Unit) (fun a => ⟨[(4, .t (.bool false))], [], []⟩) (fun a => laws_eqDiskS_j1 u = some r) ?_ ?_
  · rintro ⟨⟩ h
    change laws_eqDiskS_j1 u = some r at h
    unfold laws_eqDiskS_j1 at h
    refine Wp.srg [] [] ?_
    refine Runs.alln ?_
    refine Wp.fg ⟨[(4, .t (.bool true))], [], []⟩ ?_
    refine Wp.ret ?_
    obtain rfl := Option.some.inj h
    exact RetK [.t (.bool true)] _ [] kr kr (.refl _) .nil
  · refine Wp.srg [] [] ?_
    refine Runs.alln ?_
    refine Wp.fg ⟨[(0, .t (.sl 6 (p0.map Disk.enc))), (1, .t (.sl 6 (p1.map Disk.enc))), (4, .t (.bool false)), (5, .t (.int .i64 0))], [], []⟩ ?_
    refine Wp.block ?_
    refine Wp.loopF (α := (List Disk) × (List Disk) × Int) (fun a => ⟨[(0, .t (.sl 6 (a.1.map Disk.enc))), (1, .t (.sl 6 (a.2.1.map Disk.enc))), (4, .t (.bool false)), (5, .t (.int .i64 a.2.2))], [], []⟩) (fun k_laws_eqDiskS_l2 a => laws_eqDiskS_l2 u k_laws_eqDiskS_l2 a.1 a.2.1 a.2.2 = some r) ?_ ?_ u (p0, p1, 0) h (Le.of (mo := []) (mr := []) kr kr kr kr)
    · intro a h; unfold laws_eqDiskS_l2 at h; cases h
    · rintro k_laws_eqDiskS_l2 ⟨p0, p1, x2⟩ h
      change laws_eqDiskS_l2 u (k_laws_eqDiskS_l2 + 1) p0 p1 x2 = some r at h
      rw [laws_eqDiskS_l2] at h
      refine Wp.seq ?_
      refine Wp.srg [] [] ?_
      refine Runs.batch 2 kr ?_
      refine Runs.lenT (y := .t (.sl 6 (p0.map Disk.enc))) (e := 87) Disk.enc p0 6 rfl rfl rfl kr kr kr kr kr ?_
      refine Runs.alln ?_
      refine Wp.fg ⟨[(0, .t (.sl 6 (p0.map Disk.enc))), (1, .t (.sl 6 (p1.map Disk.enc))), (4, .t (.bool false)), (5, .t (.int .i64 x2)), (14, .t (.bool (decide (x2 < ((p0.length : Int))))))], [], []⟩ ?_
      refine Wp.cond2 (b := decide (x2 < ((p0.length : Int)))) kr (fun hc => ?_) (fun hc => ?_)
      · have h := cond_t h hc
        refine Wp.skip (thenN ?_)
        refine Wp.seq ?_
        refine Wp.block ?_
        refine Wp.seq ?_
        refine Wp.regionA (pOf []) (rhoOf [(0, .frz), (1, .frz), (5, .frz), (17, .frz), (18, .frz), (19, .frz), (20, .frz), (21, .frz), (22, .frz), (23, .frz), (24, .frz), (25, .frz)]) kr kr ?_
        refine Runs.batch 2 kr ?_
        obtain ⟨y4, e_y4, h⟩ := bind_some h
        refine Runs.idxT (e := 87) (kk := .i64) (sz := 6) Disk.enc p0 x2 rfl kr kr kr kr kr kr e_y4 ?_
        refine Runs.batch 3 kr ?_
        obtain ⟨y5, e_y5, h⟩ := bind_some h
        refine Runs.idxT (e := 87) (kk := .i64) (sz := 6) Disk.enc p1 x2 rfl kr kr kr kr kr kr e_y5 ?_
        refine Runs.batch 1 kr ?_
        obtain ⟨r6, e_r6, h⟩ := bind_some h
        refine Runs.callK false 25 108 [] [.agg ((Disk.enc y4).map .t), .agg ((Disk.enc y5).map .t)] _ _ _ rfl rfl kr kr kr kr kr (laws_eqDisk_ok u y4 y5 r6 e_r6) kr ?_
        refine Runs.alln ?_
        refine Wp.fg ⟨[(0, .t (.sl 6 (p0.map Disk.enc))), (1, .t (.sl 6 (p1.map Disk.enc))), (4, .t (.bool false)), (5, .t (.int .i64 x2)), (26, .t (.bool (!r6)))], [], []⟩ ?_
        refine Wp.cond2 (b := !r6) kr (fun hc => ?_) (fun hc => ?_)
        · have h := cond_t h hc
          refine Wp.srg [] [] ?_
          refine Runs.alln ?_
          refine Wp.fg ⟨[(0, .t (.sl 6 (p0.map Disk.enc))), (1, .t (.sl 6 (p1.map Disk.enc))), (4, .t (.bool false)), (5, .t (.int .i64 x2))], [], []⟩ ?_
          refine Wp.ret ?_
          refine blkR ?_
          refine thenR ?_
          refine thenR ?_
          refine blkR ?_
          refine thenR ?_
          obtain rfl := Option.some.inj h
          exact RetK [.t (.bool false)] _ [] kr kr (.refl _) .nil
        have h := cond_f h hc
        refine Wp.skip ?_
        refine blkN ?_
        refine thenN ?_
        refine Wp.rg [] [] ?_
        refine Runs.alln ?_
        exact ⟨(p0, p1, bAdd .i64 x2 1), h, Le.of (mo := []) (mr := []) kr kr kr kr⟩
      have h := cond_f h hc
      refine Wp.exit ?_
      refine thenE ?_
      refine thenE ?_
      refine blkE ?_
      refine thenN ?_
      exact ⟨(), h, Le.of (mo := []) (mr := []) kr kr kr kr⟩
theorem laws_eqPacket_ok (u : Nat) (p0 : Packet) (p1 : Packet) (r : Bool) (h : laws_eqPacket u p0 p1 = some r) : CallOK Tryz.prog 109 [.agg [.t (.int .i64 p0.fFrom), .t (.int .i64 p0.fTo), .t (.sl 1 (p0.fB.map (eInt .u8)))], .agg [.t (.int .i64 p1.fFrom), .t (.int .i64 p1.fTo), .t (.sl 1 (p1.fB.map (eInt .u8)))]] (.one (.t (.bool r))) [] := by
  unfold laws_eqPacket at h
  refine CallOK.of_bodyK (fn := Tryz.f109) (m := false) [.agg ((Packet.enc p0).map .t), .agg ((Packet.enc p1).map .t)] kr rfl kr kr kr kr kr ?_
  refine Wp.srg [] [] ?_
  refine Runs.alln ?_
  refine Wp.fg ⟨[(2, .obj 2 0), (3, .obj 3 0), (4, .t (.bool false))], [(2, ((Packet.enc p0).map .t)), (3, ((Packet.enc p1).map .t))], []⟩ ?_
  refine Wp.seq ?_
  refine Wp.srg [] [] ?_
  refine Runs.alln ?_
  refine Wp.fg ⟨[(2, .obj 2 0), (3, .obj 3 0), (4, .t (.bool false)), (9, .t (.bool (p0.fFrom != p1.fFrom)))], [(2, ((Packet.enc p0).map .t)), (3, ((Packet.enc p1).map .t))], []⟩ ?_
  refine Wp.cond2 (b := p0.fFrom != p1.fFrom) kr (fun hc => ?_) (fun hc => ?_)
  · have h := cond_t h hc
    refine Wp.srg [] [] ?_
    refine Runs.alln ?_
    refine Wp.fg ⟨[(2, .obj 2 0), (3, .obj 3 0), (4, .t (.bool false))], [(2, ((Packet.enc p0).map .t)), (3, ((Packet.enc p1).map .t))], []⟩ ?_
    refine Wp.ret ?_
    refine thenR ?_
    obtain rfl := Option.some.inj h
    exact RetK [.t (.bool false)] _ [] kr kr (.refl _) .nil
  have h := cond_f h hc
  refine Wp.skip (thenN ?_)
  refine Wp.seq ?_
  refine Wp.srg [] [] ?_
  refine Runs.alln ?_
  refine Wp.fg ⟨[(2, .obj 2 0), (3, .obj 3 0), (4, .t (.bool false)), (14, .t (.bool (p0.fTo != p1.fTo)))], [(2, ((Packet.enc p0).map .t)), (3, ((Packet.enc p1).map .t))], []⟩ ?_
  refine Wp.cond2 (b := p0.fTo != p1.fTo) kr (fun hc => ?_) (fun hc => ?_)
  · have h := cond_t h hc
    refine Wp.srg [] [] ?_
    refine Runs.alln ?_
    refine Wp.fg ⟨[(2, .obj 2 0), (3, .obj 3 0), (4, .t (.bool false))], [(2, ((Packet.enc p0).map .t)), (3, ((Packet.enc p1).map .t))], []⟩ ?_
    refine Wp.ret ?_
    refine thenR ?_
    obtain rfl := Option.some.inj h
    exact RetK [.t (.bool false)] _ [] kr kr (.refl _) .nil
  have h := cond_f h hc
  refine Wp.skip (thenN ?_)
  refine Wp.seq ?_
  refine Wp.srg [] [] ?_
  refine Runs.batch 4 kr ?_
  obtain ⟨r1, e_r1, h⟩ := bind_some h
  refine Runs.callK false 19 54 [] [.t (.sl 1 (p0.fB.map (eInt .u8))), .t (.sl 1 (p1.fB.map (eInt .u8)))] _ _ _ rfl rfl kr kr kr kr kr (laws_eqByteS_ok u p0.fB p1.fB r1 e_r1) kr ?_
  refine Runs.alln ?_
  refine Wp.fg ⟨[(4, .t (.bool false)), (20, .t (.bool (!r1)))], [], []⟩ ?_
  refine Wp.cond2 (b := !r1) kr (fun hc => ?_) (fun hc => ?_)
  · have h := cond_t h hc
    refine Wp.srg [] [] ?_
    refine Runs.alln ?_
    refine Wp.fg ⟨[(4, .t (.bool false))], [], []⟩ ?_
    refine Wp.ret ?_
    refine thenR ?_
    obtain rfl := Option.some.inj h
    exact RetK [.t (.bool false)] _ [] kr kr (.refl _) .nil
  have h := cond_f h hc
  refine Wp.skip (thenN ?_)
  refine Wp.srg [] [] ?_
  refine Runs.alln ?_
  refine Wp.fg ⟨[(4, .t (.bool true))], [], []⟩ ?_
  refine Wp.ret ?_
  obtain rfl := Option.some.inj h
  exact RetK [.t (.bool true)] _ [] kr kr (.refl _) .nil
theorem laws_eqPacketS_ok (u : Nat) (p0 : List Packet) (p1 : List Packet) (r : Bool) (h : laws_eqPacketS u p0 p1 = some r) : CallOK Tryz.prog 58 [.one (.t (.sl 3 (p0.map Packet.enc))), .one (.t (.sl 3 (p1.map Packet.enc)))] (.one (.t (.bool r))) [] := by
  unfold laws_eqPacketS at h
  refine CallOK.of_bodyK (fn := Tryz.f58) (m := false) [.t (.sl 3 (p0.map Packet.enc)), .t (.sl 3 (p1.map Packet.enc))] kr rfl kr kr kr kr kr ?_
  refine Wp.srg [] [] ?_
  refine Runs.alln ?_
  refine Wp.fg ⟨[(0, .t (.sl 3 (p0.map Packet.enc))), (1, .t (.sl 3 (p1.map Packet.enc))), (4, .t (.bool false))], [], []⟩ ?_
  refine Wp.seq ?_
  refine Wp.srg [] [] ?_
  refine Runs.batch 1 kr ?_
  refine Runs.lenT (y := .t (.sl 3 (p0.map Packet.enc))) (e := 134) Packet.enc p0 3 rfl rfl rfl kr kr kr kr kr ?_
  refine Runs.batch 1 kr ?_
  refine Runs.lenT (y := .t (.sl 3 (p1.map Packet.enc))) (e := 134) Packet.enc p1 3 rfl rfl rfl kr kr kr kr kr ?_
  refine Runs.alln ?_
  refine Wp.fg ⟨[(0, .t (.sl 3 (p0.map Packet.enc))), (1, .t (.sl 3 (p1.map Packet.enc))), (4, .t (.bool false)), (10, .t (.bool (((p0.length : Int)) != ((p1.length : Int)))))], [], []⟩ ?_
  refine Wp.cond2 (b := ((p0.length : Int)) != ((p1.length : Int))) kr (fun hc => ?_) (fun hc => ?_)
  · have h := cond_t h hc
    refine Wp.srg [] [] ?_
    refine Runs.alln ?_
    refine Wp.fg ⟨[(0, .t (.sl 3 (p0.map Packet.enc))), (1, .t (.sl 3 (p1.map Packet.enc))), (4, .t (.bool false))], [], []⟩ ?_
    refine Wp.ret ?_
    refine thenR ?_
    obtain rfl := Option.some.inj h
    exact RetK [.t (.bool false)] _ [] kr kr (.refl _) .nil
  have h := cond_f h hc
  refine Wp.skip (thenN ?_)
  refine Wp.seqJ (α := Unit) (fun a => ⟨[(4, .t (.bool false))], [], []⟩) (fun a => laws_eqPacketS_j1 u = some r) ?_ ?_
  · rintro ⟨⟩ h
    change laws_eqPacketS_j1 u = some r at h
    unfold laws_eqPacketS_j1 at h
    refine Wp.srg [] [] ?_
    refine Runs.alln ?_
    refine Wp.fg ⟨[(4, .t (.bool true))], [], []⟩ ?_
    refine Wp.ret ?_
    obtain rfl := Option.some.inj h
    exact RetK [.t (.bool true)] _ [] kr kr (.refl _) .nil
  · refine Wp.srg [] [] ?_
    refine Runs.alln ?_
    refine Wp.fg ⟨[(0, .t (.sl 3 (p0.map Packet.enc))), (1, .t (.sl 3 (p1.map Packet.enc))), (4, .t (.bool false)), (5, .t (.int .i64 0))], [], []⟩ ?_
    refine Wp.block ?_
    refine Wp.loopF (α := (List Packet) × (List Packet) × Int) (fun a => ⟨[(0, .t (.sl 3 (a.1.map Packet.enc))), (1, .t (.sl 3 (a.2.1.map Packet.enc))), (4, .t (.bool false)), (5, .t (.int .i64 a.2.2))], [], []⟩) (fun k_laws_eqPacketS_l2 a => laws_eqPacketS_l2 u k_laws_eqPacketS_l2 a.1 a.2.1 a.2.2 = some r) ?_ ?_ u (p0, p1, 0) h (Le.of (mo := []) (mr := []) kr kr kr kr)
    · intro a h; unfold laws_eqPacketS_l2 at h; cases h
    · rintro k_laws_eqPacketS_l2 ⟨p0, p1, x2⟩ h
      change laws_eqPacketS_l2 u (k_laws_eqPacketS_l2 + 1) p0 p1 x2 = some r at h
      rw [laws_eqPacketS_l2] at h
      refine Wp.seq ?_
      refine Wp.srg [] [] ?_
      refine Runs.batch 2 kr ?_
      refine Runs.lenT (y := .t (.sl 3 (p0.map Packet.enc))) (e := 134) Packet.enc p0 3 rfl rfl rfl kr kr kr kr kr ?_
      refine Runs.alln ?_
      refine Wp.fg ⟨[(0, .t (.sl 3 (p0.map Packet.enc))), (1, .t (.sl 3 (p1.map Packet.enc))), (4, .t (.bool false)), (5, .t (.int .i64 x2)), (14, .t (.bool (decide (x2 < ((p0.length : Int))))))], [], []⟩ ?_
      refine Wp.cond2 (b := decide (x2 < ((p0.length : Int)))) kr (fun hc => ?_) (fun hc => ?_)
      · have h := cond_t h hc
        refine Wp.skip (thenN ?_)
        refine Wp.seq ?_
        refine Wp.block ?_
        refine Wp.seq ?_
        refine Wp.regionA (pOf []) (rhoOf [(0, .frz), (1, .frz), (5, .frz), (17, .frz), (18, .frz), (19, .frz), (20, .frz), (21, .frz), (22, .frz), (23, .frz), (24, .frz), (25, .frz)]) kr kr ?_
        refine Runs.batch 2 kr ?_
        obtain ⟨y4, e_y4, h⟩ := bind_some h
        refine Runs.idxT (e := 134) (kk := .i64) (sz := 3) Packet.enc p0 x2 rfl kr kr kr kr kr kr e_y4 ?_
        refine Runs.batch 3 kr ?_
        obtain ⟨y5, e_y5, h⟩ := bind_some h
        refine Runs.idxT (e := 134) (kk := .i64) (sz := 3) Packet.enc p1 x2 rfl kr kr kr kr kr kr e_y5 ?_
        refine Runs.batch 1 kr ?_
        obtain ⟨r6, e_r6, h⟩ := bind_some h
        refine Runs.callK false 25 109 [] [.agg ((Packet.enc y4).map .t), .agg ((Packet.enc y5).map .t)] _ _ _ rfl rfl kr kr kr kr kr (laws_eqPacket_ok u y4 y5 r6 e_r6) kr ?_
        refine Runs.alln ?_
        refine Wp.fg ⟨[(0, .t (.sl 3 (p0.map Packet.enc))), (1, .t (.sl 3 (p1.map Packet.enc))), (4, .t (.bool false)), (5, .t (.int .i64 x2)), (26, .t (.bool (!r6)))], [], []⟩ ?_
        refine Wp.cond2 (b := !r6) kr (fun hc => ?_) (fun hc => ?_)
        · have h := cond_t h hc
          refine Wp.srg [] [] ?_
          refine Runs.alln ?_
          refine Wp.fg ⟨[(0, .t (.sl 3 (p0.map Packet.enc))), (1, .t (.sl 3 (p1.map Packet.enc))), (4, .t (.bool false)), (5, .t (.int .i64 x2))], [], []⟩ ?_
          refine Wp.ret ?_
          refine blkR ?_
          refine thenR ?_
          refine thenR ?_
          refine blkR ?_
          refine thenR ?_
          obtain rfl := Option.some.inj h
          exact RetK [.t (.bool false)] _ [] kr kr (.refl _) .nil
        have h := cond_f h hc
        refine Wp.skip ?_
        refine blkN ?_
        refine thenN ?_
        refine Wp.rg [] [] ?_
        refine Runs.alln ?_
        exact ⟨(p0, p1, bAdd .i64 x2 1), h, Le.of (mo := []) (mr := []) kr kr kr kr⟩
      have h := cond_f h hc
      refine Wp.exit ?_
      refine thenE ?_
      refine thenE ?_
      refine blkE ?_
      refine thenN ?_
      exact ⟨(), h, Le.of (mo := []) (mr := []) kr kr kr kr⟩
theorem laws_eqSent_ok (u : Nat) (p0 : Sent) (p1 : Sent) (r : Bool) (h : laws_eqSent u p0 p1 = some r) : CallOK Tryz.prog 110 [.agg [.t (.int .i64 p0.fFrom), .t (.int .i64 p0.fTo), .t (.int .i64 p0.fI)], .agg [.t (.int .i64 p1.fFrom), .t (.int .i64 p1.fTo), .t (.int .i64 p1.fI)]] (.one (.t (.bool r))) [] := by
  unfold laws_eqSent at h
  refine CallOK.of_bodyK (fn := Tryz.f110) (m := false) [.agg ((Sent.enc p0).map .t), .agg ((Sent.enc p1).map .t)] kr rfl kr kr kr kr kr ?_
  refine Wp.srg [] [] ?_
  refine Runs.alln ?_
  refine Wp.fg ⟨[(2, .obj 2 0), (3, .obj 3 0), (4, .t (.bool false))], [(2, ((Sent.enc p0).map .t)), (3, ((Sent.enc p1).map .t))], []⟩ ?_
  refine Wp.seq ?_
  refine Wp.srg [] [] ?_
  refine Runs.alln ?_
  refine Wp.fg ⟨[(2, .obj 2 0), (3, .obj 3 0), (4, .t (.bool false)), (9, .t (.bool (p0.fFrom != p1.fFrom)))], [(2, ((Sent.enc p0).map .t)), (3, ((Sent.enc p1).map .t))], []⟩ ?_
  refine Wp.cond2 (b := p0.fFrom != p1.fFrom) kr (fun hc => ?_) (fun hc => ?_)
  · have h := cond_t h hc
    refine Wp.srg [] [] ?_
    refine Runs.alln ?_
    refine Wp.fg ⟨[(2, .obj 2 0), (3, .obj 3 0), (4, .t (.bool false))], [(2, ((Sent.enc p0).map .t)), (3, ((Sent.enc p1).map .t))], []⟩ ?_
    refine Wp.ret ?_
    refine thenR ?_
    obtain rfl := Option.some.inj h
    exact RetK [.t (.bool false)] _ [] kr kr (.refl _) .nil
  have h := cond_f h hc
  refine Wp.skip (thenN ?_)
  refine Wp.seq ?_
  refine Wp.srg [] [] ?_
  refine Runs.alln ?_
  refine Wp.fg ⟨[(2, .obj 2 0), (3, .obj 3 0), (4, .t (.bool false)), (14, .t (.bool (p0.fTo != p1.fTo)))], [(2, ((Sent.enc p0).map .t)), (3, ((Sent.enc p1).map .t))], []⟩ ?_
  refine Wp.cond2 (b := p0.fTo != p1.fTo) kr (fun hc => ?_) (fun hc => ?_)
  · have h := cond_t h hc
    refine Wp.srg [] [] ?_
    refine Runs.alln ?_
    refine Wp.fg ⟨[(2, .obj 2 0), (3, .obj 3 0), (4, .t (.bool false))], [(2, ((Sent.enc p0).map .t)), (3, ((Sent.enc p1).map .t))], []⟩ ?_
    refine Wp.ret ?_
    refine thenR ?_
    obtain rfl := Option.some.inj h
    exact RetK [.t (.bool false)] _ [] kr kr (.refl _) .nil
  have h := cond_f h hc
  refine Wp.skip (thenN ?_)
  refine Wp.seq ?_
  refine Wp.srg [] [] ?_
  refine Runs.alln ?_
  refine Wp.fg ⟨[(4, .t (.bool false)), (19, .t (.bool (p0.fI != p1.fI)))], [], []⟩ ?_
  refine Wp.cond2 (b := p0.fI != p1.fI) kr (fun hc => ?_) (fun hc => ?_)
  · have h := cond_t h hc
    refine Wp.srg [] [] ?_
    refine Runs.alln ?_
    refine Wp.fg ⟨[(4, .t (.bool false))], [], []⟩ ?_
    refine Wp.ret ?_
    refine thenR ?_
    obtain rfl := Option.some.inj h
    exact RetK [.t (.bool false)] _ [] kr kr (.refl _) .nil
  have h := cond_f h hc
  refine Wp.skip (thenN ?_)
  refine Wp.srg [] [] ?_
  refine Runs.alln ?_
  refine Wp.fg ⟨[(4, .t (.bool true))], [], []⟩ ?_
  refine Wp.ret ?_
  obtain rfl := Option.some.inj h
  exact RetK [.t (.bool true)] _ [] kr kr (.refl _) .nil
theorem laws_eqSentS_ok (u : Nat) (p0 : List Sent) (p1 : List Sent) (r : Bool) (h : laws_eqSentS u p0 p1 = some r) : CallOK Tryz.prog 59 [.one (.t (.sl 3 (p0.map Sent.enc))), .one (.t (.sl 3 (p1.map Sent.enc)))] (.one (.t (.bool r))) [] := by
  unfold laws_eqSentS at h
  refine CallOK.of_bodyK (fn := Tryz.f59) (m := false) [.t (.sl 3 (p0.map Sent.enc)), .t (.sl 3 (p1.map Sent.enc))] kr rfl kr kr kr kr kr ?_
  refine Wp.srg [] [] ?_
  refine Runs.alln ?_
  refine Wp.fg ⟨[(0, .t (.sl 3 (p0.map Sent.enc))), (1, .t (.sl 3 (p1.map Sent.enc))), (4, .t (.bool false))], [], []⟩ ?_
  refine Wp.seq ?_
  refine Wp.srg [] [] ?_
  refine Runs.batch 1 kr ?_
  refine Runs.lenT (y := .t (.sl 3 (p0.map Sent.enc))) (e := 137) Sent.enc p0 3 rfl rfl rfl kr kr kr kr kr ?_
  refine Runs.batch 1 kr ?_
  refine Runs.lenT (y := .t (.sl 3 (p1.map Sent.enc))) (e := 137) Sent.enc p1 3 rfl rfl rfl kr kr kr kr kr ?_
  refine Runs.alln ?_
  refine Wp.fg ⟨[(0, .t (.sl 3 (p0.map Sent.enc))), (1, .t (.sl 3 (p1.map Sent.enc))), (4, .t (.bool false)), (10, .t (.bool (((p0.length : Int)) != ((p1.length : Int)))))], [], []⟩ ?_
  refine Wp.cond2 (b := ((p0.length : Int)) != ((p1.length : Int))) kr (fun hc => ?_) (fun hc => ?_)
  · have h := cond_t h hc
    refine Wp.srg [] [] ?_
    refine Runs.alln ?_
    refine Wp.fg ⟨[(0, .t (.sl 3 (p0.map Sent.enc))), (1, .t (.sl 3 (p1.map Sent.enc))), (4, .t (.bool false))], [], []⟩ ?_
    refine Wp.ret ?_
    refine thenR ?_
    obtain rfl := Option.some.inj h
    exact RetK [.t (.bool false)] _ [] kr kr (.refl _) .nil
  have h := cond_f h hc
  refine Wp.skip (thenN ?_)
  refine Wp.seqJ (α := Unit) (fun a => ⟨[(4, .t (.bool false))], [], []⟩) (fun a => laws_eqSentS_j1 u = some r) ?_ ?_
  · rintro ⟨⟩ h
    change laws_eqSentS_j1 u = some r at h
    unfold laws_eqSentS_j1 at h
    refine Wp.srg [] [] ?_
    refine Runs.alln ?_
    refine Wp.fg ⟨[(4, .t (.bool true))], [], []⟩ ?_
    refine Wp.ret ?_
    obtain rfl := Option.some.inj h
    exact RetK [.t (.bool true)] _ [] kr kr (.refl _) .nil
  · refine Wp.srg [] [] ?_
    refine Runs.alln ?_
    refine Wp.fg ⟨[(0, .t (.sl 3 (p0.map Sent.enc))), (1, .t (.sl 3 (p1.map Sent.enc))), (4, .t (.bool false)), (5, .t (.int .i64 0))], [], []⟩ ?_
    refine Wp.block ?_
    refine Wp.loopF (α := (List Sent) × (List Sent) × Int) (fun a => ⟨[(0, .t (.sl 3 (a.1.map Sent.enc))), (1, .t (.sl 3 (a.2.1.map Sent.enc))), (4, .t (.bool false)), (5, .t (.int .i64 a.2.2))], [], []⟩) (fun k_laws_eqSentS_l2 a => laws_eqSentS_l2 u k_laws_eqSentS_l2 a.1 a.2.1 a.2.2 = some r) ?_ ?_ u (p0, p1, 0) h (Le.of (mo := []) (mr := []) kr kr kr kr)
    · intro a h; unfold laws_eqSentS_l2 at h; cases h
    · rintro k_laws_eqSentS_l2 ⟨p0, p1, x2⟩ h
      change laws_eqSentS_l2 u (k_laws_eqSentS_l2 + 1) p0 p1 x2 = some r at h
      rw [laws_eqSentS_l2] at h
      refine Wp.seq ?_
      refine Wp.srg [] [] ?_
      refine Runs.batch 2 kr ?_
      refine Runs.lenT (y := .t (.sl 3 (p0.map Sent.enc))) (e := 137) Sent.enc p0 3 rfl rfl rfl kr kr kr kr kr ?_
      refine Runs.alln ?_
      refine Wp.fg ⟨[(0, .t (.sl 3 (p0.map Sent.enc))), (1, .t (.sl 3 (p1.map Sent.enc))), (4, .t (.bool false)), (5, .t (.int .i64 x2)), (14, .t (.bool (decide (x2 < ((p0.length : Int))))))], [], []⟩ ?_
      refine Wp.cond2 (b := decide (x2 < ((p0.length : Int)))) kr (fun hc => ?_) (fun hc => ?_)
      · have h := cond_t h hc
        refine Wp.skip (thenN ?_)
        refine Wp.seq ?_
        refine Wp.block ?_
        refine Wp.seq ?_
        refine Wp.regionA (pOf []) (rhoOf [(0, .frz), (1, .frz), (5, .frz), (17, .frz), (18, .frz), (19, .frz), (20, .frz), (21, .frz), (22, .frz), (23, .frz), (24, .frz), (25, .frz)]) kr kr ?_
        refine Runs.batch 2 kr ?_
        obtain ⟨y4, e_y4, h⟩ := bind_some h
        refine Runs.idxT (e := 137) (kk := .i64) (sz := 3) Sent.enc p0 x2 rfl kr kr kr kr kr kr e_y4 ?_
        refine Runs.batch 3 kr ?_
        obtain ⟨y5, e_y5, h⟩ := bind_some h
        refine Runs.idxT (e := 137) (kk := .i64) (sz := 3) Sent.enc p1 x2 rfl kr kr kr kr kr kr e_y5 ?_
        refine Runs.batch 1 kr ?_
        obtain ⟨r6, e_r6, h⟩ := bind_some h
        refine Runs.callK false 25 110 [] [.agg ((Sent.enc y4).map .t), .agg ((Sent.enc y5).map .t)] _ _ _ rfl rfl kr kr kr kr kr (laws_eqSent_ok u y4 y5 r6 e_r6) kr ?_
        refine Runs.alln ?_
        refine Wp.fg ⟨[(0, .t (.sl 3 (p0.map Sent.enc))), (1, .t (.sl 3 (p1.map Sent.enc))), (4, .t (.bool false)), (5, .t (.int .i64 x2)), (26, .t (.bool (!r6)))], [], []⟩ ?_
        refine Wp.cond2 (b := !r6) kr (fun hc => ?_) (fun hc => ?_)
        · have h := cond_t h hc
          refine Wp.srg [] [] ?_
          refine Runs.alln ?_
          refine Wp.fg ⟨[(0, .t (.sl 3 (p0.map Sent.enc))), (1, .t (.sl 3 (p1.map Sent.enc))), (4, .t (.bool false)), (5, .t (.int .i64 x2))], [], []⟩ ?_
          refine Wp.ret ?_
          refine blkR ?_
          refine thenR ?_
          refine thenR ?_
          refine blkR ?_
          refine thenR ?_
          obtain rfl := Option.some.inj h
          exact RetK [.t (.bool false)] _ [] kr kr (.refl _) .nil
        have h := cond_f h hc
        refine Wp.skip ?_
        refine blkN ?_
        refine thenN ?_
        refine Wp.rg [] [] ?_
        refine Runs.alln ?_
        exact ⟨(p0, p1, bAdd .i64 x2 1), h, Le.of (mo := []) (mr := []) kr kr kr kr⟩
      have h := cond_f h hc
      refine Wp.exit ?_
      refine thenE ?_
      refine thenE ?_
      refine blkE ?_
      refine thenN ?_
      exact ⟨(), h, Le.of (mo := []) (mr := []) kr kr kr kr⟩
theorem laws_eqWorld_ok (u : Nat) (p0 : World) (p1 : World) (r : Bool) (h : laws_eqWorld u p0 p1 = some r) : CallOK Tryz.prog 16 [.agg [.t (.int .i64 p0.fC.fSize), .t (.int .i64 p0.fC.fWindow), .t (.int .i64 p0.fC.fSuspect), .t (.int .i64 p0.fC.fForget), .t (.sl 1 (p0.fT.fUp.map (eInt .i64))), .t (.sl 1 (p0.fNew.map (eInt .u8))), .t (.sl 1 (p0.fOld.map Image.enc)), .t (.sl 12 (p0.fN.map Node.enc)), .t (.sl 6 (p0.fD.map Disk.enc)), .t (.sl 3 (p0.fNet.map Packet.enc)), .t (.sl 3 (p0.fLog.map Sent.enc)), .t (.int .i64 p0.fLost)], .agg [.t (.int .i64 p1.fC.fSize), .t (.int .i64 p1.fC.fWindow), .t (.int .i64 p1.fC.fSuspect), .t (.int .i64 p1.fC.fForget), .t (.sl 1 (p1.fT.fUp.map (eInt .i64))), .t (.sl 1 (p1.fNew.map (eInt .u8))), .t (.sl 1 (p1.fOld.map Image.enc)), .t (.sl 12 (p1.fN.map Node.enc)), .t (.sl 6 (p1.fD.map Disk.enc)), .t (.sl 3 (p1.fNet.map Packet.enc)), .t (.sl 3 (p1.fLog.map Sent.enc)), .t (.int .i64 p1.fLost)]] (.one (.t (.bool r))) [] := by
  unfold laws_eqWorld at h
  refine CallOK.of_bodyK (fn := Tryz.f16) (m := false) [.agg ((World.enc p0).map .t), .agg ((World.enc p1).map .t)] kr rfl kr kr kr kr kr ?_
  refine Wp.srg [] [] ?_
  refine Runs.alln ?_
  refine Wp.fg ⟨[(2, .obj 2 0), (3, .obj 3 0), (4, .t (.bool false))], [(2, ((World.enc p0).map .t)), (3, ((World.enc p1).map .t))], []⟩ ?_
  refine Wp.seq ?_
  refine Wp.srg [] [] ?_
  refine Runs.batch 4 kr ?_
  obtain ⟨r1, e_r1, h⟩ := bind_some h
  refine Runs.callK false 9 52 [] [.agg ((Conf.enc p0.fC).map .t), .agg ((Conf.enc p1.fC).map .t)] _ _ _ rfl rfl kr kr kr kr kr (laws_eqConf_ok u p0.fC p1.fC r1 e_r1) kr ?_
  refine Runs.alln ?_
  refine Wp.fg ⟨[(2, .obj 2 0), (3, .obj 3 0), (4, .t (.bool false)), (10, .t (.bool (!r1)))], [(2, ((World.enc p0).map .t)), (3, ((World.enc p1).map .t))], []⟩ ?_
  refine Wp.cond2 (b := !r1) kr (fun hc => ?_) (fun hc => ?_)
  · have h := cond_t h hc
    refine Wp.srg [] [] ?_
    refine Runs.alln ?_
    refine Wp.fg ⟨[(2, .obj 2 0), (3, .obj 3 0), (4, .t (.bool false))], [(2, ((World.enc p0).map .t)), (3, ((World.enc p1).map .t))], []⟩ ?_
    refine Wp.ret ?_
    refine thenR ?_
    obtain rfl := Option.some.inj h
    exact RetK [.t (.bool false)] _ [] kr kr (.refl _) .nil
  have h := cond_f h hc
  refine Wp.skip (thenN ?_)
  refine Wp.seq ?_
  refine Wp.srg [] [] ?_
  refine Runs.batch 4 kr ?_
  obtain ⟨r2, e_r2, h⟩ := bind_some h
  refine Runs.callK false 15 53 [] [.agg [.t (.sl 1 (p0.fT.fUp.map (eInt .i64)))], .agg [.t (.sl 1 (p1.fT.fUp.map (eInt .i64)))]] _ _ _ rfl rfl kr kr kr kr kr (laws_eqTree_ok u p0.fT p1.fT r2 e_r2) kr ?_
  refine Runs.alln ?_
  refine Wp.fg ⟨[(2, .obj 2 0), (3, .obj 3 0), (4, .t (.bool false)), (16, .t (.bool (!r2)))], [(2, ((World.enc p0).map .t)), (3, ((World.enc p1).map .t))], []⟩ ?_
  refine Wp.cond2 (b := !r2) kr (fun hc => ?_) (fun hc => ?_)
  · have h := cond_t h hc
    refine Wp.srg [] [] ?_
    refine Runs.alln ?_
    refine Wp.fg ⟨[(2, .obj 2 0), (3, .obj 3 0), (4, .t (.bool false))], [(2, ((World.enc p0).map .t)), (3, ((World.enc p1).map .t))], []⟩ ?_
    refine Wp.ret ?_
    refine thenR ?_
    obtain rfl := Option.some.inj h
    exact RetK [.t (.bool false)] _ [] kr kr (.refl _) .nil
  have h := cond_f h hc
  refine Wp.skip (thenN ?_)
  refine Wp.seq ?_
  refine Wp.srg [] [] ?_
  refine Runs.batch 4 kr ?_
  obtain ⟨r3, e_r3, h⟩ := bind_some h
  refine Runs.callK false 21 54 [] [.t (.sl 1 (p0.fNew.map (eInt .u8))), .t (.sl 1 (p1.fNew.map (eInt .u8)))] _ _ _ rfl rfl kr kr kr kr kr (laws_eqByteS_ok u p0.fNew p1.fNew r3 e_r3) kr ?_
  refine Runs.alln ?_
  refine Wp.fg ⟨[(2, .obj 2 0), (3, .obj 3 0), (4, .t (.bool false)), (22, .t (.bool (!r3)))], [(2, ((World.enc p0).map .t)), (3, ((World.enc p1).map .t))], []⟩ ?_
  refine Wp.cond2 (b := !r3) kr (fun hc => ?_) (fun hc => ?_)
  · have h := cond_t h hc
    refine Wp.srg [] [] ?_
    refine Runs.alln ?_
    refine Wp.fg ⟨[(2, .obj 2 0), (3, .obj 3 0), (4, .t (.bool false))], [(2, ((World.enc p0).map .t)), (3, ((World.enc p1).map .t))], []⟩ ?_
    refine Wp.ret ?_
    refine thenR ?_
    obtain rfl := Option.some.inj h
    exact RetK [.t (.bool false)] _ [] kr kr (.refl _) .nil
  have h := cond_f h hc
  refine Wp.skip (thenN ?_)
  refine Wp.seq ?_
  refine Wp.srg [] [] ?_
  refine Runs.batch 4 kr ?_
  obtain ⟨r4, e_r4, h⟩ := bind_some h
  refine Runs.callK false 27 55 [] [.t (.sl 1 (p0.fOld.map Image.enc)), .t (.sl 1 (p1.fOld.map Image.enc))] _ _ _ rfl rfl kr kr kr kr kr (laws_eqImageS_ok u p0.fOld p1.fOld r4 e_r4) kr ?_
  refine Runs.alln ?_
  refine Wp.fg ⟨[(2, .obj 2 0), (3, .obj 3 0), (4, .t (.bool false)), (28, .t (.bool (!r4)))], [(2, ((World.enc p0).map .t)), (3, ((World.enc p1).map .t))], []⟩ ?_
  refine Wp.cond2 (b := !r4) kr (fun hc => ?_) (fun hc => ?_)
  · have h := cond_t h hc
    refine Wp.srg [] [] ?_
    refine Runs.alln ?_
    refine Wp.fg ⟨[(2, .obj 2 0), (3, .obj 3 0), (4, .t (.bool false))], [(2, ((World.enc p0).map .t)), (3, ((World.enc p1).map .t))], []⟩ ?_
    refine Wp.ret ?_
    refine thenR ?_
    obtain rfl := Option.some.inj h
    exact RetK [.t (.bool false)] _ [] kr kr (.refl _) .nil
  have h := cond_f h hc
  refine Wp.skip (thenN ?_)
  refine Wp.seq ?_
  refine Wp.srg [] [] ?_
  refine Runs.batch 4 kr ?_
  obtain ⟨r5, e_r5, h⟩ := bind_some h
  refine Runs.callK false 33 56 [] [.t (.sl 12 (p0.fN.map Node.enc)), .t (.sl 12 (p1.fN.map Node.enc))] _ _ _ rfl rfl kr kr kr kr kr (laws_eqNodeS_ok u p0.fN p1.fN r5 e_r5) kr ?_
  refine Runs.alln ?_
  refine Wp.fg ⟨[(2, .obj 2 0), (3, .obj 3 0), (4, .t (.bool false)), (34, .t (.bool (!r5)))], [(2, ((World.enc p0).map .t)), (3, ((World.enc p1).map .t))], []⟩ ?_
  refine Wp.cond2 (b := !r5) kr (fun hc => ?_) (fun hc => ?_)
  · have h := cond_t h hc
    refine Wp.srg [] [] ?_
    refine Runs.alln ?_
    refine Wp.fg ⟨[(2, .obj 2 0), (3, .obj 3 0), (4, .t (.bool false))], [(2, ((World.enc p0).map .t)), (3, ((World.enc p1).map .t))], []⟩ ?_
    refine Wp.ret ?_
    refine thenR ?_
    obtain rfl := Option.some.inj h
    exact RetK [.t (.bool false)] _ [] kr kr (.refl _) .nil
  have h := cond_f h hc
  refine Wp.skip (thenN ?_)
  refine Wp.seq ?_
  refine Wp.srg [] [] ?_
  refine Runs.batch 4 kr ?_
  obtain ⟨r6, e_r6, h⟩ := bind_some h
  refine Runs.callK false 39 57 [] [.t (.sl 6 (p0.fD.map Disk.enc)), .t (.sl 6 (p1.fD.map Disk.enc))] _ _ _ rfl rfl kr kr kr kr kr (laws_eqDiskS_ok u p0.fD p1.fD r6 e_r6) kr ?_
  refine Runs.alln ?_
  refine Wp.fg ⟨[(2, .obj 2 0), (3, .obj 3 0), (4, .t (.bool false)), (40, .t (.bool (!r6)))], [(2, ((World.enc p0).map .t)), (3, ((World.enc p1).map .t))], []⟩ ?_
  refine Wp.cond2 (b := !r6) kr (fun hc => ?_) (fun hc => ?_)
  · have h := cond_t h hc
    refine Wp.srg [] [] ?_
    refine Runs.alln ?_
    refine Wp.fg ⟨[(2, .obj 2 0), (3, .obj 3 0), (4, .t (.bool false))], [(2, ((World.enc p0).map .t)), (3, ((World.enc p1).map .t))], []⟩ ?_
    refine Wp.ret ?_
    refine thenR ?_
    obtain rfl := Option.some.inj h
    exact RetK [.t (.bool false)] _ [] kr kr (.refl _) .nil
  have h := cond_f h hc
  refine Wp.skip (thenN ?_)
  refine Wp.seq ?_
  refine Wp.srg [] [] ?_
  refine Runs.batch 4 kr ?_
  obtain ⟨r7, e_r7, h⟩ := bind_some h
  refine Runs.callK false 45 58 [] [.t (.sl 3 (p0.fNet.map Packet.enc)), .t (.sl 3 (p1.fNet.map Packet.enc))] _ _ _ rfl rfl kr kr kr kr kr (laws_eqPacketS_ok u p0.fNet p1.fNet r7 e_r7) kr ?_
  refine Runs.alln ?_
  refine Wp.fg ⟨[(2, .obj 2 0), (3, .obj 3 0), (4, .t (.bool false)), (46, .t (.bool (!r7)))], [(2, ((World.enc p0).map .t)), (3, ((World.enc p1).map .t))], []⟩ ?_
  refine Wp.cond2 (b := !r7) kr (fun hc => ?_) (fun hc => ?_)
  · have h := cond_t h hc
    refine Wp.srg [] [] ?_
    refine Runs.alln ?_
    refine Wp.fg ⟨[(2, .obj 2 0), (3, .obj 3 0), (4, .t (.bool false))], [(2, ((World.enc p0).map .t)), (3, ((World.enc p1).map .t))], []⟩ ?_
    refine Wp.ret ?_
    refine thenR ?_
    obtain rfl := Option.some.inj h
    exact RetK [.t (.bool false)] _ [] kr kr (.refl _) .nil
  have h := cond_f h hc
  refine Wp.skip (thenN ?_)
  refine Wp.seq ?_
  refine Wp.srg [] [] ?_
  refine Runs.batch 4 kr ?_
  obtain ⟨r8, e_r8, h⟩ := bind_some h
  refine Runs.callK false 51 59 [] [.t (.sl 3 (p0.fLog.map Sent.enc)), .t (.sl 3 (p1.fLog.map Sent.enc))] _ _ _ rfl rfl kr kr kr kr kr (laws_eqSentS_ok u p0.fLog p1.fLog r8 e_r8) kr ?_
  refine Runs.alln ?_
  refine Wp.fg ⟨[(2, .obj 2 0), (3, .obj 3 0), (4, .t (.bool false)), (52, .t (.bool (!r8)))], [(2, ((World.enc p0).map .t)), (3, ((World.enc p1).map .t))], []⟩ ?_
  refine Wp.cond2 (b := !r8) kr (fun hc => ?_) (fun hc => ?_)
  · have h := cond_t h hc
    refine Wp.srg [] [] ?_
    refine Runs.alln ?_
    refine Wp.fg ⟨[(2, .obj 2 0), (3, .obj 3 0), (4, .t (.bool false))], [(2, ((World.enc p0).map .t)), (3, ((World.enc p1).map .t))], []⟩ ?_
    refine Wp.ret ?_
    refine thenR ?_
    obtain rfl := Option.some.inj h
    exact RetK [.t (.bool false)] _ [] kr kr (.refl _) .nil
  have h := cond_f h hc
  refine Wp.skip (thenN ?_)
  refine Wp.seq ?_
  refine Wp.srg [] [] ?_
  refine Runs.alln ?_
  refine Wp.fg ⟨[(4, .t (.bool false)), (57, .t (.bool (p0.fLost != p1.fLost)))], [], []⟩ ?_
  refine Wp.cond2 (b := p0.fLost != p1.fLost) kr (fun hc => ?_) (fun hc => ?_)
  · have h := cond_t h hc
    refine Wp.srg [] [] ?_
    refine Runs.alln ?_
    refine Wp.fg ⟨[(4, .t (.bool false))], [], []⟩ ?_
    refine Wp.ret ?_
    refine thenR ?_
    obtain rfl := Option.some.inj h
    exact RetK [.t (.bool false)] _ [] kr kr (.refl _) .nil
  have h := cond_f h hc
  refine Wp.skip (thenN ?_)
  refine Wp.srg [] [] ?_
  refine Runs.alln ?_
  refine Wp.fg ⟨[(4, .t (.bool true))], [], []⟩ ?_
  refine Wp.ret ?_
  obtain rfl := Option.some.inj h
  exact RetK [.t (.bool true)] _ [] kr kr (.refl _) .nil
theorem laws_markIntS__m_ok (u : Nat) (p0 : List Int) (p1 : Int) (r : Int) (h : laws_markIntS__m u p0 p1 = some r) : MOK Tryz.prog 27 [.ext true (.sl 1 (p0.map (eInt .i64))), .t (.int .i64 p1)] (.int .i64 r) := by
  unfold laws_markIntS__m at h
  refine MOK.of_bodyK (fn := Tryz.f27) kr rfl kr kr kr rfl ?_
  refine Wp.srg [] [] ?_
  refine Runs.alln ?_
  refine Wp.fg ⟨[(0, .ext true (.sl 1 (p0.map (eInt .i64)))), (1, .t (.int .i64 p1)), (4, .t (.int .i64 0))], [], []⟩ ?_
  refine Wp.seqJ (α := Int) (fun a => ⟨[(1, .t (.int .i64 a)), (4, .t (.int .i64 0))], [], []⟩) (fun a => laws_markIntS__m_j1 u a = some r) ?_ ?_
  · rintro x8 h
    change laws_markIntS__m_j1 u x8 = some r at h
    unfold laws_markIntS__m_j1 at h
    refine Wp.srg [] [] ?_
    refine Runs.alln ?_
    refine Wp.fg ⟨[(4, .t (.int .i64 x8))], [], []⟩ ?_
    refine Wp.ret ?_
    obtain rfl := Option.some.inj h
    exact MRetK [.t (.int .i64 x8)] kr kr
  · refine Wp.srg [] [] ?_
    refine Runs.alln ?_
    refine Wp.fg ⟨[(0, .ext true (.sl 1 (p0.map (eInt .i64)))), (1, .t (.int .i64 p1)), (4, .t (.int .i64 0)), (5, .t (.int .i64 0))], [], []⟩ ?_
    refine Wp.block ?_
    refine Wp.loopF (α := (List Int) × Int × Int) (fun a => ⟨[(0, .ext true (.sl 1 (a.1.map (eInt .i64)))), (1, .t (.int .i64 a.2.1)), (4, .t (.int .i64 0)), (5, .t (.int .i64 a.2.2))], [], []⟩) (fun k_laws_markIntS__m_l2 a => laws_markIntS__m_l2 u k_laws_markIntS__m_l2 a.1 a.2.1 a.2.2 = some r) ?_ ?_ u (p0, p1, 0) h (Le.of (mo := []) (mr := []) kr kr kr kr)
    · intro a h; unfold laws_markIntS__m_l2 at h; cases h
    · rintro k_laws_markIntS__m_l2 ⟨p0, x3, x4⟩ h
      change laws_markIntS__m_l2 u (k_laws_markIntS__m_l2 + 1) p0 x3 x4 = some r at h
      rw [laws_markIntS__m_l2] at h
      refine Wp.seq ?_
      refine Wp.srg [] [] ?_
      refine Runs.batch 2 kr ?_
      refine Runs.lenX (e := 3) (eInt .i64) p0 true 1 rfl rfl rfl kr kr kr kr ?_
      refine Runs.alln ?_
      refine Wp.fg ⟨[(0, .ext true (.sl 1 (p0.map (eInt .i64)))), (1, .t (.int .i64 x3)), (4, .t (.int .i64 0)), (5, .t (.int .i64 x4)), (9, .t (.bool (decide (x4 < ((p0.length : Int))))))], [], []⟩ ?_
      refine Wp.cond2 (b := decide (x4 < ((p0.length : Int)))) kr (fun hc => ?_) (fun hc => ?_)
      · have h := cond_t h hc
        refine Wp.skip (thenN ?_)
        refine Wp.seq ?_
        refine Wp.block ?_
        refine Wp.srg [] [] ?_
        refine Runs.batch 3 kr ?_
        obtain ⟨y7, e_y7, h⟩ := bind_some h
        refine Runs.idxX (e := 3) (kk := .i64) (sz := 1) (eInt .i64) p0 x4 true rfl kr kr kr kr kr kr e_y7 ?_
        refine Runs.alln ?_
        refine Wp.fg ⟨[(0, .ext true (.sl 1 (p0.map (eInt .i64)))), (1, .t (.int .i64 x3)), (4, .t (.int .i64 0)), (5, .t (.int .i64 x4))], [], []⟩ ?_
        refine Wp.rg [] [] ?_
        refine Runs.all kr ?_
        refine blkN ?_
        refine thenN ?_
        refine Wp.rg [] [] ?_
        refine Runs.alln ?_
        exact ⟨(p0, bAdd .i64 x3 1, bAdd .i64 x4 1), h, Le.of (mo := []) (mr := []) kr kr kr kr⟩
      have h := cond_f h hc
      refine Wp.exit ?_
      refine thenE ?_
      refine thenE ?_
      refine blkE ?_
      refine thenN ?_
      exact ⟨x3, h, Le.of (mo := []) (mr := []) kr kr kr kr⟩
theorem laws_markTree__m_ok (u : Nat) (p0 : Tree) (p1 : Int) (r : Int) (h : laws_markTree__m u p0 p1 = some r) : MOK Tryz.prog 76 [.agg [.ext true (.sl 1 (p0.fUp.map (eInt .i64)))], .t (.int .i64 p1)] (.int .i64 r) := by
  unfold laws_markTree__m at h
  refine MOK.of_bodyK (fn := Tryz.f76) kr rfl kr kr kr rfl ?_
  refine Wp.srg [] [] ?_
  refine Runs.alln ?_
  refine Wp.fg ⟨[(1, .t (.int .i64 p1)), (2, .obj 2 0), (4, .t (.int .i64 0))], [(2, [.ext true (.sl 1 (p0.fUp.map (eInt .i64)))])], []⟩ ?_
  refine Wp.srg [] [] ?_
  refine Runs.batch 3 kr ?_
  obtain ⟨r1, e_r1, h⟩ := bind_some h
  refine Runs.callMK 27 [.ext true (.sl 1 (p0.fUp.map (eInt .i64))), .t (.int .i64 p1)] (.int .i64 r1) rfl kr kr kr kr kr kr (laws_markIntS__m_ok u p0.fUp p1 r1 e_r1) ?_
  refine Runs.alln ?_
  refine Wp.fg ⟨[(1, .t (.int .i64 r1)), (4, .t (.int .i64 0))], [], []⟩ ?_
  refine Wp.srg [] [] ?_
  refine Runs.alln ?_
  refine Wp.fg ⟨[(4, .t (.int .i64 r1))], [], []⟩ ?_
  refine Wp.ret ?_
  obtain rfl := Option.some.inj h
  exact MRetK [.t (.int .i64 r1)] kr kr
theorem laws_markByteS__m_ok (u : Nat) (p0 : List Int) (p1 : Int) (r : Int) (h : laws_markByteS__m u p0 p1 = some r) : MOK Tryz.prog 77 [.ext true (.sl 1 (p0.map (eInt .u8))), .t (.int .i64 p1)] (.int .i64 r) := by
  unfold laws_markByteS__m at h
  refine MOK.of_bodyK (fn := Tryz.f77) kr rfl kr kr kr rfl ?_
  refine Wp.srg [] [] ?_
  refine Runs.alln ?_
  refine Wp.fg ⟨[(0, .ext true (.sl 1 (p0.map (eInt .u8)))), (1, .t (.int .i64 p1)), (4, .t (.int .i64 0))], [], []⟩ ?_
  refine Wp.seqJ (α := Int) (fun a => ⟨[(1, .t (.int .i64 a)), (4, .t (.int .i64 0))], [], []⟩) (fun a => laws_markByteS__m_j1 u a = some r) ?_ ?_
  · rintro x8 h
    change laws_markByteS__m_j1 u x8 = some r at h
    unfold laws_markByteS__m_j1 at h
    refine Wp.srg [] [] ?_
    refine Runs.alln ?_
    refine Wp.fg ⟨[(4, .t (.int .i64 x8))], [], []⟩ ?_
    refine Wp.ret ?_
    obtain rfl := Option.some.inj h
    exact MRetK [.t (.int .i64 x8)] kr kr
  · refine Wp.srg [] [] ?_
    refine Runs.alln ?_
    refine Wp.fg ⟨[(0, .ext true (.sl 1 (p0.map (eInt .u8)))), (1, .t (.int .i64 p1)), (4, .t (.int .i64 0)), (5, .t (.int .i64 0))], [], []⟩ ?_
    refine Wp.block ?_
    refine Wp.loopF (α := (List Int) × Int × Int) (fun a => ⟨[(0, .ext true (.sl 1 (a.1.map (eInt .u8)))), (1, .t (.int .i64 a.2.1)), (4, .t (.int .i64 0)), (5, .t (.int .i64 a.2.2))], [], []⟩) (fun k_laws_markByteS__m_l2 a => laws_markByteS__m_l2 u k_laws_markByteS__m_l2 a.1 a.2.1 a.2.2 = some r) ?_ ?_ u (p0, p1, 0) h (Le.of (mo := []) (mr := []) kr kr kr kr)
    · intro a h; unfold laws_markByteS__m_l2 at h; cases h
    · rintro k_laws_markByteS__m_l2 ⟨p0, x3, x4⟩ h
      change laws_markByteS__m_l2 u (k_laws_markByteS__m_l2 + 1) p0 x3 x4 = some r at h
      rw [laws_markByteS__m_l2] at h
      refine Wp.seq ?_
      refine Wp.srg [] [] ?_
      refine Runs.batch 2 kr ?_
      refine Runs.lenX (e := 5) (eInt .u8) p0 true 1 rfl rfl rfl kr kr kr kr ?_
      refine Runs.alln ?_
      refine Wp.fg ⟨[(0, .ext true (.sl 1 (p0.map (eInt .u8)))), (1, .t (.int .i64 x3)), (4, .t (.int .i64 0)), (5, .t (.int .i64 x4)), (9, .t (.bool (decide (x4 < ((p0.length : Int))))))], [], []⟩ ?_
      refine Wp.cond2 (b := decide (x4 < ((p0.length : Int)))) kr (fun hc => ?_) (fun hc => ?_)
      · have h := cond_t h hc
        refine Wp.skip (thenN ?_)
        refine Wp.seq ?_
        refine Wp.block ?_
        refine Wp.srg [] [] ?_
        refine Runs.batch 4 kr ?_
        obtain ⟨y7, e_y7, h⟩ := bind_some h
        refine Runs.idxX (e := 5) (kk := .i64) (sz := 1) (eInt .u8) p0 x4 true rfl kr kr kr kr kr kr e_y7 ?_
        refine Runs.alln ?_
        refine Wp.fg ⟨[(0, .ext true (.sl 1 (p0.map (eInt .u8)))), (1, .t (.int .i64 x3)), (4, .t (.int .i64 0)), (5, .t (.int .i64 x4))], [], []⟩ ?_
        refine Wp.rg [] [] ?_
        refine Runs.all kr ?_
        refine blkN ?_
        refine thenN ?_
        refine Wp.rg [] [] ?_
        refine Runs.alln ?_
        exact ⟨(p0, bAdd .i64 x3 1, bAdd .i64 x4 1), h, Le.of (mo := []) (mr := []) kr kr kr kr⟩
      have h := cond_f h hc
      refine Wp.exit ?_
      refine thenE ?_
      refine thenE ?_
      refine blkE ?_
      refine thenN ?_
      exact ⟨x3, h, Le.of (mo := []) (mr := []) kr kr kr kr⟩
theorem laws_markImageS__m_ok (u : Nat) (p0 : List Image) (p1 : Int) (r : Int) (h : laws_markImageS__m u p0 p1 = some r) : MOK Tryz.prog 78 [.ext true (.sl 1 (p0.map Image.enc)), .t (.int .i64 p1)] (.int .i64 r) := by
  unfold laws_markImageS__m at h
  refine MOK.of_bodyK (fn := Tryz.f78) kr rfl kr kr kr rfl ?_
  refine Wp.srg [] [] ?_
  refine Runs.alln ?_
  refine Wp.fg ⟨[(0, .ext true (.sl 1 (p0.map Image.enc))), (1, .t (.int .i64 p1)), (4, .t (.int .i64 0))], [], []⟩ ?_
  refine Wp.seqJ (α := Int) (fun a => ⟨[(1, .t (.int .i64 a)), (4, .t (.int .i64 0))], [], []⟩) (fun a => laws_markImageS__m_j1 u a = some r) ?_ ?_
  · rintro x9 h
    change laws_markImageS__m_j1 u x9 = some r at h
    unfold laws_markImageS__m_j1 at h
    refine Wp.srg [] [] ?_
    refine Runs.alln ?_
    refine Wp.fg ⟨[(4, .t (.int .i64 x9))], [], []⟩ ?_
    refine Wp.ret ?_
    obtain rfl := Option.some.inj h
    exact MRetK [.t (.int .i64 x9)] kr kr
  · refine Wp.srg [] [] ?_
    refine Runs.alln ?_
    refine Wp.fg ⟨[(0, .ext true (.sl 1 (p0.map Image.enc))), (1, .t (.int .i64 p1)), (4, .t (.int .i64 0)), (5, .t (.int .i64 0))], [], []⟩ ?_
    refine Wp.block ?_
    refine Wp.loopF (α := (List Image) × Int × Int) (fun a => ⟨[(0, .ext true (.sl 1 (a.1.map Image.enc))), (1, .t (.int .i64 a.2.1)), (4, .t (.int .i64 0)), (5, .t (.int .i64 a.2.2))], [], []⟩) (fun k_laws_markImageS__m_l2 a => laws_markImageS__m_l2 u k_laws_markImageS__m_l2 a.1 a.2.1 a.2.2 = some r) ?_ ?_ u (p0, p1, 0) h (Le.of (mo := []) (mr := []) kr kr kr kr)
    · intro a h; unfold laws_markImageS__m_l2 at h; cases h
    · rintro k_laws_markImageS__m_l2 ⟨p0, x3, x4⟩ h
      change laws_markImageS__m_l2 u (k_laws_markImageS__m_l2 + 1) p0 x3 x4 = some r at h
      rw [laws_markImageS__m_l2] at h
      refine Wp.seq ?_
      refine Wp.srg [] [] ?_
      refine Runs.batch 2 kr ?_
      refine Runs.lenX (e := 89) Image.enc p0 true 1 rfl rfl rfl kr kr kr kr ?_
      refine Runs.alln ?_
      refine Wp.fg ⟨[(0, .ext true (.sl 1 (p0.map Image.enc))), (1, .t (.int .i64 x3)), (4, .t (.int .i64 0)), (5, .t (.int .i64 x4)), (9, .t (.bool (decide (x4 < ((p0.length : Int))))))], [], []⟩ ?_
      refine Wp.cond2 (b := decide (x4 < ((p0.length : Int)))) kr (fun hc => ?_) (fun hc => ?_)
      · have h := cond_t h hc
        refine Wp.skip (thenN ?_)
        refine Wp.seq ?_
        refine Wp.block ?_
        refine Wp.rg [] [] ?_
        refine Runs.batch 2 kr ?_
        obtain ⟨y7, e_y7, h⟩ := bind_some h
        refine Runs.idxX (e := 89) (kk := .i64) (sz := 1) Image.enc p0 x4 true rfl kr kr kr kr kr kr e_y7 ?_
        refine Runs.batch 3 kr ?_
        obtain ⟨r8, e_r8, h⟩ := bind_some h
        refine Runs.callMK 77 [.ext true (.sl 1 (y7.fB.map (eInt .u8))), .t (.int .i64 x3)] (.int .i64 r8) rfl kr kr kr kr kr kr (laws_markByteS__m_ok u y7.fB x3 r8 e_r8) ?_
        refine Runs.all kr ?_
        refine blkN ?_
        refine thenN ?_
        refine Wp.rg [] [] ?_
        refine Runs.alln ?_
        exact ⟨(p0, r8, bAdd .i64 x4 1), h, Le.of (mo := []) (mr := []) kr kr kr kr⟩
      have h := cond_f h hc
      refine Wp.exit ?_
      refine thenE ?_
      refine thenE ?_
      refine blkE ?_
      refine thenN ?_
      exact ⟨x3, h, Le.of (mo := []) (mr := []) kr kr kr kr⟩
theorem laws_markSumS__m_ok (u : Nat) (p0 : List Sum) (p1 : Int) (r : Int) (h : laws_markSumS__m u p0 p1 = some r) : MOK Tryz.prog 127 [.ext true (.sl 2 (p0.map Sum.enc)), .t (.int .i64 p1)] (.int .i64 r) := by
  unfold laws_markSumS__m at h
  refine MOK.of_bodyK (fn := Tryz.f127) kr rfl kr kr kr rfl ?_
  refine Wp.srg [] [] ?_
  refine Runs.alln ?_
  refine Wp.fg ⟨[(0, .ext true (.sl 2 (p0.map Sum.enc))), (1, .t (.int .i64 p1)), (4, .t (.int .i64 0))], [], []⟩ ?_
  refine Wp.seqJ (α := Int) (fun a => ⟨[(1, .t (.int .i64 a)), (4, .t (.int .i64 0))], [], []⟩) (fun a => laws_markSumS__m_j1 u a = some r) ?_ ?_
  · rintro x9 h
    change laws_markSumS__m_j1 u x9 = some r at h
    unfold laws_markSumS__m_j1 at h
    refine Wp.srg [] [] ?_
    refine Runs.alln ?_
    refine Wp.fg ⟨[(4, .t (.int .i64 x9))], [], []⟩ ?_
    refine Wp.ret ?_
    obtain rfl := Option.some.inj h
    exact MRetK [.t (.int .i64 x9)] kr kr
  · refine Wp.srg [] [] ?_
    refine Runs.alln ?_
    refine Wp.fg ⟨[(0, .ext true (.sl 2 (p0.map Sum.enc))), (1, .t (.int .i64 p1)), (4, .t (.int .i64 0)), (5, .t (.int .i64 0))], [], []⟩ ?_
    refine Wp.block ?_
    refine Wp.loopF (α := (List Sum) × Int × Int) (fun a => ⟨[(0, .ext true (.sl 2 (a.1.map Sum.enc))), (1, .t (.int .i64 a.2.1)), (4, .t (.int .i64 0)), (5, .t (.int .i64 a.2.2))], [], []⟩) (fun k_laws_markSumS__m_l2 a => laws_markSumS__m_l2 u k_laws_markSumS__m_l2 a.1 a.2.1 a.2.2 = some r) ?_ ?_ u (p0, p1, 0) h (Le.of (mo := []) (mr := []) kr kr kr kr)
    · intro a h; unfold laws_markSumS__m_l2 at h; cases h
    · rintro k_laws_markSumS__m_l2 ⟨p0, x3, x4⟩ h
      change laws_markSumS__m_l2 u (k_laws_markSumS__m_l2 + 1) p0 x3 x4 = some r at h
      rw [laws_markSumS__m_l2] at h
      refine Wp.seq ?_
      refine Wp.srg [] [] ?_
      refine Runs.batch 2 kr ?_
      refine Runs.lenX (e := 184) Sum.enc p0 true 2 rfl rfl rfl kr kr kr kr ?_
      refine Runs.alln ?_
      refine Wp.fg ⟨[(0, .ext true (.sl 2 (p0.map Sum.enc))), (1, .t (.int .i64 x3)), (4, .t (.int .i64 0)), (5, .t (.int .i64 x4)), (9, .t (.bool (decide (x4 < ((p0.length : Int))))))], [], []⟩ ?_
      refine Wp.cond2 (b := decide (x4 < ((p0.length : Int)))) kr (fun hc => ?_) (fun hc => ?_)
      · have h := cond_t h hc
        refine Wp.skip (thenN ?_)
        refine Wp.seq ?_
        refine Wp.block ?_
        refine Wp.srg [] [] ?_
        refine Runs.batch 3 kr ?_
        obtain ⟨y7, e_y7, h⟩ := bind_some h
        refine Runs.idxX (e := 184) (kk := .i64) (sz := 2) Sum.enc p0 x4 true rfl kr kr kr kr kr kr e_y7 ?_
        refine Runs.alln ?_
        refine Wp.fg ⟨[(0, .ext true (.sl 2 (p0.map Sum.enc))), (1, .t (.int .i64 x3)), (4, .t (.int .i64 0)), (5, .t (.int .i64 x4))], [], []⟩ ?_
        refine Wp.srg [] [] ?_
        refine Runs.alln ?_
        refine Wp.fg ⟨[(0, .ext true (.sl 2 (p0.map Sum.enc))), (1, .t (.int .i64 (bAdd .i64 x3 1))), (4, .t (.int .i64 0)), (5, .t (.int .i64 x4))], [], []⟩ ?_
        refine Wp.srg [] [] ?_
        refine Runs.batch 3 kr ?_
        obtain ⟨y8, e_y8, h⟩ := bind_some h
        refine Runs.idxX (e := 184) (kk := .i64) (sz := 2) Sum.enc p0 x4 true rfl kr kr kr kr kr kr e_y8 ?_
        refine Runs.alln ?_
        refine Wp.fg ⟨[(0, .ext true (.sl 2 (p0.map Sum.enc))), (1, .t (.int .i64 (bAdd .i64 x3 1))), (4, .t (.int .i64 0)), (5, .t (.int .i64 x4))], [], []⟩ ?_
        refine Wp.rg [] [] ?_
        refine Runs.all kr ?_
        refine blkN ?_
        refine thenN ?_
        refine Wp.rg [] [] ?_
        refine Runs.alln ?_
        exact ⟨(p0, bAdd .i64 (bAdd .i64 x3 1) 1, bAdd .i64 x4 1), h, Le.of (mo := []) (mr := []) kr kr kr kr⟩
      have h := cond_f h hc
      refine Wp.exit ?_
      refine thenE ?_
      refine thenE ?_
      refine blkE ?_
      refine thenN ?_
      exact ⟨x3, h, Le.of (mo := []) (mr := []) kr kr kr kr⟩
theorem laws_markKidS__m_ok (u : Nat) (p0 : List Kid) (p1 : Int) (r : Int) (h : laws_markKidS__m u p0 p1 = some r) : MOK Tryz.prog 128 [.ext true (.sl 5 (p0.map Kid.enc)), .t (.int .i64 p1)] (.int .i64 r) := by
  unfold laws_markKidS__m at h
  refine MOK.of_bodyK (fn := Tryz.f128) kr rfl kr kr kr rfl ?_
  refine Wp.srg [] [] ?_
  refine Runs.alln ?_
  refine Wp.fg ⟨[(0, .ext true (.sl 5 (p0.map Kid.enc))), (1, .t (.int .i64 p1)), (4, .t (.int .i64 0))], [], []⟩ ?_
  refine Wp.seqJ (α := Int) (fun a => ⟨[(1, .t (.int .i64 a)), (4, .t (.int .i64 0))], [], []⟩) (fun a => laws_markKidS__m_j1 u a = some r) ?_ ?_
  · rintro x12 h
    change laws_markKidS__m_j1 u x12 = some r at h
    unfold laws_markKidS__m_j1 at h
    refine Wp.srg [] [] ?_
    refine Runs.alln ?_
    refine Wp.fg ⟨[(4, .t (.int .i64 x12))], [], []⟩ ?_
    refine Wp.ret ?_
    obtain rfl := Option.some.inj h
    exact MRetK [.t (.int .i64 x12)] kr kr
  · refine Wp.srg [] [] ?_
    refine Runs.alln ?_
    refine Wp.fg ⟨[(0, .ext true (.sl 5 (p0.map Kid.enc))), (1, .t (.int .i64 p1)), (4, .t (.int .i64 0)), (5, .t (.int .i64 0))], [], []⟩ ?_
    refine Wp.block ?_
    refine Wp.loopF (α := (List Kid) × Int × Int) (fun a => ⟨[(0, .ext true (.sl 5 (a.1.map Kid.enc))), (1, .t (.int .i64 a.2.1)), (4, .t (.int .i64 0)), (5, .t (.int .i64 a.2.2))], [], []⟩) (fun k_laws_markKidS__m_l2 a => laws_markKidS__m_l2 u k_laws_markKidS__m_l2 a.1 a.2.1 a.2.2 = some r) ?_ ?_ u (p0, p1, 0) h (Le.of (mo := []) (mr := []) kr kr kr kr)
    · intro a h; unfold laws_markKidS__m_l2 at h; cases h
    · rintro k_laws_markKidS__m_l2 ⟨p0, x3, x4⟩ h
      change laws_markKidS__m_l2 u (k_laws_markKidS__m_l2 + 1) p0 x3 x4 = some r at h
      rw [laws_markKidS__m_l2] at h
      refine Wp.seq ?_
      refine Wp.srg [] [] ?_
      refine Runs.batch 2 kr ?_
      refine Runs.lenX (e := 175) Kid.enc p0 true 5 rfl rfl rfl kr kr kr kr ?_
      refine Runs.alln ?_
      refine Wp.fg ⟨[(0, .ext true (.sl 5 (p0.map Kid.enc))), (1, .t (.int .i64 x3)), (4, .t (.int .i64 0)), (5, .t (.int .i64 x4)), (9, .t (.bool (decide (x4 < ((p0.length : Int))))))], [], []⟩ ?_
      refine Wp.cond2 (b := decide (x4 < ((p0.length : Int)))) kr (fun hc => ?_) (fun hc => ?_)
      · have h := cond_t h hc
        refine Wp.skip (thenN ?_)
        refine Wp.seq ?_
        refine Wp.block ?_
        refine Wp.srg [] [] ?_
        refine Runs.batch 3 kr ?_
        obtain ⟨y7, e_y7, h⟩ := bind_some h
        refine Runs.idxX (e := 175) (kk := .i64) (sz := 5) Kid.enc p0 x4 true rfl kr kr kr kr kr kr e_y7 ?_
        refine Runs.alln ?_
        refine Wp.fg ⟨[(0, .ext true (.sl 5 (p0.map Kid.enc))), (1, .t (.int .i64 x3)), (4, .t (.int .i64 0)), (5, .t (.int .i64 x4))], [], []⟩ ?_
        refine Wp.srg [] [] ?_
        refine Runs.alln ?_
        refine Wp.fg ⟨[(0, .ext true (.sl 5 (p0.map Kid.enc))), (1, .t (.int .i64 (bAdd .i64 x3 1))), (4, .t (.int .i64 0)), (5, .t (.int .i64 x4))], [], []⟩ ?_
        refine Wp.srg [] [] ?_
        refine Runs.batch 3 kr ?_
        obtain ⟨y8, e_y8, h⟩ := bind_some h
        refine Runs.idxX (e := 175) (kk := .i64) (sz := 5) Kid.enc p0 x4 true rfl kr kr kr kr kr kr e_y8 ?_
        refine Runs.alln ?_
        refine Wp.fg ⟨[(0, .ext true (.sl 5 (p0.map Kid.enc))), (1, .t (.int .i64 (bAdd .i64 x3 1))), (4, .t (.int .i64 0)), (5, .t (.int .i64 x4))], [], []⟩ ?_
        refine Wp.srg [] [] ?_
        refine Runs.alln ?_
        refine Wp.fg ⟨[(0, .ext true (.sl 5 (p0.map Kid.enc))), (1, .t (.int .i64 (bAdd .i64 (bAdd .i64 x3 1) 1))), (4, .t (.int .i64 0)), (5, .t (.int .i64 x4))], [], []⟩ ?_
        refine Wp.srg [] [] ?_
        refine Runs.batch 3 kr ?_
        obtain ⟨y9, e_y9, h⟩ := bind_some h
        refine Runs.idxX (e := 175) (kk := .i64) (sz := 5) Kid.enc p0 x4 true rfl kr kr kr kr kr kr e_y9 ?_
        refine Runs.alln ?_
        refine Wp.fg ⟨[(0, .ext true (.sl 5 (p0.map Kid.enc))), (1, .t (.int .i64 (bAdd .i64 (bAdd .i64 x3 1) 1))), (4, .t (.int .i64 0)), (5, .t (.int .i64 x4))], [], []⟩ ?_
        refine Wp.srg [] [] ?_
        refine Runs.alln ?_
        refine Wp.fg ⟨[(0, .ext true (.sl 5 (p0.map Kid.enc))), (1, .t (.int .i64 (bAdd .i64 (bAdd .i64 (bAdd .i64 x3 1) 1) 1))), (4, .t (.int .i64 0)), (5, .t (.int .i64 x4))], [], []⟩ ?_
        refine Wp.srg [] [] ?_
        refine Runs.batch 3 kr ?_
        obtain ⟨y10, e_y10, h⟩ := bind_some h
        refine Runs.idxX (e := 175) (kk := .i64) (sz := 5) Kid.enc p0 x4 true rfl kr kr kr kr kr kr e_y10 ?_
        refine Runs.alln ?_
        refine Wp.fg ⟨[(0, .ext true (.sl 5 (p0.map Kid.enc))), (1, .t (.int .i64 (bAdd .i64 (bAdd .i64 (bAdd .i64 x3 1) 1) 1))), (4, .t (.int .i64 0)), (5, .t (.int .i64 x4))], [], []⟩ ?_
        refine Wp.srg [] [] ?_
        refine Runs.alln ?_
        refine Wp.fg ⟨[(0, .ext true (.sl 5 (p0.map Kid.enc))), (1, .t (.int .i64 (bAdd .i64 (bAdd .i64 (bAdd .i64 (bAdd .i64 x3 1) 1) 1) 1))), (4, .t (.int .i64 0)), (5, .t (.int .i64 x4))], [], []⟩ ?_
        refine Wp.srg [] [] ?_
        refine Runs.batch 3 kr ?_
        obtain ⟨y11, e_y11, h⟩ := bind_some h
        refine Runs.idxX (e := 175) (kk := .i64) (sz := 5) Kid.enc p0 x4 true rfl kr kr kr kr kr kr e_y11 ?_
        refine Runs.alln ?_
        refine Wp.fg ⟨[(0, .ext true (.sl 5 (p0.map Kid.enc))), (1, .t (.int .i64 (bAdd .i64 (bAdd .i64 (bAdd .i64 (bAdd .i64 x3 1) 1) 1) 1))), (4, .t (.int .i64 0)), (5, .t (.int .i64 x4))], [], []⟩ ?_
        refine Wp.rg [] [] ?_
        refine Runs.all kr ?_
        refine blkN ?_
        refine thenN ?_
        refine Wp.rg [] [] ?_
        refine Runs.alln ?_
        exact ⟨(p0, bAdd .i64 (bAdd .i64 (bAdd .i64 (bAdd .i64 (bAdd .i64 x3 1) 1) 1) 1) 1, bAdd .i64 x4 1), h, Le.of (mo := []) (mr := []) kr kr kr kr⟩
      have h := cond_f h hc
      refine Wp.exit ?_
      refine thenE ?_
      refine thenE ?_
      refine blkE ?_
      refine thenN ?_
      exact ⟨x3, h, Le.of (mo := []) (mr := []) kr kr kr kr⟩
theorem laws_markNodeS__m_ok (u : Nat) (p0 : List Node) (p1 : Int) (r : Int) (h : laws_markNodeS__m u p0 p1 = some r) : MOK Tryz.prog 79 [.ext true (.sl 12 (p0.map Node.enc)), .t (.int .i64 p1)] (.int .i64 r) := by
  unfold laws_markNodeS__m at h
  refine MOK.of_bodyK (fn := Tryz.f79) kr rfl kr kr kr rfl ?_
  refine Wp.srg [] [] ?_
  refine Runs.alln ?_
  refine Wp.fg ⟨[(0, .ext true (.sl 12 (p0.map Node.enc))), (1, .t (.int .i64 p1)), (4, .t (.int .i64 0))], [], []⟩ ?_
  refine Wp.seqJ (α := Int) (fun a => ⟨[(1, .t (.int .i64 a)), (4, .t (.int .i64 0))], [], []⟩) (fun a => laws_markNodeS__m_j1 u a = some r) ?_ ?_
  · rintro x22 h
    change laws_markNodeS__m_j1 u x22 = some r at h
    unfold laws_markNodeS__m_j1 at h
    refine Wp.srg [] [] ?_
    refine Runs.alln ?_
    refine Wp.fg ⟨[(4, .t (.int .i64 x22))], [], []⟩ ?_
    refine Wp.ret ?_
    obtain rfl := Option.some.inj h
    exact MRetK [.t (.int .i64 x22)] kr kr
  · refine Wp.srg [] [] ?_
    refine Runs.alln ?_
    refine Wp.fg ⟨[(0, .ext true (.sl 12 (p0.map Node.enc))), (1, .t (.int .i64 p1)), (4, .t (.int .i64 0)), (5, .t (.int .i64 0))], [], []⟩ ?_
    refine Wp.block ?_
    refine Wp.loopF (α := (List Node) × Int × Int) (fun a => ⟨[(0, .ext true (.sl 12 (a.1.map Node.enc))), (1, .t (.int .i64 a.2.1)), (4, .t (.int .i64 0)), (5, .t (.int .i64 a.2.2))], [], []⟩) (fun k_laws_markNodeS__m_l2 a => laws_markNodeS__m_l2 u k_laws_markNodeS__m_l2 a.1 a.2.1 a.2.2 = some r) ?_ ?_ u (p0, p1, 0) h (Le.of (mo := []) (mr := []) kr kr kr kr)
    · intro a h; unfold laws_markNodeS__m_l2 at h; cases h
    · rintro k_laws_markNodeS__m_l2 ⟨p0, x3, x4⟩ h
      change laws_markNodeS__m_l2 u (k_laws_markNodeS__m_l2 + 1) p0 x3 x4 = some r at h
      rw [laws_markNodeS__m_l2] at h
      refine Wp.seq ?_
      refine Wp.srg [] [] ?_
      refine Runs.batch 2 kr ?_
      refine Runs.lenX (e := 97) Node.enc p0 true 12 rfl rfl rfl kr kr kr kr ?_
      refine Runs.alln ?_
      refine Wp.fg ⟨[(0, .ext true (.sl 12 (p0.map Node.enc))), (1, .t (.int .i64 x3)), (4, .t (.int .i64 0)), (5, .t (.int .i64 x4)), (9, .t (.bool (decide (x4 < ((p0.length : Int))))))], [], []⟩ ?_
      refine Wp.cond2 (b := decide (x4 < ((p0.length : Int)))) kr (fun hc => ?_) (fun hc => ?_)
      · have h := cond_t h hc
        refine Wp.skip (thenN ?_)
        refine Wp.seq ?_
        refine Wp.block ?_
        refine Wp.srg [] [] ?_
        refine Runs.batch 5 kr ?_
        obtain ⟨y7, e_y7, h⟩ := bind_some h
        refine Runs.idxX (e := 97) (kk := .i64) (sz := 12) Node.enc p0 x4 true rfl kr kr kr kr kr kr e_y7 ?_
        refine Runs.alln ?_
        refine Wp.fg ⟨[(0, .ext true (.sl 12 (p0.map Node.enc))), (1, .t (.int .i64 x3)), (4, .t (.int .i64 0)), (5, .t (.int .i64 x4))], [], []⟩ ?_
        refine Wp.srg [] [] ?_
        refine Runs.alln ?_
        refine Wp.fg ⟨[(0, .ext true (.sl 12 (p0.map Node.enc))), (1, .t (.int .i64 (bAdd .i64 x3 1))), (4, .t (.int .i64 0)), (5, .t (.int .i64 x4))], [], []⟩ ?_
        refine Wp.srg [] [] ?_
        refine Runs.batch 3 kr ?_
        obtain ⟨y8, e_y8, h⟩ := bind_some h
        refine Runs.idxX (e := 97) (kk := .i64) (sz := 12) Node.enc p0 x4 true rfl kr kr kr kr kr kr e_y8 ?_
        refine Runs.alln ?_
        refine Wp.fg ⟨[(0, .ext true (.sl 12 (p0.map Node.enc))), (1, .t (.int .i64 (bAdd .i64 x3 1))), (4, .t (.int .i64 0)), (5, .t (.int .i64 x4))], [], []⟩ ?_
        refine Wp.srg [] [] ?_
        refine Runs.alln ?_
        refine Wp.fg ⟨[(0, .ext true (.sl 12 (p0.map Node.enc))), (1, .t (.int .i64 (bAdd .i64 (bAdd .i64 x3 1) 1))), (4, .t (.int .i64 0)), (5, .t (.int .i64 x4))], [], []⟩ ?_
        refine Wp.srg [] [] ?_
        refine Runs.batch 3 kr ?_
        obtain ⟨y9, e_y9, h⟩ := bind_some h
        refine Runs.idxX (e := 97) (kk := .i64) (sz := 12) Node.enc p0 x4 true rfl kr kr kr kr kr kr e_y9 ?_
        refine Runs.alln ?_
        refine Wp.fg ⟨[(0, .ext true (.sl 12 (p0.map Node.enc))), (1, .t (.int .i64 (bAdd .i64 (bAdd .i64 x3 1) 1))), (4, .t (.int .i64 0)), (5, .t (.int .i64 x4))], [], []⟩ ?_
        refine Wp.srg [] [] ?_
        refine Runs.alln ?_
        refine Wp.fg ⟨[(0, .ext true (.sl 12 (p0.map Node.enc))), (1, .t (.int .i64 (bAdd .i64 (bAdd .i64 (bAdd .i64 x3 1) 1) 1))), (4, .t (.int .i64 0)), (5, .t (.int .i64 x4))], [], []⟩ ?_
        refine Wp.srg [] [] ?_
        refine Runs.batch 3 kr ?_
        obtain ⟨y10, e_y10, h⟩ := bind_some h
        refine Runs.idxX (e := 97) (kk := .i64) (sz := 12) Node.enc p0 x4 true rfl kr kr kr kr kr kr e_y10 ?_
        refine Runs.alln ?_
        refine Wp.fg ⟨[(0, .ext true (.sl 12 (p0.map Node.enc))), (1, .t (.int .i64 (bAdd .i64 (bAdd .i64 (bAdd .i64 x3 1) 1) 1))), (4, .t (.int .i64 0)), (5, .t (.int .i64 x4))], [], []⟩ ?_
        refine Wp.srg [] [] ?_
        refine Runs.alln ?_
        refine Wp.fg ⟨[(0, .ext true (.sl 12 (p0.map Node.enc))), (1, .t (.int .i64 (bAdd .i64 (bAdd .i64 (bAdd .i64 (bAdd .i64 x3 1) 1) 1) 1))), (4, .t (.int .i64 0)), (5, .t (.int .i64 x4))], [], []⟩ ?_
        refine Wp.srg [] [] ?_
        refine Runs.batch 3 kr ?_
        obtain ⟨y11, e_y11, h⟩ := bind_some h
        refine Runs.idxX (e := 97) (kk := .i64) (sz := 12) Node.enc p0 x4 true rfl kr kr kr kr kr kr e_y11 ?_
        refine Runs.alln ?_
        refine Wp.fg ⟨[(0, .ext true (.sl 12 (p0.map Node.enc))), (1, .t (.int .i64 (bAdd .i64 (bAdd .i64 (bAdd .i64 (bAdd .i64 x3 1) 1) 1) 1))), (4, .t (.int .i64 0)), (5, .t (.int .i64 x4))], [], []⟩ ?_
        refine Wp.srg [] [] ?_
        refine Runs.alln ?_
        refine Wp.fg ⟨[(0, .ext true (.sl 12 (p0.map Node.enc))), (1, .t (.int .i64 (bAdd .i64 (bAdd .i64 (bAdd .i64 (bAdd .i64 (bAdd .i64 x3 1) 1) 1) 1) 1))), (4, .t (.int .i64 0)), (5, .t (.int .i64 x4))], [], []⟩ ?_
        refine Wp.srg [] [] ?_
        refine Runs.batch 3 kr ?_
        obtain ⟨y12, e_y12, h⟩ := bind_some h
        refine Runs.idxX (e := 97) (kk := .i64) (sz := 12) Node.enc p0 x4 true rfl kr kr kr kr kr kr e_y12 ?_
        refine Runs.alln ?_
        refine Wp.fg ⟨[(0, .ext true (.sl 12 (p0.map Node.enc))), (1, .t (.int .i64 (bAdd .i64 (bAdd .i64 (bAdd .i64 (bAdd .i64 (bAdd .i64 x3 1) 1) 1) 1) 1))), (4, .t (.int .i64 0)), (5, .t (.int .i64 x4))], [], []⟩ ?_
        refine Wp.srg [] [] ?_
        refine Runs.alln ?_
        refine Wp.fg ⟨[(0, .ext true (.sl 12 (p0.map Node.enc))), (1, .t (.int .i64 (bAdd .i64 (bAdd .i64 (bAdd .i64 (bAdd .i64 (bAdd .i64 (bAdd .i64 x3 1) 1) 1) 1) 1) 1))), (4, .t (.int .i64 0)), (5, .t (.int .i64 x4))], [], []⟩ ?_
        refine Wp.srg [] [] ?_
        refine Runs.batch 2 kr ?_
        obtain ⟨y13, e_y13, h⟩ := bind_some h
        refine Runs.idxX (e := 97) (kk := .i64) (sz := 12) Node.enc p0 x4 true rfl kr kr kr kr kr kr e_y13 ?_
        refine Runs.batch 4 kr ?_
        obtain ⟨r14, e_r14, h⟩ := bind_some h
        refine Runs.callMK 127 [.ext true (.sl 2 (y13.fMan.fSums.map Sum.enc)), .t (.int .i64 (bAdd .i64 (bAdd .i64 (bAdd .i64 (bAdd .i64 (bAdd .i64 (bAdd .i64 x3 1) 1) 1) 1) 1) 1))] (.int .i64 r14) rfl kr kr kr kr kr kr (laws_markSumS__m_ok u y13.fMan.fSums (bAdd .i64 (bAdd .i64 (bAdd .i64 (bAdd .i64 (bAdd .i64 (bAdd .i64 x3 1) 1) 1) 1) 1) 1) r14 e_r14) ?_
        refine Runs.alln ?_
        refine Wp.fg ⟨[(0, .ext true (.sl 12 (p0.map Node.enc))), (1, .t (.int .i64 r14)), (4, .t (.int .i64 0)), (5, .t (.int .i64 x4))], [], []⟩ ?_
        refine Wp.srg [] [] ?_
        refine Runs.batch 3 kr ?_
        obtain ⟨y15, e_y15, h⟩ := bind_some h
        refine Runs.idxX (e := 97) (kk := .i64) (sz := 12) Node.enc p0 x4 true rfl kr kr kr kr kr kr e_y15 ?_
        refine Runs.alln ?_
        refine Wp.fg ⟨[(0, .ext true (.sl 12 (p0.map Node.enc))), (1, .t (.int .i64 r14)), (4, .t (.int .i64 0)), (5, .t (.int .i64 x4))], [], []⟩ ?_
        refine Wp.srg [] [] ?_
        refine Runs.alln ?_
        refine Wp.fg ⟨[(0, .ext true (.sl 12 (p0.map Node.enc))), (1, .t (.int .i64 (bAdd .i64 r14 1))), (4, .t (.int .i64 0)), (5, .t (.int .i64 x4))], [], []⟩ ?_
        refine Wp.srg [] [] ?_
        refine Runs.batch 2 kr ?_
        obtain ⟨y16, e_y16, h⟩ := bind_some h
        refine Runs.idxX (e := 97) (kk := .i64) (sz := 12) Node.enc p0 x4 true rfl kr kr kr kr kr kr e_y16 ?_
        refine Runs.batch 4 kr ?_
        obtain ⟨r17, e_r17, h⟩ := bind_some h
        refine Runs.callMK 77 [.ext true (.sl 1 (y16.fBld.fBuf.map (eInt .u8))), .t (.int .i64 (bAdd .i64 r14 1))] (.int .i64 r17) rfl kr kr kr kr kr kr (laws_markByteS__m_ok u y16.fBld.fBuf (bAdd .i64 r14 1) r17 e_r17) ?_
        refine Runs.alln ?_
        refine Wp.fg ⟨[(0, .ext true (.sl 12 (p0.map Node.enc))), (1, .t (.int .i64 r17)), (4, .t (.int .i64 0)), (5, .t (.int .i64 x4))], [], []⟩ ?_
        refine Wp.srg [] [] ?_
        refine Runs.batch 3 kr ?_
        obtain ⟨y18, e_y18, h⟩ := bind_some h
        refine Runs.idxX (e := 97) (kk := .i64) (sz := 12) Node.enc p0 x4 true rfl kr kr kr kr kr kr e_y18 ?_
        refine Runs.alln ?_
        refine Wp.fg ⟨[(0, .ext true (.sl 12 (p0.map Node.enc))), (1, .t (.int .i64 r17)), (4, .t (.int .i64 0)), (5, .t (.int .i64 x4))], [], []⟩ ?_
        refine Wp.srg [] [] ?_
        refine Runs.alln ?_
        refine Wp.fg ⟨[(0, .ext true (.sl 12 (p0.map Node.enc))), (1, .t (.int .i64 (bAdd .i64 r17 1))), (4, .t (.int .i64 0)), (5, .t (.int .i64 x4))], [], []⟩ ?_
        refine Wp.srg [] [] ?_
        refine Runs.batch 2 kr ?_
        obtain ⟨y19, e_y19, h⟩ := bind_some h
        refine Runs.idxX (e := 97) (kk := .i64) (sz := 12) Node.enc p0 x4 true rfl kr kr kr kr kr kr e_y19 ?_
        refine Runs.batch 3 kr ?_
        obtain ⟨r20, e_r20, h⟩ := bind_some h
        refine Runs.callMK 128 [.ext true (.sl 5 (y19.fKids.map Kid.enc)), .t (.int .i64 (bAdd .i64 r17 1))] (.int .i64 r20) rfl kr kr kr kr kr kr (laws_markKidS__m_ok u y19.fKids (bAdd .i64 r17 1) r20 e_r20) ?_
        refine Runs.alln ?_
        refine Wp.fg ⟨[(0, .ext true (.sl 12 (p0.map Node.enc))), (1, .t (.int .i64 r20)), (4, .t (.int .i64 0)), (5, .t (.int .i64 x4))], [], []⟩ ?_
        refine Wp.srg [] [] ?_
        refine Runs.batch 3 kr ?_
        obtain ⟨y21, e_y21, h⟩ := bind_some h
        refine Runs.idxX (e := 97) (kk := .i64) (sz := 12) Node.enc p0 x4 true rfl kr kr kr kr kr kr e_y21 ?_
        refine Runs.alln ?_
        refine Wp.fg ⟨[(0, .ext true (.sl 12 (p0.map Node.enc))), (1, .t (.int .i64 r20)), (4, .t (.int .i64 0)), (5, .t (.int .i64 x4))], [], []⟩ ?_
        refine Wp.rg [] [] ?_
        refine Runs.all kr ?_
        refine blkN ?_
        refine thenN ?_
        refine Wp.rg [] [] ?_
        refine Runs.alln ?_
        exact ⟨(p0, bAdd .i64 r20 1, bAdd .i64 x4 1), h, Le.of (mo := []) (mr := []) kr kr kr kr⟩
      have h := cond_f h hc
      refine Wp.exit ?_
      refine thenE ?_
      refine thenE ?_
      refine blkE ?_
      refine thenN ?_
      exact ⟨x3, h, Le.of (mo := []) (mr := []) kr kr kr kr⟩
theorem laws_markPutS__m_ok (u : Nat) (p0 : List Put) (p1 : Int) (r : Int) (h : laws_markPutS__m u p0 p1 = some r) : MOK Tryz.prog 129 [.ext true (.sl 6 (p0.map Put.enc)), .t (.int .i64 p1)] (.int .i64 r) := by
  unfold laws_markPutS__m at h
  refine MOK.of_bodyK (fn := Tryz.f129) kr rfl kr kr kr rfl ?_
  refine Wp.srg [] [] ?_
  refine Runs.alln ?_
  refine Wp.fg ⟨[(0, .ext true (.sl 6 (p0.map Put.enc))), (1, .t (.int .i64 p1)), (4, .t (.int .i64 0))], [], []⟩ ?_
  refine Wp.seqJ (α := Int) (fun a => ⟨[(1, .t (.int .i64 a)), (4, .t (.int .i64 0))], [], []⟩) (fun a => laws_markPutS__m_j1 u a = some r) ?_ ?_
  · rintro x14 h
    change laws_markPutS__m_j1 u x14 = some r at h
    unfold laws_markPutS__m_j1 at h
    refine Wp.srg [] [] ?_
    refine Runs.alln ?_
    refine Wp.fg ⟨[(4, .t (.int .i64 x14))], [], []⟩ ?_
    refine Wp.ret ?_
    obtain rfl := Option.some.inj h
    exact MRetK [.t (.int .i64 x14)] kr kr
  · refine Wp.srg [] [] ?_
    refine Runs.alln ?_
    refine Wp.fg ⟨[(0, .ext true (.sl 6 (p0.map Put.enc))), (1, .t (.int .i64 p1)), (4, .t (.int .i64 0)), (5, .t (.int .i64 0))], [], []⟩ ?_
    refine Wp.block ?_
    refine Wp.loopF (α := (List Put) × Int × Int) (fun a => ⟨[(0, .ext true (.sl 6 (a.1.map Put.enc))), (1, .t (.int .i64 a.2.1)), (4, .t (.int .i64 0)), (5, .t (.int .i64 a.2.2))], [], []⟩) (fun k_laws_markPutS__m_l2 a => laws_markPutS__m_l2 u k_laws_markPutS__m_l2 a.1 a.2.1 a.2.2 = some r) ?_ ?_ u (p0, p1, 0) h (Le.of (mo := []) (mr := []) kr kr kr kr)
    · intro a h; unfold laws_markPutS__m_l2 at h; cases h
    · rintro k_laws_markPutS__m_l2 ⟨p0, x3, x4⟩ h
      change laws_markPutS__m_l2 u (k_laws_markPutS__m_l2 + 1) p0 x3 x4 = some r at h
      rw [laws_markPutS__m_l2] at h
      refine Wp.seq ?_
      refine Wp.srg [] [] ?_
      refine Runs.batch 2 kr ?_
      refine Runs.lenX (e := 186) Put.enc p0 true 6 rfl rfl rfl kr kr kr kr ?_
      refine Runs.alln ?_
      refine Wp.fg ⟨[(0, .ext true (.sl 6 (p0.map Put.enc))), (1, .t (.int .i64 x3)), (4, .t (.int .i64 0)), (5, .t (.int .i64 x4)), (9, .t (.bool (decide (x4 < ((p0.length : Int))))))], [], []⟩ ?_
      refine Wp.cond2 (b := decide (x4 < ((p0.length : Int)))) kr (fun hc => ?_) (fun hc => ?_)
      · have h := cond_t h hc
        refine Wp.skip (thenN ?_)
        refine Wp.seq ?_
        refine Wp.block ?_
        refine Wp.srg [] [] ?_
        refine Runs.batch 3 kr ?_
        obtain ⟨y7, e_y7, h⟩ := bind_some h
        refine Runs.idxX (e := 186) (kk := .i64) (sz := 6) Put.enc p0 x4 true rfl kr kr kr kr kr kr e_y7 ?_
        refine Runs.alln ?_
        refine Wp.fg ⟨[(0, .ext true (.sl 6 (p0.map Put.enc))), (1, .t (.int .i64 x3)), (4, .t (.int .i64 0)), (5, .t (.int .i64 x4))], [], []⟩ ?_
        refine Wp.srg [] [] ?_
        refine Runs.alln ?_
        refine Wp.fg ⟨[(0, .ext true (.sl 6 (p0.map Put.enc))), (1, .t (.int .i64 (bAdd .i64 x3 1))), (4, .t (.int .i64 0)), (5, .t (.int .i64 x4))], [], []⟩ ?_
        refine Wp.srg [] [] ?_
        refine Runs.batch 3 kr ?_
        obtain ⟨y8, e_y8, h⟩ := bind_some h
        refine Runs.idxX (e := 186) (kk := .i64) (sz := 6) Put.enc p0 x4 true rfl kr kr kr kr kr kr e_y8 ?_
        refine Runs.alln ?_
        refine Wp.fg ⟨[(0, .ext true (.sl 6 (p0.map Put.enc))), (1, .t (.int .i64 (bAdd .i64 x3 1))), (4, .t (.int .i64 0)), (5, .t (.int .i64 x4))], [], []⟩ ?_
        refine Wp.srg [] [] ?_
        refine Runs.alln ?_
        refine Wp.fg ⟨[(0, .ext true (.sl 6 (p0.map Put.enc))), (1, .t (.int .i64 (bAdd .i64 (bAdd .i64 x3 1) 1))), (4, .t (.int .i64 0)), (5, .t (.int .i64 x4))], [], []⟩ ?_
        refine Wp.srg [] [] ?_
        refine Runs.batch 2 kr ?_
        obtain ⟨y9, e_y9, h⟩ := bind_some h
        refine Runs.idxX (e := 186) (kk := .i64) (sz := 6) Put.enc p0 x4 true rfl kr kr kr kr kr kr e_y9 ?_
        refine Runs.batch 3 kr ?_
        obtain ⟨r10, e_r10, h⟩ := bind_some h
        refine Runs.callMK 77 [.ext true (.sl 1 (y9.fB.map (eInt .u8))), .t (.int .i64 (bAdd .i64 (bAdd .i64 x3 1) 1))] (.int .i64 r10) rfl kr kr kr kr kr kr (laws_markByteS__m_ok u y9.fB (bAdd .i64 (bAdd .i64 x3 1) 1) r10 e_r10) ?_
        refine Runs.alln ?_
        refine Wp.fg ⟨[(0, .ext true (.sl 6 (p0.map Put.enc))), (1, .t (.int .i64 r10)), (4, .t (.int .i64 0)), (5, .t (.int .i64 x4))], [], []⟩ ?_
        refine Wp.srg [] [] ?_
        refine Runs.batch 3 kr ?_
        obtain ⟨y11, e_y11, h⟩ := bind_some h
        refine Runs.idxX (e := 186) (kk := .i64) (sz := 6) Put.enc p0 x4 true rfl kr kr kr kr kr kr e_y11 ?_
        refine Runs.alln ?_
        refine Wp.fg ⟨[(0, .ext true (.sl 6 (p0.map Put.enc))), (1, .t (.int .i64 r10)), (4, .t (.int .i64 0)), (5, .t (.int .i64 x4))], [], []⟩ ?_
        refine Wp.srg [] [] ?_
        refine Runs.alln ?_
        refine Wp.fg ⟨[(0, .ext true (.sl 6 (p0.map Put.enc))), (1, .t (.int .i64 (bAdd .i64 r10 1))), (4, .t (.int .i64 0)), (5, .t (.int .i64 x4))], [], []⟩ ?_
        refine Wp.srg [] [] ?_
        refine Runs.batch 3 kr ?_
        obtain ⟨y12, e_y12, h⟩ := bind_some h
        refine Runs.idxX (e := 186) (kk := .i64) (sz := 6) Put.enc p0 x4 true rfl kr kr kr kr kr kr e_y12 ?_
        refine Runs.alln ?_
        refine Wp.fg ⟨[(0, .ext true (.sl 6 (p0.map Put.enc))), (1, .t (.int .i64 (bAdd .i64 r10 1))), (4, .t (.int .i64 0)), (5, .t (.int .i64 x4))], [], []⟩ ?_
        refine Wp.srg [] [] ?_
        refine Runs.alln ?_
        refine Wp.fg ⟨[(0, .ext true (.sl 6 (p0.map Put.enc))), (1, .t (.int .i64 (bAdd .i64 (bAdd .i64 r10 1) 1))), (4, .t (.int .i64 0)), (5, .t (.int .i64 x4))], [], []⟩ ?_
        refine Wp.srg [] [] ?_
        refine Runs.batch 3 kr ?_
        obtain ⟨y13, e_y13, h⟩ := bind_some h
        refine Runs.idxX (e := 186) (kk := .i64) (sz := 6) Put.enc p0 x4 true rfl kr kr kr kr kr kr e_y13 ?_
        refine Runs.alln ?_
        refine Wp.fg ⟨[(0, .ext true (.sl 6 (p0.map Put.enc))), (1, .t (.int .i64 (bAdd .i64 (bAdd .i64 r10 1) 1))), (4, .t (.int .i64 0)), (5, .t (.int .i64 x4))], [], []⟩ ?_
        refine Wp.rg [] [] ?_
        refine Runs.all kr ?_
        refine blkN ?_
        refine thenN ?_
        refine Wp.rg [] [] ?_
        refine Runs.alln ?_
        exact ⟨(p0, bAdd .i64 (bAdd .i64 (bAdd .i64 r10 1) 1) 1, bAdd .i64 x4 1), h, Le.of (mo := []) (mr := []) kr kr kr kr⟩
      have h := cond_f h hc
      refine Wp.exit ?_
      refine thenE ?_
      refine thenE ?_
      refine blkE ?_
      refine thenN ?_
      exact ⟨x3, h, Le.of (mo := []) (mr := []) kr kr kr kr⟩
theorem laws_markDiskS__m_ok (u : Nat) (p0 : List Disk) (p1 : Int) (r : Int) (h : laws_markDiskS__m u p0 p1 = some r) : MOK Tryz.prog 80 [.ext true (.sl 6 (p0.map Disk.enc)), .t (.int .i64 p1)] (.int .i64 r) := by
  unfold laws_markDiskS__m at h
  refine MOK.of_bodyK (fn := Tryz.f80) kr rfl kr kr kr rfl ?_
  refine Wp.srg [] [] ?_
  refine Runs.alln ?_
  refine Wp.fg ⟨[(0, .ext true (.sl 6 (p0.map Disk.enc))), (1, .t (.int .i64 p1)), (4, .t (.int .i64 0))], [], []⟩ ?_
  refine Wp.seqJ (α := Int) (fun a => ⟨[(1, .t (.int .i64 a)), (4, .t (.int .i64 0))], [], []⟩) (fun a => laws_markDiskS__m_j1 u a = some r) ?_ ?_
  · rintro x16 h
    change laws_markDiskS__m_j1 u x16 = some r at h
    unfold laws_markDiskS__m_j1 at h
    refine Wp.srg [] [] ?_
    refine Runs.alln ?_
    refine Wp.fg ⟨[(4, .t (.int .i64 x16))], [], []⟩ ?_
    refine Wp.ret ?_
    obtain rfl := Option.some.inj h
    exact MRetK [.t (.int .i64 x16)] kr kr
  · refine Wp.srg [] [] ?_
    refine Runs.alln ?_
    refine Wp.fg ⟨[(0, .ext true (.sl 6 (p0.map Disk.enc))), (1, .t (.int .i64 p1)), (4, .t (.int .i64 0)), (5, .t (.int .i64 0))], [], []⟩ ?_
    refine Wp.block ?_
    refine Wp.loopF (α := (List Disk) × Int × Int) (fun a => ⟨[(0, .ext true (.sl 6 (a.1.map Disk.enc))), (1, .t (.int .i64 a.2.1)), (4, .t (.int .i64 0)), (5, .t (.int .i64 a.2.2))], [], []⟩) (fun k_laws_markDiskS__m_l2 a => laws_markDiskS__m_l2 u k_laws_markDiskS__m_l2 a.1 a.2.1 a.2.2 = some r) ?_ ?_ u (p0, p1, 0) h (Le.of (mo := []) (mr := []) kr kr kr kr)
    · intro a h; unfold laws_markDiskS__m_l2 at h; cases h
    · rintro k_laws_markDiskS__m_l2 ⟨p0, x3, x4⟩ h
      change laws_markDiskS__m_l2 u (k_laws_markDiskS__m_l2 + 1) p0 x3 x4 = some r at h
      rw [laws_markDiskS__m_l2] at h
      refine Wp.seq ?_
      refine Wp.srg [] [] ?_
      refine Runs.batch 2 kr ?_
      refine Runs.lenX (e := 87) Disk.enc p0 true 6 rfl rfl rfl kr kr kr kr ?_
      refine Runs.alln ?_
      refine Wp.fg ⟨[(0, .ext true (.sl 6 (p0.map Disk.enc))), (1, .t (.int .i64 x3)), (4, .t (.int .i64 0)), (5, .t (.int .i64 x4)), (9, .t (.bool (decide (x4 < ((p0.length : Int))))))], [], []⟩ ?_
      refine Wp.cond2 (b := decide (x4 < ((p0.length : Int)))) kr (fun hc => ?_) (fun hc => ?_)
      · have h := cond_t h hc
        refine Wp.skip (thenN ?_)
        refine Wp.seq ?_
        refine Wp.block ?_
        refine Wp.srg [] [] ?_
        refine Runs.batch 2 kr ?_
        obtain ⟨y7, e_y7, h⟩ := bind_some h
        refine Runs.idxX (e := 87) (kk := .i64) (sz := 6) Disk.enc p0 x4 true rfl kr kr kr kr kr kr e_y7 ?_
        refine Runs.batch 3 kr ?_
        obtain ⟨r8, e_r8, h⟩ := bind_some h
        refine Runs.callMK 77 [.ext true (.sl 1 (y7.fA.map (eInt .u8))), .t (.int .i64 x3)] (.int .i64 r8) rfl kr kr kr kr kr kr (laws_markByteS__m_ok u y7.fA x3 r8 e_r8) ?_
        refine Runs.alln ?_
        refine Wp.fg ⟨[(0, .ext true (.sl 6 (p0.map Disk.enc))), (1, .t (.int .i64 r8)), (4, .t (.int .i64 0)), (5, .t (.int .i64 x4))], [], []⟩ ?_
        refine Wp.srg [] [] ?_
        refine Runs.batch 2 kr ?_
        obtain ⟨y9, e_y9, h⟩ := bind_some h
        refine Runs.idxX (e := 87) (kk := .i64) (sz := 6) Disk.enc p0 x4 true rfl kr kr kr kr kr kr e_y9 ?_
        refine Runs.batch 3 kr ?_
        obtain ⟨r10, e_r10, h⟩ := bind_some h
        refine Runs.callMK 77 [.ext true (.sl 1 (y9.fB.map (eInt .u8))), .t (.int .i64 r8)] (.int .i64 r10) rfl kr kr kr kr kr kr (laws_markByteS__m_ok u y9.fB r8 r10 e_r10) ?_
        refine Runs.alln ?_
        refine Wp.fg ⟨[(0, .ext true (.sl 6 (p0.map Disk.enc))), (1, .t (.int .i64 r10)), (4, .t (.int .i64 0)), (5, .t (.int .i64 x4))], [], []⟩ ?_
        refine Wp.srg [] [] ?_
        refine Runs.batch 3 kr ?_
        obtain ⟨y11, e_y11, h⟩ := bind_some h
        refine Runs.idxX (e := 87) (kk := .i64) (sz := 6) Disk.enc p0 x4 true rfl kr kr kr kr kr kr e_y11 ?_
        refine Runs.alln ?_
        refine Wp.fg ⟨[(0, .ext true (.sl 6 (p0.map Disk.enc))), (1, .t (.int .i64 r10)), (4, .t (.int .i64 0)), (5, .t (.int .i64 x4))], [], []⟩ ?_
        refine Wp.srg [] [] ?_
        refine Runs.alln ?_
        refine Wp.fg ⟨[(0, .ext true (.sl 6 (p0.map Disk.enc))), (1, .t (.int .i64 (bAdd .i64 r10 1))), (4, .t (.int .i64 0)), (5, .t (.int .i64 x4))], [], []⟩ ?_
        refine Wp.srg [] [] ?_
        refine Runs.batch 3 kr ?_
        obtain ⟨y12, e_y12, h⟩ := bind_some h
        refine Runs.idxX (e := 87) (kk := .i64) (sz := 6) Disk.enc p0 x4 true rfl kr kr kr kr kr kr e_y12 ?_
        refine Runs.alln ?_
        refine Wp.fg ⟨[(0, .ext true (.sl 6 (p0.map Disk.enc))), (1, .t (.int .i64 (bAdd .i64 r10 1))), (4, .t (.int .i64 0)), (5, .t (.int .i64 x4))], [], []⟩ ?_
        refine Wp.srg [] [] ?_
        refine Runs.alln ?_
        refine Wp.fg ⟨[(0, .ext true (.sl 6 (p0.map Disk.enc))), (1, .t (.int .i64 (bAdd .i64 (bAdd .i64 r10 1) 1))), (4, .t (.int .i64 0)), (5, .t (.int .i64 x4))], [], []⟩ ?_
        refine Wp.srg [] [] ?_
        refine Runs.batch 3 kr ?_
        obtain ⟨y13, e_y13, h⟩ := bind_some h
        refine Runs.idxX (e := 87) (kk := .i64) (sz := 6) Disk.enc p0 x4 true rfl kr kr kr kr kr kr e_y13 ?_
        refine Runs.alln ?_
        refine Wp.fg ⟨[(0, .ext true (.sl 6 (p0.map Disk.enc))), (1, .t (.int .i64 (bAdd .i64 (bAdd .i64 r10 1) 1))), (4, .t (.int .i64 0)), (5, .t (.int .i64 x4))], [], []⟩ ?_
        refine Wp.srg [] [] ?_
        refine Runs.alln ?_
        refine Wp.fg ⟨[(0, .ext true (.sl 6 (p0.map Disk.enc))), (1, .t (.int .i64 (bAdd .i64 (bAdd .i64 (bAdd .i64 r10 1) 1) 1))), (4, .t (.int .i64 0)), (5, .t (.int .i64 x4))], [], []⟩ ?_
        refine Wp.rg [] [] ?_
        refine Runs.batch 2 kr ?_
        obtain ⟨y14, e_y14, h⟩ := bind_some h
        refine Runs.idxX (e := 87) (kk := .i64) (sz := 6) Disk.enc p0 x4 true rfl kr kr kr kr kr kr e_y14 ?_
        refine Runs.batch 3 kr ?_
        obtain ⟨r15, e_r15, h⟩ := bind_some h
        refine Runs.callMK 129 [.ext true (.sl 6 (y14.fP.map Put.enc)), .t (.int .i64 (bAdd .i64 (bAdd .i64 (bAdd .i64 r10 1) 1) 1))] (.int .i64 r15) rfl kr kr kr kr kr kr (laws_markPutS__m_ok u y14.fP (bAdd .i64 (bAdd .i64 (bAdd .i64 r10 1) 1) 1) r15 e_r15) ?_
        refine Runs.all kr ?_
        refine blkN ?_
        refine thenN ?_
        refine Wp.rg [] [] ?_
        refine Runs.alln ?_
        exact ⟨(p0, r15, bAdd .i64 x4 1), h, Le.of (mo := []) (mr := []) kr kr kr kr⟩
      have h := cond_f h hc
      refine Wp.exit ?_
      refine thenE ?_
      refine thenE ?_
      refine blkE ?_
      refine thenN ?_
      exact ⟨x3, h, Le.of (mo := []) (mr := []) kr kr kr kr⟩
theorem laws_markPacketS__m_ok (u : Nat) (p0 : List Packet) (p1 : Int) (r : Int) (h : laws_markPacketS__m u p0 p1 = some r) : MOK Tryz.prog 81 [.ext true (.sl 3 (p0.map Packet.enc)), .t (.int .i64 p1)] (.int .i64 r) := by
  unfold laws_markPacketS__m at h
  refine MOK.of_bodyK (fn := Tryz.f81) kr rfl kr kr kr rfl ?_
  refine Wp.srg [] [] ?_
  refine Runs.alln ?_
  refine Wp.fg ⟨[(0, .ext true (.sl 3 (p0.map Packet.enc))), (1, .t (.int .i64 p1)), (4, .t (.int .i64 0))], [], []⟩ ?_
  refine Wp.seqJ (α := Int) (fun a => ⟨[(1, .t (.int .i64 a)), (4, .t (.int .i64 0))], [], []⟩) (fun a => laws_markPacketS__m_j1 u a = some r) ?_ ?_
  · rintro x11 h
    change laws_markPacketS__m_j1 u x11 = some r at h
    unfold laws_markPacketS__m_j1 at h
    refine Wp.srg [] [] ?_
    refine Runs.alln ?_
    refine Wp.fg ⟨[(4, .t (.int .i64 x11))], [], []⟩ ?_
    refine Wp.ret ?_
    obtain rfl := Option.some.inj h
    exact MRetK [.t (.int .i64 x11)] kr kr
  · refine Wp.srg [] [] ?_
    refine Runs.alln ?_
    refine Wp.fg ⟨[(0, .ext true (.sl 3 (p0.map Packet.enc))), (1, .t (.int .i64 p1)), (4, .t (.int .i64 0)), (5, .t (.int .i64 0))], [], []⟩ ?_
    refine Wp.block ?_
    refine Wp.loopF (α := (List Packet) × Int × Int) (fun a => ⟨[(0, .ext true (.sl 3 (a.1.map Packet.enc))), (1, .t (.int .i64 a.2.1)), (4, .t (.int .i64 0)), (5, .t (.int .i64 a.2.2))], [], []⟩) (fun k_laws_markPacketS__m_l2 a => laws_markPacketS__m_l2 u k_laws_markPacketS__m_l2 a.1 a.2.1 a.2.2 = some r) ?_ ?_ u (p0, p1, 0) h (Le.of (mo := []) (mr := []) kr kr kr kr)
    · intro a h; unfold laws_markPacketS__m_l2 at h; cases h
    · rintro k_laws_markPacketS__m_l2 ⟨p0, x3, x4⟩ h
      change laws_markPacketS__m_l2 u (k_laws_markPacketS__m_l2 + 1) p0 x3 x4 = some r at h
      rw [laws_markPacketS__m_l2] at h
      refine Wp.seq ?_
      refine Wp.srg [] [] ?_
      refine Runs.batch 2 kr ?_
      refine Runs.lenX (e := 134) Packet.enc p0 true 3 rfl rfl rfl kr kr kr kr ?_
      refine Runs.alln ?_
      refine Wp.fg ⟨[(0, .ext true (.sl 3 (p0.map Packet.enc))), (1, .t (.int .i64 x3)), (4, .t (.int .i64 0)), (5, .t (.int .i64 x4)), (9, .t (.bool (decide (x4 < ((p0.length : Int))))))], [], []⟩ ?_
      refine Wp.cond2 (b := decide (x4 < ((p0.length : Int)))) kr (fun hc => ?_) (fun hc => ?_)
      · have h := cond_t h hc
        refine Wp.skip (thenN ?_)
        refine Wp.seq ?_
        refine Wp.block ?_
        refine Wp.srg [] [] ?_
        refine Runs.batch 3 kr ?_
        obtain ⟨y7, e_y7, h⟩ := bind_some h
        refine Runs.idxX (e := 134) (kk := .i64) (sz := 3) Packet.enc p0 x4 true rfl kr kr kr kr kr kr e_y7 ?_
        refine Runs.alln ?_
        refine Wp.fg ⟨[(0, .ext true (.sl 3 (p0.map Packet.enc))), (1, .t (.int .i64 x3)), (4, .t (.int .i64 0)), (5, .t (.int .i64 x4))], [], []⟩ ?_
        refine Wp.srg [] [] ?_
        refine Runs.alln ?_
        refine Wp.fg ⟨[(0, .ext true (.sl 3 (p0.map Packet.enc))), (1, .t (.int .i64 (bAdd .i64 x3 1))), (4, .t (.int .i64 0)), (5, .t (.int .i64 x4))], [], []⟩ ?_
        refine Wp.srg [] [] ?_
        refine Runs.batch 3 kr ?_
        obtain ⟨y8, e_y8, h⟩ := bind_some h
        refine Runs.idxX (e := 134) (kk := .i64) (sz := 3) Packet.enc p0 x4 true rfl kr kr kr kr kr kr e_y8 ?_
        refine Runs.alln ?_
        refine Wp.fg ⟨[(0, .ext true (.sl 3 (p0.map Packet.enc))), (1, .t (.int .i64 (bAdd .i64 x3 1))), (4, .t (.int .i64 0)), (5, .t (.int .i64 x4))], [], []⟩ ?_
        refine Wp.srg [] [] ?_
        refine Runs.alln ?_
        refine Wp.fg ⟨[(0, .ext true (.sl 3 (p0.map Packet.enc))), (1, .t (.int .i64 (bAdd .i64 (bAdd .i64 x3 1) 1))), (4, .t (.int .i64 0)), (5, .t (.int .i64 x4))], [], []⟩ ?_
        refine Wp.rg [] [] ?_
        refine Runs.batch 2 kr ?_
        obtain ⟨y9, e_y9, h⟩ := bind_some h
        refine Runs.idxX (e := 134) (kk := .i64) (sz := 3) Packet.enc p0 x4 true rfl kr kr kr kr kr kr e_y9 ?_
        refine Runs.batch 3 kr ?_
        obtain ⟨r10, e_r10, h⟩ := bind_some h
        refine Runs.callMK 77 [.ext true (.sl 1 (y9.fB.map (eInt .u8))), .t (.int .i64 (bAdd .i64 (bAdd .i64 x3 1) 1))] (.int .i64 r10) rfl kr kr kr kr kr kr (laws_markByteS__m_ok u y9.fB (bAdd .i64 (bAdd .i64 x3 1) 1) r10 e_r10) ?_
        refine Runs.all kr ?_
        refine blkN ?_
        refine thenN ?_
        refine Wp.rg [] [] ?_
        refine Runs.alln ?_
        exact ⟨(p0, r10, bAdd .i64 x4 1), h, Le.of (mo := []) (mr := []) kr kr kr kr⟩
      have h := cond_f h hc
      refine Wp.exit ?_
      refine thenE ?_
      refine thenE ?_
      refine blkE ?_
      refine thenN ?_
      exact ⟨x3, h, Le.of (mo := []) (mr := []) kr kr kr kr⟩
theorem laws_markSentS__m_ok (u : Nat) (p0 : List Sent) (p1 : Int) (r : Int) (h : laws_markSentS__m u p0 p1 = some r) : MOK Tryz.prog 82 [.ext true (.sl 3 (p0.map Sent.enc)), .t (.int .i64 p1)] (.int .i64 r) := by
  unfold laws_markSentS__m at h
  refine MOK.of_bodyK (fn := Tryz.f82) kr rfl kr kr kr rfl ?_
  refine Wp.srg [] [] ?_
  refine Runs.alln ?_
  refine Wp.fg ⟨[(0, .ext true (.sl 3 (p0.map Sent.enc))), (1, .t (.int .i64 p1)), (4, .t (.int .i64 0))], [], []⟩ ?_
  refine Wp.seqJ (α := Int) (fun a => ⟨[(1, .t (.int .i64 a)), (4, .t (.int .i64 0))], [], []⟩) (fun a => laws_markSentS__m_j1 u a = some r) ?_ ?_
  · rintro x10 h
    change laws_markSentS__m_j1 u x10 = some r at h
    unfold laws_markSentS__m_j1 at h
    refine Wp.srg [] [] ?_
    refine Runs.alln ?_
    refine Wp.fg ⟨[(4, .t (.int .i64 x10))], [], []⟩ ?_
    refine Wp.ret ?_
    obtain rfl := Option.some.inj h
    exact MRetK [.t (.int .i64 x10)] kr kr
  · refine Wp.srg [] [] ?_
    refine Runs.alln ?_
    refine Wp.fg ⟨[(0, .ext true (.sl 3 (p0.map Sent.enc))), (1, .t (.int .i64 p1)), (4, .t (.int .i64 0)), (5, .t (.int .i64 0))], [], []⟩ ?_
    refine Wp.block ?_
    refine Wp.loopF (α := (List Sent) × Int × Int) (fun a => ⟨[(0, .ext true (.sl 3 (a.1.map Sent.enc))), (1, .t (.int .i64 a.2.1)), (4, .t (.int .i64 0)), (5, .t (.int .i64 a.2.2))], [], []⟩) (fun k_laws_markSentS__m_l2 a => laws_markSentS__m_l2 u k_laws_markSentS__m_l2 a.1 a.2.1 a.2.2 = some r) ?_ ?_ u (p0, p1, 0) h (Le.of (mo := []) (mr := []) kr kr kr kr)
    · intro a h; unfold laws_markSentS__m_l2 at h; cases h
    · rintro k_laws_markSentS__m_l2 ⟨p0, x3, x4⟩ h
      change laws_markSentS__m_l2 u (k_laws_markSentS__m_l2 + 1) p0 x3 x4 = some r at h
      rw [laws_markSentS__m_l2] at h
      refine Wp.seq ?_
      refine Wp.srg [] [] ?_
      refine Runs.batch 2 kr ?_
      refine Runs.lenX (e := 137) Sent.enc p0 true 3 rfl rfl rfl kr kr kr kr ?_
      refine Runs.alln ?_
      refine Wp.fg ⟨[(0, .ext true (.sl 3 (p0.map Sent.enc))), (1, .t (.int .i64 x3)), (4, .t (.int .i64 0)), (5, .t (.int .i64 x4)), (9, .t (.bool (decide (x4 < ((p0.length : Int))))))], [], []⟩ ?_
      refine Wp.cond2 (b := decide (x4 < ((p0.length : Int)))) kr (fun hc => ?_) (fun hc => ?_)
      · have h := cond_t h hc
        refine Wp.skip (thenN ?_)
        refine Wp.seq ?_
        refine Wp.block ?_
        refine Wp.srg [] [] ?_
        refine Runs.batch 3 kr ?_
        obtain ⟨y7, e_y7, h⟩ := bind_some h
        refine Runs.idxX (e := 137) (kk := .i64) (sz := 3) Sent.enc p0 x4 true rfl kr kr kr kr kr kr e_y7 ?_
        refine Runs.alln ?_
        refine Wp.fg ⟨[(0, .ext true (.sl 3 (p0.map Sent.enc))), (1, .t (.int .i64 x3)), (4, .t (.int .i64 0)), (5, .t (.int .i64 x4))], [], []⟩ ?_
        refine Wp.srg [] [] ?_
        refine Runs.alln ?_
        refine Wp.fg ⟨[(0, .ext true (.sl 3 (p0.map Sent.enc))), (1, .t (.int .i64 (bAdd .i64 x3 1))), (4, .t (.int .i64 0)), (5, .t (.int .i64 x4))], [], []⟩ ?_
        refine Wp.srg [] [] ?_
        refine Runs.batch 3 kr ?_
        obtain ⟨y8, e_y8, h⟩ := bind_some h
        refine Runs.idxX (e := 137) (kk := .i64) (sz := 3) Sent.enc p0 x4 true rfl kr kr kr kr kr kr e_y8 ?_
        refine Runs.alln ?_
        refine Wp.fg ⟨[(0, .ext true (.sl 3 (p0.map Sent.enc))), (1, .t (.int .i64 (bAdd .i64 x3 1))), (4, .t (.int .i64 0)), (5, .t (.int .i64 x4))], [], []⟩ ?_
        refine Wp.srg [] [] ?_
        refine Runs.alln ?_
        refine Wp.fg ⟨[(0, .ext true (.sl 3 (p0.map Sent.enc))), (1, .t (.int .i64 (bAdd .i64 (bAdd .i64 x3 1) 1))), (4, .t (.int .i64 0)), (5, .t (.int .i64 x4))], [], []⟩ ?_
        refine Wp.srg [] [] ?_
        refine Runs.batch 3 kr ?_
        obtain ⟨y9, e_y9, h⟩ := bind_some h
        refine Runs.idxX (e := 137) (kk := .i64) (sz := 3) Sent.enc p0 x4 true rfl kr kr kr kr kr kr e_y9 ?_
        refine Runs.alln ?_
        refine Wp.fg ⟨[(0, .ext true (.sl 3 (p0.map Sent.enc))), (1, .t (.int .i64 (bAdd .i64 (bAdd .i64 x3 1) 1))), (4, .t (.int .i64 0)), (5, .t (.int .i64 x4))], [], []⟩ ?_
        refine Wp.rg [] [] ?_
        refine Runs.all kr ?_
        refine blkN ?_
        refine thenN ?_
        refine Wp.rg [] [] ?_
        refine Runs.alln ?_
        exact ⟨(p0, bAdd .i64 (bAdd .i64 (bAdd .i64 x3 1) 1) 1, bAdd .i64 x4 1), h, Le.of (mo := []) (mr := []) kr kr kr kr⟩
      have h := cond_f h hc
      refine Wp.exit ?_
      refine thenE ?_
      refine thenE ?_
      refine blkE ?_
      refine thenN ?_
      exact ⟨x3, h, Le.of (mo := []) (mr := []) kr kr kr kr⟩
theorem laws_markWorld__m_ok (u : Nat) (p0 : World) (p1 : Int) (r : Int) (h : laws_markWorld__m u p0 p1 = some r) : MOK Tryz.prog 26 [.agg [.ext true (.int .i64 p0.fC.fSize), .ext true (.int .i64 p0.fC.fWindow), .ext true (.int .i64 p0.fC.fSuspect), .ext true (.int .i64 p0.fC.fForget), .ext true (.sl 1 (p0.fT.fUp.map (eInt .i64))), .ext true (.sl 1 (p0.fNew.map (eInt .u8))), .ext true (.sl 1 (p0.fOld.map Image.enc)), .ext true (.sl 12 (p0.fN.map Node.enc)), .ext true (.sl 6 (p0.fD.map Disk.enc)), .ext true (.sl 3 (p0.fNet.map Packet.enc)), .ext true (.sl 3 (p0.fLog.map Sent.enc)), .ext true (.int .i64 p0.fLost)], .t (.int .i64 p1)] (.int .i64 r) := by
  unfold laws_markWorld__m at h
  refine MOK.of_bodyK (fn := Tryz.f26) kr rfl kr kr kr rfl ?_
  refine Wp.srg [] [] ?_
  refine Runs.alln ?_
  refine Wp.fg ⟨[(1, .t (.int .i64 p1)), (2, .obj 2 0), (4, .t (.int .i64 0))], [(2, [.ext true (.int .i64 p0.fC.fSize), .ext true (.int .i64 p0.fC.fWindow), .ext true (.int .i64 p0.fC.fSuspect), .ext true (.int .i64 p0.fC.fForget), .ext true (.sl 1 (p0.fT.fUp.map (eInt .i64))), .ext true (.sl 1 (p0.fNew.map (eInt .u8))), .ext true (.sl 1 (p0.fOld.map Image.enc)), .ext true (.sl 12 (p0.fN.map Node.enc)), .ext true (.sl 6 (p0.fD.map Disk.enc)), .ext true (.sl 3 (p0.fNet.map Packet.enc)), .ext true (.sl 3 (p0.fLog.map Sent.enc)), .ext true (.int .i64 p0.fLost)])], []⟩ ?_
  refine Wp.srg [] [] ?_
  refine Runs.batch 3 kr ?_
  obtain ⟨r1, e_r1, h⟩ := bind_some h
  refine Runs.callMK 76 [.agg [.ext true (.sl 1 (p0.fT.fUp.map (eInt .i64)))], .t (.int .i64 p1)] (.int .i64 r1) rfl kr kr kr kr kr kr (laws_markTree__m_ok u p0.fT p1 r1 e_r1) ?_
  refine Runs.alln ?_
  refine Wp.fg ⟨[(1, .t (.int .i64 r1)), (2, .obj 2 0), (4, .t (.int .i64 0))], [(2, [.ext true (.int .i64 p0.fC.fSize), .ext true (.int .i64 p0.fC.fWindow), .ext true (.int .i64 p0.fC.fSuspect), .ext true (.int .i64 p0.fC.fForget), .ext true (.sl 1 (p0.fT.fUp.map (eInt .i64))), .ext true (.sl 1 (p0.fNew.map (eInt .u8))), .ext true (.sl 1 (p0.fOld.map Image.enc)), .ext true (.sl 12 (p0.fN.map Node.enc)), .ext true (.sl 6 (p0.fD.map Disk.enc)), .ext true (.sl 3 (p0.fNet.map Packet.enc)), .ext true (.sl 3 (p0.fLog.map Sent.enc)), .ext true (.int .i64 p0.fLost)])], []⟩ ?_
  refine Wp.srg [] [] ?_
  refine Runs.batch 3 kr ?_
  obtain ⟨r2, e_r2, h⟩ := bind_some h
  refine Runs.callMK 77 [.ext true (.sl 1 (p0.fNew.map (eInt .u8))), .t (.int .i64 r1)] (.int .i64 r2) rfl kr kr kr kr kr kr (laws_markByteS__m_ok u p0.fNew r1 r2 e_r2) ?_
  refine Runs.alln ?_
  refine Wp.fg ⟨[(1, .t (.int .i64 r2)), (2, .obj 2 0), (4, .t (.int .i64 0))], [(2, [.ext true (.int .i64 p0.fC.fSize), .ext true (.int .i64 p0.fC.fWindow), .ext true (.int .i64 p0.fC.fSuspect), .ext true (.int .i64 p0.fC.fForget), .ext true (.sl 1 (p0.fT.fUp.map (eInt .i64))), .ext true (.sl 1 (p0.fNew.map (eInt .u8))), .ext true (.sl 1 (p0.fOld.map Image.enc)), .ext true (.sl 12 (p0.fN.map Node.enc)), .ext true (.sl 6 (p0.fD.map Disk.enc)), .ext true (.sl 3 (p0.fNet.map Packet.enc)), .ext true (.sl 3 (p0.fLog.map Sent.enc)), .ext true (.int .i64 p0.fLost)])], []⟩ ?_
  refine Wp.srg [] [] ?_
  refine Runs.batch 3 kr ?_
  obtain ⟨r3, e_r3, h⟩ := bind_some h
  refine Runs.callMK 78 [.ext true (.sl 1 (p0.fOld.map Image.enc)), .t (.int .i64 r2)] (.int .i64 r3) rfl kr kr kr kr kr kr (laws_markImageS__m_ok u p0.fOld r2 r3 e_r3) ?_
  refine Runs.alln ?_
  refine Wp.fg ⟨[(1, .t (.int .i64 r3)), (2, .obj 2 0), (4, .t (.int .i64 0))], [(2, [.ext true (.int .i64 p0.fC.fSize), .ext true (.int .i64 p0.fC.fWindow), .ext true (.int .i64 p0.fC.fSuspect), .ext true (.int .i64 p0.fC.fForget), .ext true (.sl 1 (p0.fT.fUp.map (eInt .i64))), .ext true (.sl 1 (p0.fNew.map (eInt .u8))), .ext true (.sl 1 (p0.fOld.map Image.enc)), .ext true (.sl 12 (p0.fN.map Node.enc)), .ext true (.sl 6 (p0.fD.map Disk.enc)), .ext true (.sl 3 (p0.fNet.map Packet.enc)), .ext true (.sl 3 (p0.fLog.map Sent.enc)), .ext true (.int .i64 p0.fLost)])], []⟩ ?_
  refine Wp.srg [] [] ?_
  refine Runs.batch 3 kr ?_
  obtain ⟨r4, e_r4, h⟩ := bind_some h
  refine Runs.callMK 79 [.ext true (.sl 12 (p0.fN.map Node.enc)), .t (.int .i64 r3)] (.int .i64 r4) rfl kr kr kr kr kr kr (laws_markNodeS__m_ok u p0.fN r3 r4 e_r4) ?_
  refine Runs.alln ?_
  refine Wp.fg ⟨[(1, .t (.int .i64 r4)), (2, .obj 2 0), (4, .t (.int .i64 0))], [(2, [.ext true (.int .i64 p0.fC.fSize), .ext true (.int .i64 p0.fC.fWindow), .ext true (.int .i64 p0.fC.fSuspect), .ext true (.int .i64 p0.fC.fForget), .ext true (.sl 1 (p0.fT.fUp.map (eInt .i64))), .ext true (.sl 1 (p0.fNew.map (eInt .u8))), .ext true (.sl 1 (p0.fOld.map Image.enc)), .ext true (.sl 12 (p0.fN.map Node.enc)), .ext true (.sl 6 (p0.fD.map Disk.enc)), .ext true (.sl 3 (p0.fNet.map Packet.enc)), .ext true (.sl 3 (p0.fLog.map Sent.enc)), .ext true (.int .i64 p0.fLost)])], []⟩ ?_
  refine Wp.srg [] [] ?_
  refine Runs.batch 3 kr ?_
  obtain ⟨r5, e_r5, h⟩ := bind_some h
  refine Runs.callMK 80 [.ext true (.sl 6 (p0.fD.map Disk.enc)), .t (.int .i64 r4)] (.int .i64 r5) rfl kr kr kr kr kr kr (laws_markDiskS__m_ok u p0.fD r4 r5 e_r5) ?_
  refine Runs.alln ?_
  refine Wp.fg ⟨[(1, .t (.int .i64 r5)), (2, .obj 2 0), (4, .t (.int .i64 0))], [(2, [.ext true (.int .i64 p0.fC.fSize), .ext true (.int .i64 p0.fC.fWindow), .ext true (.int .i64 p0.fC.fSuspect), .ext true (.int .i64 p0.fC.fForget), .ext true (.sl 1 (p0.fT.fUp.map (eInt .i64))), .ext true (.sl 1 (p0.fNew.map (eInt .u8))), .ext true (.sl 1 (p0.fOld.map Image.enc)), .ext true (.sl 12 (p0.fN.map Node.enc)), .ext true (.sl 6 (p0.fD.map Disk.enc)), .ext true (.sl 3 (p0.fNet.map Packet.enc)), .ext true (.sl 3 (p0.fLog.map Sent.enc)), .ext true (.int .i64 p0.fLost)])], []⟩ ?_
  refine Wp.srg [] [] ?_
  refine Runs.batch 3 kr ?_
  obtain ⟨r6, e_r6, h⟩ := bind_some h
  refine Runs.callMK 81 [.ext true (.sl 3 (p0.fNet.map Packet.enc)), .t (.int .i64 r5)] (.int .i64 r6) rfl kr kr kr kr kr kr (laws_markPacketS__m_ok u p0.fNet r5 r6 e_r6) ?_
  refine Runs.alln ?_
  refine Wp.fg ⟨[(1, .t (.int .i64 r6)), (2, .obj 2 0), (4, .t (.int .i64 0))], [(2, [.ext true (.int .i64 p0.fC.fSize), .ext true (.int .i64 p0.fC.fWindow), .ext true (.int .i64 p0.fC.fSuspect), .ext true (.int .i64 p0.fC.fForget), .ext true (.sl 1 (p0.fT.fUp.map (eInt .i64))), .ext true (.sl 1 (p0.fNew.map (eInt .u8))), .ext true (.sl 1 (p0.fOld.map Image.enc)), .ext true (.sl 12 (p0.fN.map Node.enc)), .ext true (.sl 6 (p0.fD.map Disk.enc)), .ext true (.sl 3 (p0.fNet.map Packet.enc)), .ext true (.sl 3 (p0.fLog.map Sent.enc)), .ext true (.int .i64 p0.fLost)])], []⟩ ?_
  refine Wp.srg [] [] ?_
  refine Runs.batch 3 kr ?_
  obtain ⟨r7, e_r7, h⟩ := bind_some h
  refine Runs.callMK 82 [.ext true (.sl 3 (p0.fLog.map Sent.enc)), .t (.int .i64 r6)] (.int .i64 r7) rfl kr kr kr kr kr kr (laws_markSentS__m_ok u p0.fLog r6 r7 e_r7) ?_
  refine Runs.alln ?_
  refine Wp.fg ⟨[(1, .t (.int .i64 r7)), (4, .t (.int .i64 0))], [], []⟩ ?_
  refine Wp.srg [] [] ?_
  refine Runs.alln ?_
  refine Wp.fg ⟨[(4, .t (.int .i64 r7))], [], []⟩ ?_
  refine Wp.ret ?_
  obtain rfl := Option.some.inj h
  exact MRetK [.t (.int .i64 r7)] kr kr
theorem laws_markIntS__r_ok (u : Nat) (p0 : List Int) (p1 : Int) (r : Int × (List Int)) (h : laws_markIntS__r u p0 p1 = some r) : ROK Tryz.prog 27 3 1 (p0.map (eInt .i64)) [.one (.t (.int .i64 p1))] (.int .i64 r.1) (r.2.map (eInt .i64)) := by
  unfold laws_markIntS__r at h
  refine ROK.of_bodyK (fn := Tryz.f27) (ts := [.int .i64 p1]) kr rfl kr kr kr rfl kr (sc_ints _ _) ?_
  refine Wp.srg [] [] ?_
  refine Runs.alln ?_
  refine Wp.fg ⟨[(0, .own 58982400), (1, .t (.int .i64 p1)), (4, .t (.int .i64 0))], [], [(58982400, .live 3 1 (p0.map (eInt .i64)))]⟩ ?_
  refine Wp.seqJ (α := (List Int) × Int) (fun a => ⟨[(0, .own 58982400), (1, .t (.int .i64 a.2)), (4, .t (.int .i64 0))], [], [(58982400, .live 3 1 (a.1.map (eInt .i64)))]⟩) (fun a => laws_markIntS__r_j1 u a.1 a.2 = some r) ?_ ?_
  · rintro ⟨x11, x12⟩ h
    change laws_markIntS__r_j1 u x11 x12 = some r at h
    unfold laws_markIntS__r_j1 at h
    refine Wp.srg [] [] ?_
    refine Runs.alln ?_
    refine Wp.fg ⟨[(0, .own 58982400), (4, .t (.int .i64 x12))], [], [(58982400, .live 3 1 (x11.map (eInt .i64)))]⟩ ?_
    refine Wp.ret ?_
    obtain rfl := Option.some.inj h
    exact RRetK [.t (.int .i64 x12)] kr kr kr
  · refine Wp.srg [] [] ?_
    refine Runs.alln ?_
    refine Wp.fg ⟨[(0, .own 58982400), (1, .t (.int .i64 p1)), (4, .t (.int .i64 0)), (5, .t (.int .i64 0))], [], [(58982400, .live 3 1 (p0.map (eInt .i64)))]⟩ ?_
    refine Wp.block ?_
    refine Wp.loopF (α := (List Int) × Int × Int) (fun a => ⟨[(0, .own 58982400), (1, .t (.int .i64 a.2.1)), (4, .t (.int .i64 0)), (5, .t (.int .i64 a.2.2))], [], [(58982400, .live 3 1 (a.1.map (eInt .i64)))]⟩) (fun k_laws_markIntS__r_l2 a => laws_markIntS__r_l2 u k_laws_markIntS__r_l2 a.1 a.2.1 a.2.2 = some r) ?_ ?_ u (p0, p1, 0) h (Le.of (mo := []) (mr := []) kr kr kr kr)
    · intro a h; unfold laws_markIntS__r_l2 at h; cases h
    · rintro k_laws_markIntS__r_l2 ⟨x4, x5, x6⟩ h
      change laws_markIntS__r_l2 u (k_laws_markIntS__r_l2 + 1) x4 x5 x6 = some r at h
      rw [laws_markIntS__r_l2] at h
      refine Wp.seq ?_
      refine Wp.srg [] [] ?_
      refine Runs.batch 2 kr ?_
      refine Runs.lenT (y := .own 58982400) (e := 3) (eInt .i64) x4 1 rfl rfl rfl kr kr kr kr kr ?_
      refine Runs.alln ?_
      refine Wp.fg ⟨[(0, .own 58982400), (1, .t (.int .i64 x5)), (4, .t (.int .i64 0)), (5, .t (.int .i64 x6)), (9, .t (.bool (decide (x6 < ((x4.length : Int))))))], [], [(58982400, .live 3 1 (x4.map (eInt .i64)))]⟩ ?_
      refine Wp.cond2 (b := decide (x6 < ((x4.length : Int)))) kr (fun hc => ?_) (fun hc => ?_)
      · have h := cond_t h hc
        refine Wp.skip (thenN ?_)
        refine Wp.seq ?_
        refine Wp.block ?_
        refine Wp.srg [] [] ?_
        refine Runs.batch 3 kr ?_
        obtain ⟨y10, e_y10, h⟩ := bind_some h
        refine Runs.idxO (e := 3) (e' := 3) (kk := .i64) (sz := 1) (eInt .i64) x4 x6 58982400 rfl kr kr kr kr kr kr kr e_y10 ?_
        refine Runs.storeT (e := 3) (sz := 1) (m := 1) (eInt .i64) x4 58982400 (Int.toNat x6) 0 x5 (.t (.int .i64 x5)) [.int .i64 x5] rfl kr kr kr kr kr kr kr kr (idx_some e_y10).2 kr kr ?_
        refine Runs.done ?_
        refine thenN ?_
        refine Wp.fg ⟨[(0, .own 58982400), (1, .t (.int .i64 x5)), (4, .t (.int .i64 0)), (5, .t (.int .i64 x6))], [], [(58982400, .live 3 1 ((x4.set (Int.toNat x6) x5).map (eInt .i64)))]⟩ ?_
        refine Wp.rg [] [] ?_
        refine Runs.all kr ?_
        refine blkN ?_
        refine thenN ?_
        refine Wp.rg [] [] ?_
        refine Runs.alln ?_
        exact ⟨(x4.set (Int.toNat x6) x5, bAdd .i64 x5 1, bAdd .i64 x6 1), h, Le.of (mo := []) (mr := []) kr kr kr kr⟩
      have h := cond_f h hc
      refine Wp.exit ?_
      refine thenE ?_
      refine thenE ?_
      refine blkE ?_
      refine thenN ?_
      exact ⟨(x4, x5), h, Le.of (mo := []) (mr := []) kr kr kr kr⟩
theorem laws_heldIntS_ok (u : Nat) (p0 : List Int) (p1 : Int) (r : Int) (h : laws_heldIntS u p0 p1 = some r) : CallOK Tryz.prog 28 [.one (.t (.sl 1 (p0.map (eInt .i64)))), .one (.t (.int .i64 p1))] (.one (.t (.int .i64 r))) [] := by
  unfold laws_heldIntS at h
  refine CallOK.of_bodyK (fn := Tryz.f28) (m := false) [.t (.sl 1 (p0.map (eInt .i64))), .t (.int .i64 p1)] kr rfl kr kr kr kr kr ?_
  refine Wp.srg [] [] ?_
  refine Runs.alln ?_
  refine Wp.fg ⟨[(0, .t (.sl 1 (p0.map (eInt .i64)))), (1, .t (.int .i64 p1)), (4, .t (.int .i64 0))], [], []⟩ ?_
  refine Wp.seqJ (α := Int) (fun a => ⟨[(1, .t (.int .i64 a)), (4, .t (.int .i64 0))], [], []⟩) (fun a => laws_heldIntS_j1 u a = some r) ?_ ?_
  · rintro x8 h
    change laws_heldIntS_j1 u x8 = some r at h
    unfold laws_heldIntS_j1 at h
    refine Wp.srg [] [] ?_
    refine Runs.alln ?_
    refine Wp.fg ⟨[(4, .t (.int .i64 x8))], [], []⟩ ?_
    refine Wp.ret ?_
    obtain rfl := Option.some.inj h
    exact RetK [.t (.int .i64 x8)] _ [] kr kr (.refl _) .nil
  · refine Wp.srg [] [] ?_
    refine Runs.alln ?_
    refine Wp.fg ⟨[(0, .t (.sl 1 (p0.map (eInt .i64)))), (1, .t (.int .i64 p1)), (4, .t (.int .i64 0)), (5, .t (.int .i64 0))], [], []⟩ ?_
    refine Wp.block ?_
    refine Wp.loopF (α := (List Int) × Int × Int) (fun a => ⟨[(0, .t (.sl 1 (a.1.map (eInt .i64)))), (1, .t (.int .i64 a.2.1)), (4, .t (.int .i64 0)), (5, .t (.int .i64 a.2.2))], [], []⟩) (fun k_laws_heldIntS_l2 a => laws_heldIntS_l2 u k_laws_heldIntS_l2 a.1 a.2.1 a.2.2 = some r) ?_ ?_ u (p0, p1, 0) h (Le.of (mo := []) (mr := []) kr kr kr kr)
    · intro a h; unfold laws_heldIntS_l2 at h; cases h
    · rintro k_laws_heldIntS_l2 ⟨p0, x3, x4⟩ h
      change laws_heldIntS_l2 u (k_laws_heldIntS_l2 + 1) p0 x3 x4 = some r at h
      rw [laws_heldIntS_l2] at h
      refine Wp.seq ?_
      refine Wp.srg [] [] ?_
      refine Runs.batch 2 kr ?_
      refine Runs.lenT (y := .t (.sl 1 (p0.map (eInt .i64)))) (e := 3) (eInt .i64) p0 1 rfl rfl rfl kr kr kr kr kr ?_
      refine Runs.alln ?_
      refine Wp.fg ⟨[(0, .t (.sl 1 (p0.map (eInt .i64)))), (1, .t (.int .i64 x3)), (4, .t (.int .i64 0)), (5, .t (.int .i64 x4)), (9, .t (.bool (decide (x4 < ((p0.length : Int))))))], [], []⟩ ?_
      refine Wp.cond2 (b := decide (x4 < ((p0.length : Int)))) kr (fun hc => ?_) (fun hc => ?_)
      · have h := cond_t h hc
        refine Wp.skip (thenN ?_)
        refine Wp.seq ?_
        refine Wp.block ?_
        refine Wp.seq ?_
        refine Wp.srg [] [] ?_
        refine Runs.batch 2 kr ?_
        obtain ⟨y7, e_y7, h⟩ := bind_some h
        refine Runs.idxT (e := 3) (kk := .i64) (sz := 1) (eInt .i64) p0 x4 rfl kr kr kr kr kr kr e_y7 ?_
        refine Runs.alln ?_
        refine Wp.fg ⟨[(0, .t (.sl 1 (p0.map (eInt .i64)))), (1, .t (.int .i64 x3)), (4, .t (.int .i64 0)), (5, .t (.int .i64 x4)), (17, .t (.bool (y7 != x3)))], [], []⟩ ?_
        refine Wp.cond2 (b := y7 != x3) kr (fun hc => ?_) (fun hc => ?_)
        · have h := cond_t h hc
          refine Wp.srg [] [] ?_
          refine Runs.alln ?_
          refine Wp.fg ⟨[(0, .t (.sl 1 (p0.map (eInt .i64)))), (1, .t (.int .i64 x3)), (4, .t (.int .i64 (-1))), (5, .t (.int .i64 x4))], [], []⟩ ?_
          refine Wp.ret ?_
          refine thenR ?_
          refine blkR ?_
          refine thenR ?_
          refine thenR ?_
          refine blkR ?_
          refine thenR ?_
          obtain rfl := Option.some.inj h
          exact RetK [.t (.int .i64 (-1))] _ [] kr kr (.refl _) .nil
        have h := cond_f h hc
        refine Wp.skip (thenN ?_)
        refine Wp.rg [] [] ?_
        refine Runs.all kr ?_
        refine blkN ?_
        refine thenN ?_
        refine Wp.rg [] [] ?_
        refine Runs.alln ?_
        exact ⟨(p0, bAdd .i64 x3 1, bAdd .i64 x4 1), h, Le.of (mo := []) (mr := []) kr kr kr kr⟩
      have h := cond_f h hc
      refine Wp.exit ?_
      refine thenE ?_
      refine thenE ?_
      refine blkE ?_
      refine thenN ?_
      exact ⟨x3, h, Le.of (mo := []) (mr := []) kr kr kr kr⟩
theorem laws_FnExactLateIn_okd (u : Nat) (p0 : World) (r : Bool) (h : laws_FnExactLateIn u p0 = some r) : DOK Tryz.prog 10 [.agg [.t (.int .i64 p0.fC.fSize), .t (.int .i64 p0.fC.fWindow), .t (.int .i64 p0.fC.fSuspect), .t (.int .i64 p0.fC.fForget), .t (.sl 1 (p0.fT.fUp.map (eInt .i64))), .t (.sl 1 (p0.fNew.map (eInt .u8))), .t (.sl 1 (p0.fOld.map Image.enc)), .t (.sl 12 (p0.fN.map Node.enc)), .t (.sl 6 (p0.fD.map Disk.enc)), .t (.sl 3 (p0.fNet.map Packet.enc)), .t (.sl 3 (p0.fLog.map Sent.enc)), .t (.int .i64 p0.fLost)]] (.one (.t (.bool r))) := by
  unfold laws_FnExactLateIn at h
  refine DOK.of_bodyK (fn := Tryz.f10) (m := false) kr rfl kr kr kr ?_
  refine Wp.srg [] [] ?_
  refine Runs.alln ?_
  refine Wp.fg ⟨[(1, .obj 1 0), (2, .t (.bool false))], [(1, [.t (.int .i64 p0.fC.fSize), .t (.int .i64 p0.fC.fWindow), .t (.int .i64 p0.fC.fSuspect), .t (.int .i64 p0.fC.fForget), .ext false (.sl 1 (p0.fT.fUp.map (eInt .i64))), .ext false (.sl 1 (p0.fNew.map (eInt .u8))), .ext false (.sl 1 (p0.fOld.map Image.enc)), .ext false (.sl 12 (p0.fN.map Node.enc)), .ext false (.sl 6 (p0.fD.map Disk.enc)), .ext false (.sl 3 (p0.fNet.map Packet.enc)), .ext false (.sl 3 (p0.fLog.map Sent.enc)), .t (.int .i64 p0.fLost)])], []⟩ ?_
  refine Wp.srg [] [] ?_
  refine Runs.alln ?_
  refine Wp.fg ⟨[(1, .obj 1 0), (2, .t (.bool false)), (3, .t (.int .i64 1048576))], [(1, [.t (.int .i64 p0.fC.fSize), .t (.int .i64 p0.fC.fWindow), .t (.int .i64 p0.fC.fSuspect), .t (.int .i64 p0.fC.fForget), .ext false (.sl 1 (p0.fT.fUp.map (eInt .i64))), .ext false (.sl 1 (p0.fNew.map (eInt .u8))), .ext false (.sl 1 (p0.fOld.map Image.enc)), .ext false (.sl 12 (p0.fN.map Node.enc)), .ext false (.sl 6 (p0.fD.map Disk.enc)), .ext false (.sl 3 (p0.fNet.map Packet.enc)), .ext false (.sl 3 (p0.fLog.map Sent.enc)), .t (.int .i64 p0.fLost)])], []⟩ ?_
  refine Wp.srg [] [] ?_
  refine Runs.batch 2 kr ?_
  obtain ⟨r1, e_r1, h⟩ := bind_some h
  refine Runs.callBK 13 12 [] [.agg [.t (.int .i64 p0.fC.fSize), .t (.int .i64 p0.fC.fWindow), .t (.int .i64 p0.fC.fSuspect), .t (.int .i64 p0.fC.fForget), .ext false (.sl 1 (p0.fT.fUp.map (eInt .i64))), .ext false (.sl 1 (p0.fNew.map (eInt .u8))), .ext false (.sl 1 (p0.fOld.map Image.enc)), .ext false (.sl 12 (p0.fN.map Node.enc)), .ext false (.sl 6 (p0.fD.map Disk.enc)), .ext false (.sl 3 (p0.fNet.map Packet.enc)), .ext false (.sl 3 (p0.fLog.map Sent.enc)), .t (.int .i64 p0.fLost)], .t (.int .i64 1048576)] [.agg ((World.enc p0).map .t), .one (.t (.int .i64 1048576))] (.one (.t (.int .i64 r1))) rfl rfl kr kr kr kr kr (laws_szWorld_ok u p0 1048576 r1 e_r1) (by simp [V.plain, V.plains, C.plain, T.sc]) kr ?_
  refine Runs.alln ?_
  refine Wp.fg ⟨[(1, .obj 1 0), (2, .t (.bool false)), (3, .t (.int .i64 r1))], [(1, [.t (.int .i64 p0.fC.fSize), .t (.int .i64 p0.fC.fWindow), .t (.int .i64 p0.fC.fSuspect), .t (.int .i64 p0.fC.fForget), .ext false (.sl 1 (p0.fT.fUp.map (eInt .i64))), .ext false (.sl 1 (p0.fNew.map (eInt .u8))), .ext false (.sl 1 (p0.fOld.map Image.enc)), .ext false (.sl 12 (p0.fN.map Node.enc)), .ext false (.sl 6 (p0.fD.map Disk.enc)), .ext false (.sl 3 (p0.fNet.map Packet.enc)), .ext false (.sl 3 (p0.fLog.map Sent.enc)), .t (.int .i64 p0.fLost)])], []⟩ ?_
  refine Wp.seq ?_
  refine Wp.srg [] [] ?_
  refine Runs.alln ?_
  refine Wp.fg ⟨[(1, .obj 1 0), (2, .t (.bool false)), (15, .t (.bool (decide (r1 < 0))))], [(1, [.t (.int .i64 p0.fC.fSize), .t (.int .i64 p0.fC.fWindow), .t (.int .i64 p0.fC.fSuspect), .t (.int .i64 p0.fC.fForget), .ext false (.sl 1 (p0.fT.fUp.map (eInt .i64))), .ext false (.sl 1 (p0.fNew.map (eInt .u8))), .ext false (.sl 1 (p0.fOld.map Image.enc)), .ext false (.sl 12 (p0.fN.map Node.enc)), .ext false (.sl 6 (p0.fD.map Disk.enc)), .ext false (.sl 3 (p0.fNet.map Packet.enc)), .ext false (.sl 3 (p0.fLog.map Sent.enc)), .t (.int .i64 p0.fLost)])], []⟩ ?_
  refine Wp.cond2 (b := decide (r1 < 0)) kr (fun hc => ?_) (fun hc => ?_)
  · have h := cond_t h hc
    refine Wp.srg [] [] ?_
    refine Runs.alln ?_
    refine Wp.fg ⟨[(1, .obj 1 0), (2, .t (.bool true))], [(1, [.t (.int .i64 p0.fC.fSize), .t (.int .i64 p0.fC.fWindow), .t (.int .i64 p0.fC.fSuspect), .t (.int .i64 p0.fC.fForget), .ext false (.sl 1 (p0.fT.fUp.map (eInt .i64))), .ext false (.sl 1 (p0.fNew.map (eInt .u8))), .ext false (.sl 1 (p0.fOld.map Image.enc)), .ext false (.sl 12 (p0.fN.map Node.enc)), .ext false (.sl 6 (p0.fD.map Disk.enc)), .ext false (.sl 3 (p0.fNet.map Packet.enc)), .ext false (.sl 3 (p0.fLog.map Sent.enc)), .t (.int .i64 p0.fLost)])], []⟩ ?_
    refine Wp.ret ?_
    refine thenR ?_
    obtain rfl := Option.some.inj h
    exact RetK [.t (.bool true)] _ [] kr kr (.refl _) .nil
  have h := cond_f h hc
  refine Wp.skip (thenN ?_)
  refine Wp.srg [] [] ?_
  refine Runs.batch 1 kr ?_
  obtain ⟨r2, e_r2, h⟩ := bind_some h
  refine Runs.callDK 17 14 [] [.agg [.t (.int .i64 p0.fC.fSize), .t (.int .i64 p0.fC.fWindow), .t (.int .i64 p0.fC.fSuspect), .t (.int .i64 p0.fC.fForget), .ext false (.sl 1 (p0.fT.fUp.map (eInt .i64))), .ext false (.sl 1 (p0.fNew.map (eInt .u8))), .ext false (.sl 1 (p0.fOld.map Image.enc)), .ext false (.sl 12 (p0.fN.map Node.enc)), .ext false (.sl 6 (p0.fD.map Disk.enc)), .ext false (.sl 3 (p0.fNet.map Packet.enc)), .ext false (.sl 3 (p0.fLog.map Sent.enc)), .t (.int .i64 p0.fLost)]] [.agg ((World.enc p0).map .t)] (.agg [.t (.int .i64 r2.fC.fSize), .t (.int .i64 r2.fC.fWindow), .t (.int .i64 r2.fC.fSuspect), .t (.int .i64 r2.fC.fForget), .ow 3 1 (r2.fT.fUp.map (eInt .i64)), .ow 5 1 (r2.fNew.map (eInt .u8)), .ow 89 1 (r2.fOld.map Image.enc), .ow 97 12 (r2.fN.map Node.enc), .ow 87 6 (r2.fD.map Disk.enc), .ow 134 3 (r2.fNet.map Packet.enc), .ow 137 3 (r2.fLog.map Sent.enc), .t (.int .i64 r2.fLost)]) rfl rfl kr kr kr kr kr (laws_toWorld_okd u p0 r2 e_r2) kr ?_
  obtain ⟨r3, e_r3, h⟩ := bind_some h
  refine Runs.callK false 18 33 [] [.agg [.t (.int .i64 r2.fC.fSize), .t (.int .i64 r2.fC.fWindow), .t (.int .i64 r2.fC.fSuspect), .t (.int .i64 r2.fC.fForget), .own 1114116, .own 1114117, .own 1114118, .own 1114119, .own 1114120, .own 1114121, .own 1114122, .t (.int .i64 r2.fLost)]] _ _ _ rfl rfl kr kr kr kr kr (spec_LateIn_ok u r2 r3 e_r3) kr ?_
  refine Runs.alln ?_
  refine Wp.fg ⟨[(1, .obj 1 0), (2, .t (.bool false)), (4, .own 1179648)], [(1, [.t (.int .i64 p0.fC.fSize), .t (.int .i64 p0.fC.fWindow), .t (.int .i64 p0.fC.fSuspect), .t (.int .i64 p0.fC.fForget), .ext false (.sl 1 (p0.fT.fUp.map (eInt .i64))), .ext false (.sl 1 (p0.fNew.map (eInt .u8))), .ext false (.sl 1 (p0.fOld.map Image.enc)), .ext false (.sl 12 (p0.fN.map Node.enc)), .ext false (.sl 6 (p0.fD.map Disk.enc)), .ext false (.sl 3 (p0.fNet.map Packet.enc)), .ext false (.sl 3 (p0.fLog.map Sent.enc)), .t (.int .i64 p0.fLost)])], [(1179648, .live 3 1 (r3.map (eInt .i64)))]⟩ ?_
  refine Wp.srg [] [] ?_
  refine Runs.batch 1 kr ?_
  obtain ⟨r4, e_r4, h⟩ := bind_some h
  refine Runs.callDK 20 14 [] [.agg [.t (.int .i64 p0.fC.fSize), .t (.int .i64 p0.fC.fWindow), .t (.int .i64 p0.fC.fSuspect), .t (.int .i64 p0.fC.fForget), .ext false (.sl 1 (p0.fT.fUp.map (eInt .i64))), .ext false (.sl 1 (p0.fNew.map (eInt .u8))), .ext false (.sl 1 (p0.fOld.map Image.enc)), .ext false (.sl 12 (p0.fN.map Node.enc)), .ext false (.sl 6 (p0.fD.map Disk.enc)), .ext false (.sl 3 (p0.fNet.map Packet.enc)), .ext false (.sl 3 (p0.fLog.map Sent.enc)), .t (.int .i64 p0.fLost)]] [.agg ((World.enc p0).map .t)] (.agg [.t (.int .i64 r4.fC.fSize), .t (.int .i64 r4.fC.fWindow), .t (.int .i64 r4.fC.fSuspect), .t (.int .i64 r4.fC.fForget), .ow 3 1 (r4.fT.fUp.map (eInt .i64)), .ow 5 1 (r4.fNew.map (eInt .u8)), .ow 89 1 (r4.fOld.map Image.enc), .ow 97 12 (r4.fN.map Node.enc), .ow 87 6 (r4.fD.map Disk.enc), .ow 134 3 (r4.fNet.map Packet.enc), .ow 137 3 (r4.fLog.map Sent.enc), .t (.int .i64 r4.fLost)]) rfl rfl kr kr kr kr kr (laws_toWorld_okd u p0 r4 e_r4) kr ?_
  refine Runs.alln ?_
  refine Wp.fg ⟨[(1, .obj 1 0), (2, .t (.bool false)), (4, .own 1179648), (5, .obj 5 0)], [(1, [.t (.int .i64 p0.fC.fSize), .t (.int .i64 p0.fC.fWindow), .t (.int .i64 p0.fC.fSuspect), .t (.int .i64 p0.fC.fForget), .ext false (.sl 1 (p0.fT.fUp.map (eInt .i64))), .ext false (.sl 1 (p0.fNew.map (eInt .u8))), .ext false (.sl 1 (p0.fOld.map Image.enc)), .ext false (.sl 12 (p0.fN.map Node.enc)), .ext false (.sl 6 (p0.fD.map Disk.enc)), .ext false (.sl 3 (p0.fNet.map Packet.enc)), .ext false (.sl 3 (p0.fLog.map Sent.enc)), .t (.int .i64 p0.fLost)]), (5, [.t (.int .i64 r4.fC.fSize), .t (.int .i64 r4.fC.fWindow), .t (.int .i64 r4.fC.fSuspect), .t (.int .i64 r4.fC.fForget), .own 1310724, .own 1310725, .own 1310726, .own 1310727, .own 1310728, .own 1310729, .own 1310730, .t (.int .i64 r4.fLost)])], [(1179648, .live 3 1 (r3.map (eInt .i64))), (1310724, .live 3 1 (r4.fT.fUp.map (eInt .i64))), (1310725, .live 5 1 (r4.fNew.map (eInt .u8))), (1310726, .live 89 1 (r4.fOld.map Image.enc)), (1310727, .live 97 12 (r4.fN.map Node.enc)), (1310728, .live 87 6 (r4.fD.map Disk.enc)), (1310729, .live 134 3 (r4.fNet.map Packet.enc)), (1310730, .live 137 3 (r4.fLog.map Sent.enc))]⟩ ?_
  refine Wp.srg [] [] ?_
  refine Runs.batch 1 kr ?_
  obtain ⟨r5, e_r5, h⟩ := bind_some h
  refine Runs.callK false 22 34 [] [.agg [.t (.int .i64 r4.fC.fSize), .t (.int .i64 r4.fC.fWindow), .t (.int .i64 r4.fC.fSuspect), .t (.int .i64 r4.fC.fForget), .own 1310724, .own 1310725, .own 1310726, .own 1310727, .own 1310728, .own 1310729, .own 1310730, .t (.int .i64 r4.fLost)]] _ _ _ rfl rfl kr kr kr kr kr (impl_LateIn_ok u r4 r5 e_r5) kr ?_
  refine Runs.alln ?_
  refine Wp.fg ⟨[(1, .obj 1 0), (2, .t (.bool false)), (4, .own 1179648), (5, .obj 5 0), (6, .own 1441792)], [(1, [.t (.int .i64 p0.fC.fSize), .t (.int .i64 p0.fC.fWindow), .t (.int .i64 p0.fC.fSuspect), .t (.int .i64 p0.fC.fForget), .ext false (.sl 1 (p0.fT.fUp.map (eInt .i64))), .ext false (.sl 1 (p0.fNew.map (eInt .u8))), .ext false (.sl 1 (p0.fOld.map Image.enc)), .ext false (.sl 12 (p0.fN.map Node.enc)), .ext false (.sl 6 (p0.fD.map Disk.enc)), .ext false (.sl 3 (p0.fNet.map Packet.enc)), .ext false (.sl 3 (p0.fLog.map Sent.enc)), .t (.int .i64 p0.fLost)]), (5, [.t (.int .i64 r4.fC.fSize), .t (.int .i64 r4.fC.fWindow), .t (.int .i64 r4.fC.fSuspect), .t (.int .i64 r4.fC.fForget), .own 1310724, .own 1310725, .own 1310726, .own 1310727, .own 1310728, .own 1310729, .own 1310730, .t (.int .i64 r4.fLost)])], [(1179648, .live 3 1 (r3.map (eInt .i64))), (1310724, .frz 1 (r4.fT.fUp.map (eInt .i64))), (1310725, .frz 1 (r4.fNew.map (eInt .u8))), (1310726, .frz 1 (r4.fOld.map Image.enc)), (1310727, .frz 12 (r4.fN.map Node.enc)), (1310728, .frz 6 (r4.fD.map Disk.enc)), (1310729, .frz 3 (r4.fNet.map Packet.enc)), (1310730, .frz 3 (r4.fLog.map Sent.enc)), (1441792, .live 3 1 (r5.map (eInt .i64)))]⟩ ?_
  refine Wp.seq ?_
  refine Wp.srg [] [] ?_
  refine Runs.batch 2 kr ?_
  obtain ⟨r6, e_r6, h⟩ := bind_some h
  refine Runs.callBK 25 25 [] [.own 1441792, .own 1179648] [.one (.t (.sl 1 (r5.map (eInt .i64)))), .one (.t (.sl 1 (r3.map (eInt .i64))))] (.one (.t (.bool r6))) rfl rfl kr kr kr kr kr (laws_eqIntS_ok u r5 r3 r6 e_r6) (by simp [V.plain, V.plains, C.plain, T.sc]) kr ?_
  refine Runs.alln ?_
  refine Wp.fg ⟨[(1, .obj 1 0), (2, .t (.bool false)), (4, .own 1179648), (5, .obj 5 0), (6, .own 1441792), (26, .t (.bool (!r6)))], [(1, [.t (.int .i64 p0.fC.fSize), .t (.int .i64 p0.fC.fWindow), .t (.int .i64 p0.fC.fSuspect), .t (.int .i64 p0.fC.fForget), .ext false (.sl 1 (p0.fT.fUp.map (eInt .i64))), .ext false (.sl 1 (p0.fNew.map (eInt .u8))), .ext false (.sl 1 (p0.fOld.map Image.enc)), .ext false (.sl 12 (p0.fN.map Node.enc)), .ext false (.sl 6 (p0.fD.map Disk.enc)), .ext false (.sl 3 (p0.fNet.map Packet.enc)), .ext false (.sl 3 (p0.fLog.map Sent.enc)), .t (.int .i64 p0.fLost)]), (5, [.t (.int .i64 r4.fC.fSize), .t (.int .i64 r4.fC.fWindow), .t (.int .i64 r4.fC.fSuspect), .t (.int .i64 r4.fC.fForget), .own 1310724, .own 1310725, .own 1310726, .own 1310727, .own 1310728, .own 1310729, .own 1310730, .t (.int .i64 r4.fLost)])], [(1179648, .live 3 1 (r3.map (eInt .i64))), (1310724, .frz 1 (r4.fT.fUp.map (eInt .i64))), (1310725, .frz 1 (r4.fNew.map (eInt .u8))), (1310726, .frz 1 (r4.fOld.map Image.enc)), (1310727, .frz 12 (r4.fN.map Node.enc)), (1310728, .frz 6 (r4.fD.map Disk.enc)), (1310729, .frz 3 (r4.fNet.map Packet.enc)), (1310730, .frz 3 (r4.fLog.map Sent.enc)), (1441792, .live 3 1 (r5.map (eInt .i64)))]⟩ ?_
  refine Wp.cond2 (b := !r6) kr (fun hc => ?_) (fun hc => ?_)
  · have h := cond_t h hc
    refine Wp.srg [] [] ?_
    refine Runs.alln ?_
    refine Wp.fg ⟨[(1, .obj 1 0), (2, .t (.bool false)), (4, .own 1179648), (5, .obj 5 0), (6, .own 1441792)], [(1, [.t (.int .i64 p0.fC.fSize), .t (.int .i64 p0.fC.fWindow), .t (.int .i64 p0.fC.fSuspect), .t (.int .i64 p0.fC.fForget), .ext false (.sl 1 (p0.fT.fUp.map (eInt .i64))), .ext false (.sl 1 (p0.fNew.map (eInt .u8))), .ext false (.sl 1 (p0.fOld.map Image.enc)), .ext false (.sl 12 (p0.fN.map Node.enc)), .ext false (.sl 6 (p0.fD.map Disk.enc)), .ext false (.sl 3 (p0.fNet.map Packet.enc)), .ext false (.sl 3 (p0.fLog.map Sent.enc)), .t (.int .i64 p0.fLost)]), (5, [.t (.int .i64 r4.fC.fSize), .t (.int .i64 r4.fC.fWindow), .t (.int .i64 r4.fC.fSuspect), .t (.int .i64 r4.fC.fForget), .own 1310724, .own 1310725, .own 1310726, .own 1310727, .own 1310728, .own 1310729, .own 1310730, .t (.int .i64 r4.fLost)])], [(1179648, .live 3 1 (r3.map (eInt .i64))), (1310724, .frz 1 (r4.fT.fUp.map (eInt .i64))), (1310725, .frz 1 (r4.fNew.map (eInt .u8))), (1310726, .frz 1 (r4.fOld.map Image.enc)), (1310727, .frz 12 (r4.fN.map Node.enc)), (1310728, .frz 6 (r4.fD.map Disk.enc)), (1310729, .frz 3 (r4.fNet.map Packet.enc)), (1310730, .frz 3 (r4.fLog.map Sent.enc)), (1441792, .live 3 1 (r5.map (eInt .i64)))]⟩ ?_
    refine Wp.ret ?_
    refine thenR ?_
    obtain rfl := Option.some.inj h
    exact RetK [.t (.bool false)] _ [] kr kr (.refl _) .nil
  have h := cond_f h hc
  refine Wp.skip (thenN ?_)
  refine Wp.seq ?_
  refine Wp.seq ?_
  refine Wp.regionA (pOf []) (rhoOf [(1, .obj 1), (5, .obj 5), (28, .frz), (30, .frz)]) kr kr ?_
  refine Runs.batch 2 kr ?_
  obtain ⟨r7, e_r7, h⟩ := bind_some h
  refine Runs.callDK 29 14 [] [.agg [.t (.int .i64 p0.fC.fSize), .t (.int .i64 p0.fC.fWindow), .t (.int .i64 p0.fC.fSuspect), .t (.int .i64 p0.fC.fForget), .ext false (.sl 1 (p0.fT.fUp.map (eInt .i64))), .ext false (.sl 1 (p0.fNew.map (eInt .u8))), .ext false (.sl 1 (p0.fOld.map Image.enc)), .ext false (.sl 12 (p0.fN.map Node.enc)), .ext false (.sl 6 (p0.fD.map Disk.enc)), .ext false (.sl 3 (p0.fNet.map Packet.enc)), .ext false (.sl 3 (p0.fLog.map Sent.enc)), .t (.int .i64 p0.fLost)]] [.agg ((World.enc p0).map .t)] (.agg [.t (.int .i64 r7.fC.fSize), .t (.int .i64 r7.fC.fWindow), .t (.int .i64 r7.fC.fSuspect), .t (.int .i64 r7.fC.fForget), .ow 3 1 (r7.fT.fUp.map (eInt .i64)), .ow 5 1 (r7.fNew.map (eInt .u8)), .ow 89 1 (r7.fOld.map Image.enc), .ow 97 12 (r7.fN.map Node.enc), .ow 87 6 (r7.fD.map Disk.enc), .ow 134 3 (r7.fNet.map Packet.enc), .ow 137 3 (r7.fLog.map Sent.enc), .t (.int .i64 r7.fLost)]) rfl rfl kr kr kr kr kr (laws_toWorld_okd u p0 r7 e_r7) kr ?_
  obtain ⟨r8, e_r8, h⟩ := bind_some h
  refine Runs.callBK 30 16 [] [.agg [.t (.int .i64 r4.fC.fSize), .t (.int .i64 r4.fC.fWindow), .t (.int .i64 r4.fC.fSuspect), .t (.int .i64 r4.fC.fForget), .own 1310724, .own 1310725, .own 1310726, .own 1310727, .own 1310728, .own 1310729, .own 1310730, .t (.int .i64 r4.fLost)], .agg [.t (.int .i64 r7.fC.fSize), .t (.int .i64 r7.fC.fWindow), .t (.int .i64 r7.fC.fSuspect), .t (.int .i64 r7.fC.fForget), .own 1900548, .own 1900549, .own 1900550, .own 1900551, .own 1900552, .own 1900553, .own 1900554, .t (.int .i64 r7.fLost)]] [.agg ((World.enc r4).map .t), .agg ((World.enc r7).map .t)] (.one (.t (.bool r8))) rfl rfl kr kr kr kr kr (laws_eqWorld_ok u r4 r7 r8 e_r8) (by simp [V.plain, V.plains, C.plain, T.sc]) kr ?_
  refine Runs.alln ?_
  refine Wp.fg ⟨[(1, .obj 1 0), (2, .t (.bool false)), (4, .own 1179648), (5, .obj 5 0), (6, .own 1441792), (31, .t (.bool (!r8)))], [(1, [.t (.int .i64 p0.fC.fSize), .t (.int .i64 p0.fC.fWindow), .t (.int .i64 p0.fC.fSuspect), .t (.int .i64 p0.fC.fForget), .ext false (.sl 1 (p0.fT.fUp.map (eInt .i64))), .ext false (.sl 1 (p0.fNew.map (eInt .u8))), .ext false (.sl 1 (p0.fOld.map Image.enc)), .ext false (.sl 12 (p0.fN.map Node.enc)), .ext false (.sl 6 (p0.fD.map Disk.enc)), .ext false (.sl 3 (p0.fNet.map Packet.enc)), .ext false (.sl 3 (p0.fLog.map Sent.enc)), .t (.int .i64 p0.fLost)]), (5, [.t (.int .i64 r4.fC.fSize), .t (.int .i64 r4.fC.fWindow), .t (.int .i64 r4.fC.fSuspect), .t (.int .i64 r4.fC.fForget), .own 1310724, .own 1310725, .own 1310726, .own 1310727, .own 1310728, .own 1310729, .own 1310730, .t (.int .i64 r4.fLost)])], [(1179648, .live 3 1 (r3.map (eInt .i64))), (1310724, .frz 1 (r4.fT.fUp.map (eInt .i64))), (1310725, .frz 1 (r4.fNew.map (eInt .u8))), (1310726, .frz 1 (r4.fOld.map Image.enc)), (1310727, .frz 12 (r4.fN.map Node.enc)), (1310728, .frz 6 (r4.fD.map Disk.enc)), (1310729, .frz 3 (r4.fNet.map Packet.enc)), (1310730, .frz 3 (r4.fLog.map Sent.enc)), (1441792, .live 3 1 (r5.map (eInt .i64)))]⟩ ?_
  refine Wp.cond2 (b := !r8) kr (fun hc => ?_) (fun hc => ?_)
  · have h := cond_t h hc
    refine Wp.srg [] [] ?_
    refine Runs.alln ?_
    refine Wp.fg ⟨[(1, .obj 1 0), (2, .t (.bool false)), (4, .own 1179648), (5, .obj 5 0), (6, .own 1441792)], [(1, [.t (.int .i64 p0.fC.fSize), .t (.int .i64 p0.fC.fWindow), .t (.int .i64 p0.fC.fSuspect), .t (.int .i64 p0.fC.fForget), .ext false (.sl 1 (p0.fT.fUp.map (eInt .i64))), .ext false (.sl 1 (p0.fNew.map (eInt .u8))), .ext false (.sl 1 (p0.fOld.map Image.enc)), .ext false (.sl 12 (p0.fN.map Node.enc)), .ext false (.sl 6 (p0.fD.map Disk.enc)), .ext false (.sl 3 (p0.fNet.map Packet.enc)), .ext false (.sl 3 (p0.fLog.map Sent.enc)), .t (.int .i64 p0.fLost)]), (5, [.t (.int .i64 r4.fC.fSize), .t (.int .i64 r4.fC.fWindow), .t (.int .i64 r4.fC.fSuspect), .t (.int .i64 r4.fC.fForget), .own 1310724, .own 1310725, .own 1310726, .own 1310727, .own 1310728, .own 1310729, .own 1310730, .t (.int .i64 r4.fLost)])], [(1179648, .live 3 1 (r3.map (eInt .i64))), (1310724, .frz 1 (r4.fT.fUp.map (eInt .i64))), (1310725, .frz 1 (r4.fNew.map (eInt .u8))), (1310726, .frz 1 (r4.fOld.map Image.enc)), (1310727, .frz 12 (r4.fN.map Node.enc)), (1310728, .frz 6 (r4.fD.map Disk.enc)), (1310729, .frz 3 (r4.fNet.map Packet.enc)), (1310730, .frz 3 (r4.fLog.map Sent.enc)), (1441792, .live 3 1 (r5.map (eInt .i64)))]⟩ ?_
    refine Wp.ret ?_
    refine thenR ?_
    obtain rfl := Option.some.inj h
    exact RetK [.t (.bool false)] _ [] kr kr (.refl _) .nil
  have h := cond_f h hc
  refine Wp.skip (thenN ?_)
  refine Wp.srg [] [] ?_
  refine Runs.alln ?_
  refine Wp.fg ⟨[(1, .obj 1 0), (2, .t (.bool false)), (4, .own 1179648), (5, .obj 5 0), (6, .own 1441792), (7, .t (.int .i64 1))], [(1, [.t (.int .i64 p0.fC.fSize), .t (.int .i64 p0.fC.fWindow), .t (.int .i64 p0.fC.fSuspect), .t (.int .i64 p0.fC.fForget), .ext false (.sl 1 (p0.fT.fUp.map (eInt .i64))), .ext false (.sl 1 (p0.fNew.map (eInt .u8))), .ext false (.sl 1 (p0.fOld.map Image.enc)), .ext false (.sl 12 (p0.fN.map Node.enc)), .ext false (.sl 6 (p0.fD.map Disk.enc)), .ext false (.sl 3 (p0.fNet.map Packet.enc)), .ext false (.sl 3 (p0.fLog.map Sent.enc)), .t (.int .i64 p0.fLost)]), (5, [.t (.int .i64 r4.fC.fSize), .t (.int .i64 r4.fC.fWindow), .t (.int .i64 r4.fC.fSuspect), .t (.int .i64 r4.fC.fForget), .own 1310724, .own 1310725, .own 1310726, .own 1310727, .own 1310728, .own 1310729, .own 1310730, .t (.int .i64 r4.fLost)])], [(1179648, .live 3 1 (r3.map (eInt .i64))), (1310724, .frz 1 (r4.fT.fUp.map (eInt .i64))), (1310725, .frz 1 (r4.fNew.map (eInt .u8))), (1310726, .frz 1 (r4.fOld.map Image.enc)), (1310727, .frz 12 (r4.fN.map Node.enc)), (1310728, .frz 6 (r4.fD.map Disk.enc)), (1310729, .frz 3 (r4.fNet.map Packet.enc)), (1310730, .frz 3 (r4.fLog.map Sent.enc)), (1441792, .live 3 1 (r5.map (eInt .i64)))]⟩ ?_
  refine Wp.seq ?_
  refine Wp.le (Le.trans (Le.seeO 5 4 1310724 1 [.t (.int .i64 r4.fC.fSize), .t (.int .i64 r4.fC.fWindow), .t (.int .i64 r4.fC.fSuspect), .t (.int .i64 r4.fC.fForget), .own 1310724, .own 1310725, .own 1310726, .own 1310727, .own 1310728, .own 1310729, .own 1310730, .t (.int .i64 r4.fLost)] (r4.fT.fUp.map (eInt .i64)) kr kr kr) (Le.trans (Le.seeO 5 5 1310725 1 [.t (.int .i64 r4.fC.fSize), .t (.int .i64 r4.fC.fWindow), .t (.int .i64 r4.fC.fSuspect), .t (.int .i64 r4.fC.fForget), .t (.sl 1 (r4.fT.fUp.map (eInt .i64))), .own 1310725, .own 1310726, .own 1310727, .own 1310728, .own 1310729, .own 1310730, .t (.int .i64 r4.fLost)] (r4.fNew.map (eInt .u8)) kr kr kr) (Le.trans (Le.seeO 5 6 1310726 1 [.t (.int .i64 r4.fC.fSize), .t (.int .i64 r4.fC.fWindow), .t (.int .i64 r4.fC.fSuspect), .t (.int .i64 r4.fC.fForget), .t (.sl 1 (r4.fT.fUp.map (eInt .i64))), .t (.sl 1 (r4.fNew.map (eInt .u8))), .own 1310726, .own 1310727, .own 1310728, .own 1310729, .own 1310730, .t (.int .i64 r4.fLost)] (r4.fOld.map Image.enc) kr kr kr) (Le.trans (Le.seeO 5 7 1310727 12 [.t (.int .i64 r4.fC.fSize), .t (.int .i64 r4.fC.fWindow), .t (.int .i64 r4.fC.fSuspect), .t (.int .i64 r4.fC.fForget), .t (.sl 1 (r4.fT.fUp.map (eInt .i64))), .t (.sl 1 (r4.fNew.map (eInt .u8))), .t (.sl 1 (r4.fOld.map Image.enc)), .own 1310727, .own 1310728, .own 1310729, .own 1310730, .t (.int .i64 r4.fLost)] (r4.fN.map Node.enc) kr kr kr) (Le.trans (Le.seeO 5 8 1310728 6 [.t (.int .i64 r4.fC.fSize), .t (.int .i64 r4.fC.fWindow), .t (.int .i64 r4.fC.fSuspect), .t (.int .i64 r4.fC.fForget), .t (.sl 1 (r4.fT.fUp.map (eInt .i64))), .t (.sl 1 (r4.fNew.map (eInt .u8))), .t (.sl 1 (r4.fOld.map Image.enc)), .t (.sl 12 (r4.fN.map Node.enc)), .own 1310728, .own 1310729, .own 1310730, .t (.int .i64 r4.fLost)] (r4.fD.map Disk.enc) kr kr kr) (Le.trans (Le.seeO 5 9 1310729 3 [.t (.int .i64 r4.fC.fSize), .t (.int .i64 r4.fC.fWindow), .t (.int .i64 r4.fC.fSuspect), .t (.int .i64 r4.fC.fForget), .t (.sl 1 (r4.fT.fUp.map (eInt .i64))), .t (.sl 1 (r4.fNew.map (eInt .u8))), .t (.sl 1 (r4.fOld.map Image.enc)), .t (.sl 12 (r4.fN.map Node.enc)), .t (.sl 6 (r4.fD.map Disk.enc)), .own 1310729, .own 1310730, .t (.int .i64 r4.fLost)] (r4.fNet.map Packet.enc) kr kr kr) (Le.trans (Le.seeO 5 10 1310730 3 [.t (.int .i64 r4.fC.fSize), .t (.int .i64 r4.fC.fWindow), .t (.int .i64 r4.fC.fSuspect), .t (.int .i64 r4.fC.fForget), .t (.sl 1 (r4.fT.fUp.map (eInt .i64))), .t (.sl 1 (r4.fNew.map (eInt .u8))), .t (.sl 1 (r4.fOld.map Image.enc)), .t (.sl 12 (r4.fN.map Node.enc)), .t (.sl 6 (r4.fD.map Disk.enc)), .t (.sl 3 (r4.fNet.map Packet.enc)), .own 1310730, .t (.int .i64 r4.fLost)] (r4.fLog.map Sent.enc) kr kr kr) (Le.of (s := ⟨[(1, .obj 1 0), (2, .t (.bool false)), (4, .own 1179648), (5, .obj 5 0), (6, .own 1441792), (7, .t (.int .i64 1))], [(1, [.t (.int .i64 p0.fC.fSize), .t (.int .i64 p0.fC.fWindow), .t (.int .i64 p0.fC.fSuspect), .t (.int .i64 p0.fC.fForget), .ext false (.sl 1 (p0.fT.fUp.map (eInt .i64))), .ext false (.sl 1 (p0.fNew.map (eInt .u8))), .ext false (.sl 1 (p0.fOld.map Image.enc)), .ext false (.sl 12 (p0.fN.map Node.enc)), .ext false (.sl 6 (p0.fD.map Disk.enc)), .ext false (.sl 3 (p0.fNet.map Packet.enc)), .ext false (.sl 3 (p0.fLog.map Sent.enc)), .t (.int .i64 p0.fLost)]), (5, ((World.enc r4).map .t))], [(1179648, .live 3 1 (r3.map (eInt .i64))), (1441792, .live 3 1 (r5.map (eInt .i64)))]⟩) (mo := []) (mr := []) kr kr kr kr)))))))) ?_
  obtain ⟨r9, e_r9, h⟩ := bind_some h
  refine Wp.markK [] [] 2 34 26 [.agg ((World.enc r4).map .t), .t (.int .i64 1)] (.int .i64 r9) ⟨[(1, .obj 1 0), (2, .t (.bool false)), (4, .own 1179648), (6, .own 1441792), (7, .t (.int .i64 1)), (32, .agg ((World.enc r4).map .t)), (33, .t (.int .i64 1))], [(1, [.t (.int .i64 p0.fC.fSize), .t (.int .i64 p0.fC.fWindow), .t (.int .i64 p0.fC.fSuspect), .t (.int .i64 p0.fC.fForget), .ext false (.sl 1 (p0.fT.fUp.map (eInt .i64))), .ext false (.sl 1 (p0.fNew.map (eInt .u8))), .ext false (.sl 1 (p0.fOld.map Image.enc)), .ext false (.sl 12 (p0.fN.map Node.enc)), .ext false (.sl 6 (p0.fD.map Disk.enc)), .ext false (.sl 3 (p0.fNet.map Packet.enc)), .ext false (.sl 3 (p0.fLog.map Sent.enc)), .t (.int .i64 p0.fLost)])], [(1179648, .live 3 1 (r3.map (eInt .i64))), (1441792, .live 3 1 (r5.map (eInt .i64)))]⟩ ⟨[(1, .obj 1 0), (2, .t (.bool false)), (4, .own 1179648), (6, .own 1441792), (7, .t (.int .i64 1))], [(1, [.t (.int .i64 p0.fC.fSize), .t (.int .i64 p0.fC.fWindow), .t (.int .i64 p0.fC.fSuspect), .t (.int .i64 p0.fC.fForget), .ext false (.sl 1 (p0.fT.fUp.map (eInt .i64))), .ext false (.sl 1 (p0.fNew.map (eInt .u8))), .ext false (.sl 1 (p0.fOld.map Image.enc)), .ext false (.sl 12 (p0.fN.map Node.enc)), .ext false (.sl 6 (p0.fD.map Disk.enc)), .ext false (.sl 3 (p0.fNet.map Packet.enc)), .ext false (.sl 3 (p0.fLog.map Sent.enc)), .t (.int .i64 p0.fLost)])], [(1179648, .live 3 1 (r3.map (eInt .i64))), (1441792, .live 3 1 (r5.map (eInt .i64)))]⟩ _ _ _ (laws_markWorld__m_ok u r4 1 r9 e_r9) (rows_cons (rows_cons rows_nil)) ?_
  refine Runs.alln ?_
  refine Wp.fg ⟨[(1, .obj 1 0), (2, .t (.bool false)), (4, .own 1179648), (6, .own 1441792), (7, .t (.int .i64 r9))], [(1, [.t (.int .i64 p0.fC.fSize), .t (.int .i64 p0.fC.fWindow), .t (.int .i64 p0.fC.fSuspect), .t (.int .i64 p0.fC.fForget), .ext false (.sl 1 (p0.fT.fUp.map (eInt .i64))), .ext false (.sl 1 (p0.fNew.map (eInt .u8))), .ext false (.sl 1 (p0.fOld.map Image.enc)), .ext false (.sl 12 (p0.fN.map Node.enc)), .ext false (.sl 6 (p0.fD.map Disk.enc)), .ext false (.sl 3 (p0.fNet.map Packet.enc)), .ext false (.sl 3 (p0.fLog.map Sent.enc)), .t (.int .i64 p0.fLost)])], [(1179648, .live 3 1 (r3.map (eInt .i64))), (1441792, .live 3 1 (r5.map (eInt .i64)))]⟩ ?_
  refine Wp.seq ?_
  refine Wp.seqJ (α := ((List Int)) × ((List Int)) × Bool × World) (fun a => ⟨[(1, .obj 1 0), (2, .t (.bool false)), (4, .own 262145), (6, .own 393217), (42, .t (.bool a.2.2.1))], [(1, [.t (.int .i64 a.2.2.2.fC.fSize), .t (.int .i64 a.2.2.2.fC.fWindow), .t (.int .i64 a.2.2.2.fC.fSuspect), .t (.int .i64 a.2.2.2.fC.fForget), .ext false (.sl 1 (a.2.2.2.fT.fUp.map (eInt .i64))), .ext false (.sl 1 (a.2.2.2.fNew.map (eInt .u8))), .ext false (.sl 1 (a.2.2.2.fOld.map Image.enc)), .ext false (.sl 12 (a.2.2.2.fN.map Node.enc)), .ext false (.sl 6 (a.2.2.2.fD.map Disk.enc)), .ext false (.sl 3 (a.2.2.2.fNet.map Packet.enc)), .ext false (.sl 3 (a.2.2.2.fLog.map Sent.enc)), .t (.int .i64 a.2.2.2.fLost)])], [(262145, .live 3 1 (a.1.map (eInt .i64))), (393217, .live 3 1 (a.2.1.map (eInt .i64)))]⟩) (fun a => laws_FnExactLateIn_j1 u a.1 a.2.1 a.2.2.1 a.2.2.2 = some r) ?_ ?_
  · rintro ⟨r3, r5, x11, p0⟩ h
    change laws_FnExactLateIn_j1 u r3 r5 x11 p0 = some r at h
    unfold laws_FnExactLateIn_j1 at h
    refine Wp.cond2 (b := x11) kr (fun hc => ?_) (fun hc => ?_)
    · have h := cond_t h hc
      refine Wp.srg [] [] ?_
      refine Runs.alln ?_
      refine Wp.fg ⟨[(1, .obj 1 0), (2, .t (.bool false)), (4, .own 262145), (6, .own 393217)], [(1, [.t (.int .i64 p0.fC.fSize), .t (.int .i64 p0.fC.fWindow), .t (.int .i64 p0.fC.fSuspect), .t (.int .i64 p0.fC.fForget), .ext false (.sl 1 (p0.fT.fUp.map (eInt .i64))), .ext false (.sl 1 (p0.fNew.map (eInt .u8))), .ext false (.sl 1 (p0.fOld.map Image.enc)), .ext false (.sl 12 (p0.fN.map Node.enc)), .ext false (.sl 6 (p0.fD.map Disk.enc)), .ext false (.sl 3 (p0.fNet.map Packet.enc)), .ext false (.sl 3 (p0.fLog.map Sent.enc)), .t (.int .i64 p0.fLost)])], [(262145, .live 3 1 (r3.map (eInt .i64))), (393217, .live 3 1 (r5.map (eInt .i64)))]⟩ ?_
      refine Wp.ret ?_
      refine thenR ?_
      obtain rfl := Option.some.inj h
      exact RetK [.t (.bool false)] _ [] kr kr (.refl _) .nil
    have h := cond_f h hc
    refine Wp.skip (thenN ?_)
    refine Wp.srg [] [] ?_
    refine Runs.alln ?_
    refine Wp.fg ⟨[(1, .obj 1 0), (2, .t (.bool false)), (4, .own 262145), (6, .own 393217), (8, .t (.int .i64 1))], [(1, [.t (.int .i64 p0.fC.fSize), .t (.int .i64 p0.fC.fWindow), .t (.int .i64 p0.fC.fSuspect), .t (.int .i64 p0.fC.fForget), .ext false (.sl 1 (p0.fT.fUp.map (eInt .i64))), .ext false (.sl 1 (p0.fNew.map (eInt .u8))), .ext false (.sl 1 (p0.fOld.map Image.enc)), .ext false (.sl 12 (p0.fN.map Node.enc)), .ext false (.sl 6 (p0.fD.map Disk.enc)), .ext false (.sl 3 (p0.fNet.map Packet.enc)), .ext false (.sl 3 (p0.fLog.map Sent.enc)), .t (.int .i64 p0.fLost)])], [(262145, .live 3 1 (r3.map (eInt .i64))), (393217, .live 3 1 (r5.map (eInt .i64)))]⟩ ?_
    refine Wp.srg [] [] ?_
    refine Runs.batch 2 kr ?_
    obtain ⟨r12, e_r12, h⟩ := bind_some h
    refine Runs.callRK 45 27 393217 3 1 (r5.map (eInt .i64)) (r12.2.map (eInt .i64)) [.t (.int .i64 1)] [.one (.t (.int .i64 1))] (.int .i64 r12.1) rfl rfl kr kr kr kr kr kr (by simp [V.plain, V.plains, C.plain, T.sc]) (laws_markIntS__r_ok u r5 1 r12 e_r12) ?_
    refine Runs.alln ?_
    refine Wp.fg ⟨[(1, .obj 1 0), (2, .t (.bool false)), (4, .own 262145), (6, .own 393217), (8, .t (.int .i64 r12.1))], [(1, [.t (.int .i64 p0.fC.fSize), .t (.int .i64 p0.fC.fWindow), .t (.int .i64 p0.fC.fSuspect), .t (.int .i64 p0.fC.fForget), .ext false (.sl 1 (p0.fT.fUp.map (eInt .i64))), .ext false (.sl 1 (p0.fNew.map (eInt .u8))), .ext false (.sl 1 (p0.fOld.map Image.enc)), .ext false (.sl 12 (p0.fN.map Node.enc)), .ext false (.sl 6 (p0.fD.map Disk.enc)), .ext false (.sl 3 (p0.fNet.map Packet.enc)), .ext false (.sl 3 (p0.fLog.map Sent.enc)), .t (.int .i64 p0.fLost)])], [(262145, .live 3 1 (r3.map (eInt .i64))), (393217, .live 3 1 (r12.2.map (eInt .i64)))]⟩ ?_
    refine Wp.srg [] [] ?_
    refine Runs.alln ?_
    refine Wp.fg ⟨[(1, .obj 1 0), (2, .t (.bool false)), (4, .own 262145), (6, .own 393217), (8, .t (.int .i64 r12.1)), (9, .t (.int .i64 1))], [(1, [.t (.int .i64 p0.fC.fSize), .t (.int .i64 p0.fC.fWindow), .t (.int .i64 p0.fC.fSuspect), .t (.int .i64 p0.fC.fForget), .ext false (.sl 1 (p0.fT.fUp.map (eInt .i64))), .ext false (.sl 1 (p0.fNew.map (eInt .u8))), .ext false (.sl 1 (p0.fOld.map Image.enc)), .ext false (.sl 12 (p0.fN.map Node.enc)), .ext false (.sl 6 (p0.fD.map Disk.enc)), .ext false (.sl 3 (p0.fNet.map Packet.enc)), .ext false (.sl 3 (p0.fLog.map Sent.enc)), .t (.int .i64 p0.fLost)])], [(262145, .live 3 1 (r3.map (eInt .i64))), (393217, .live 3 1 (r12.2.map (eInt .i64)))]⟩ ?_
    refine Wp.srg [] [] ?_
    refine Runs.batch 2 kr ?_
    obtain ⟨r13, e_r13, h⟩ := bind_some h
    refine Runs.callBK 48 28 [] [.own 393217, .t (.int .i64 1)] [.one (.t (.sl 1 (r12.2.map (eInt .i64)))), .one (.t (.int .i64 1))] (.one (.t (.int .i64 r13))) rfl rfl kr kr kr kr kr (laws_heldIntS_ok u r12.2 1 r13 e_r13) (by simp [V.plain, V.plains, C.plain, T.sc]) kr ?_
    refine Runs.alln ?_
    refine Wp.fg ⟨[(1, .obj 1 0), (2, .t (.bool false)), (4, .own 262145), (6, .own 393217), (8, .t (.int .i64 r12.1)), (9, .t (.int .i64 r13))], [(1, [.t (.int .i64 p0.fC.fSize), .t (.int .i64 p0.fC.fWindow), .t (.int .i64 p0.fC.fSuspect), .t (.int .i64 p0.fC.fForget), .ext false (.sl 1 (p0.fT.fUp.map (eInt .i64))), .ext false (.sl 1 (p0.fNew.map (eInt .u8))), .ext false (.sl 1 (p0.fOld.map Image.enc)), .ext false (.sl 12 (p0.fN.map Node.enc)), .ext false (.sl 6 (p0.fD.map Disk.enc)), .ext false (.sl 3 (p0.fNet.map Packet.enc)), .ext false (.sl 3 (p0.fLog.map Sent.enc)), .t (.int .i64 p0.fLost)])], [(262145, .live 3 1 (r3.map (eInt .i64))), (393217, .live 3 1 (r12.2.map (eInt .i64)))]⟩ ?_
    refine Wp.seq ?_
    refine Wp.srg [] [] ?_
    refine Runs.alln ?_
    refine Wp.fg ⟨[(1, .obj 1 0), (2, .t (.bool false)), (4, .own 262145), (6, .own 393217), (8, .t (.int .i64 r12.1)), (9, .t (.int .i64 r13)), (50, .t (.bool (decide (r13 < 0))))], [(1, [.t (.int .i64 p0.fC.fSize), .t (.int .i64 p0.fC.fWindow), .t (.int .i64 p0.fC.fSuspect), .t (.int .i64 p0.fC.fForget), .ext false (.sl 1 (p0.fT.fUp.map (eInt .i64))), .ext false (.sl 1 (p0.fNew.map (eInt .u8))), .ext false (.sl 1 (p0.fOld.map Image.enc)), .ext false (.sl 12 (p0.fN.map Node.enc)), .ext false (.sl 6 (p0.fD.map Disk.enc)), .ext false (.sl 3 (p0.fNet.map Packet.enc)), .ext false (.sl 3 (p0.fLog.map Sent.enc)), .t (.int .i64 p0.fLost)])], [(262145, .live 3 1 (r3.map (eInt .i64))), (393217, .live 3 1 (r12.2.map (eInt .i64)))]⟩ ?_
    refine Wp.cond2 (b := decide (r13 < 0)) kr (fun hc => ?_) (fun hc => ?_)
    · have h := cond_t h hc
      refine Wp.srg [] [] ?_
      refine Runs.alln ?_
      refine Wp.fg ⟨[(1, .obj 1 0), (2, .t (.bool false)), (4, .own 262145), (6, .own 393217), (8, .t (.int .i64 r12.1)), (9, .t (.int .i64 r13))], [(1, [.t (.int .i64 p0.fC.fSize), .t (.int .i64 p0.fC.fWindow), .t (.int .i64 p0.fC.fSuspect), .t (.int .i64 p0.fC.fForget), .ext false (.sl 1 (p0.fT.fUp.map (eInt .i64))), .ext false (.sl 1 (p0.fNew.map (eInt .u8))), .ext false (.sl 1 (p0.fOld.map Image.enc)), .ext false (.sl 12 (p0.fN.map Node.enc)), .ext false (.sl 6 (p0.fD.map Disk.enc)), .ext false (.sl 3 (p0.fNet.map Packet.enc)), .ext false (.sl 3 (p0.fLog.map Sent.enc)), .t (.int .i64 p0.fLost)])], [(262145, .live 3 1 (r3.map (eInt .i64))), (393217, .live 3 1 (r12.2.map (eInt .i64)))]⟩ ?_
      refine Wp.ret ?_
      refine thenR ?_
      obtain rfl := Option.some.inj h
      exact RetK [.t (.bool false)] _ [] kr kr (.refl _) .nil
    have h := cond_f h hc
    refine Wp.skip (thenN ?_)
    refine Wp.seq ?_
    refine Wp.srg [] [] ?_
    refine Runs.alln ?_
    refine Wp.fg ⟨[(1, .obj 1 0), (2, .t (.bool false)), (4, .own 262145), (6, .own 393217), (8, .t (.int .i64 r12.1)), (53, .t (.bool (r13 != r12.1)))], [(1, [.t (.int .i64 p0.fC.fSize), .t (.int .i64 p0.fC.fWindow), .t (.int .i64 p0.fC.fSuspect), .t (.int .i64 p0.fC.fForget), .ext false (.sl 1 (p0.fT.fUp.map (eInt .i64))), .ext false (.sl 1 (p0.fNew.map (eInt .u8))), .ext false (.sl 1 (p0.fOld.map Image.enc)), .ext false (.sl 12 (p0.fN.map Node.enc)), .ext false (.sl 6 (p0.fD.map Disk.enc)), .ext false (.sl 3 (p0.fNet.map Packet.enc)), .ext false (.sl 3 (p0.fLog.map Sent.enc)), .t (.int .i64 p0.fLost)])], [(262145, .live 3 1 (r3.map (eInt .i64))), (393217, .live 3 1 (r12.2.map (eInt .i64)))]⟩ ?_
    refine Wp.cond2 (b := r13 != r12.1) kr (fun hc => ?_) (fun hc => ?_)
    · have h := cond_t h hc
      refine Wp.srg [] [] ?_
      refine Runs.alln ?_
      refine Wp.fg ⟨[(1, .obj 1 0), (2, .t (.bool false)), (4, .own 262145), (6, .own 393217), (8, .t (.int .i64 r12.1))], [(1, [.t (.int .i64 p0.fC.fSize), .t (.int .i64 p0.fC.fWindow), .t (.int .i64 p0.fC.fSuspect), .t (.int .i64 p0.fC.fForget), .ext false (.sl 1 (p0.fT.fUp.map (eInt .i64))), .ext false (.sl 1 (p0.fNew.map (eInt .u8))), .ext false (.sl 1 (p0.fOld.map Image.enc)), .ext false (.sl 12 (p0.fN.map Node.enc)), .ext false (.sl 6 (p0.fD.map Disk.enc)), .ext false (.sl 3 (p0.fNet.map Packet.enc)), .ext false (.sl 3 (p0.fLog.map Sent.enc)), .t (.int .i64 p0.fLost)])], [(262145, .live 3 1 (r3.map (eInt .i64))), (393217, .live 3 1 (r12.2.map (eInt .i64)))]⟩ ?_
      refine Wp.ret ?_
      refine thenR ?_
      obtain rfl := Option.some.inj h
      exact RetK [.t (.bool false)] _ [] kr kr (.refl _) .nil
    have h := cond_f h hc
    refine Wp.skip (thenN ?_)
    refine Wp.srg [] [] ?_
    refine Runs.batch 1 kr ?_
    obtain ⟨r14, e_r14, h⟩ := bind_some h
    refine Runs.callDK 55 14 [] [.agg [.t (.int .i64 p0.fC.fSize), .t (.int .i64 p0.fC.fWindow), .t (.int .i64 p0.fC.fSuspect), .t (.int .i64 p0.fC.fForget), .ext false (.sl 1 (p0.fT.fUp.map (eInt .i64))), .ext false (.sl 1 (p0.fNew.map (eInt .u8))), .ext false (.sl 1 (p0.fOld.map Image.enc)), .ext false (.sl 12 (p0.fN.map Node.enc)), .ext false (.sl 6 (p0.fD.map Disk.enc)), .ext false (.sl 3 (p0.fNet.map Packet.enc)), .ext false (.sl 3 (p0.fLog.map Sent.enc)), .t (.int .i64 p0.fLost)]] [.agg ((World.enc p0).map .t)] (.agg [.t (.int .i64 r14.fC.fSize), .t (.int .i64 r14.fC.fWindow), .t (.int .i64 r14.fC.fSuspect), .t (.int .i64 r14.fC.fForget), .ow 3 1 (r14.fT.fUp.map (eInt .i64)), .ow 5 1 (r14.fNew.map (eInt .u8)), .ow 89 1 (r14.fOld.map Image.enc), .ow 97 12 (r14.fN.map Node.enc), .ow 87 6 (r14.fD.map Disk.enc), .ow 134 3 (r14.fNet.map Packet.enc), .ow 137 3 (r14.fLog.map Sent.enc), .t (.int .i64 r14.fLost)]) rfl rfl kr kr kr kr kr (laws_toWorld_okd u p0 r14 e_r14) kr ?_
    obtain ⟨r15, e_r15, h⟩ := bind_some h
    refine Runs.callK false 56 34 [] [.agg [.t (.int .i64 r14.fC.fSize), .t (.int .i64 r14.fC.fWindow), .t (.int .i64 r14.fC.fSuspect), .t (.int .i64 r14.fC.fForget), .own 3604484, .own 3604485, .own 3604486, .own 3604487, .own 3604488, .own 3604489, .own 3604490, .t (.int .i64 r14.fLost)]] _ _ _ rfl rfl kr kr kr kr kr (impl_LateIn_ok u r14 r15 e_r15) kr ?_
    refine Runs.alln ?_
    refine Wp.fg ⟨[(2, .t (.bool false)), (4, .own 262145), (6, .own 393217), (8, .t (.int .i64 r12.1)), (10, .own 3670016)], [], [(262145, .live 3 1 (r3.map (eInt .i64))), (393217, .live 3 1 (r12.2.map (eInt .i64))), (3670016, .live 3 1 (r15.map (eInt .i64)))]⟩ ?_
    refine Wp.seq ?_
    refine Wp.srg [] [] ?_
    refine Runs.batch 2 kr ?_
    obtain ⟨r16, e_r16, h⟩ := bind_some h
    refine Runs.callBK 59 25 [] [.own 3670016, .own 262145] [.one (.t (.sl 1 (r15.map (eInt .i64)))), .one (.t (.sl 1 (r3.map (eInt .i64))))] (.one (.t (.bool r16))) rfl rfl kr kr kr kr kr (laws_eqIntS_ok u r15 r3 r16 e_r16) (by simp [V.plain, V.plains, C.plain, T.sc]) kr ?_
    refine Runs.alln ?_
    refine Wp.fg ⟨[(2, .t (.bool false)), (6, .own 393217), (8, .t (.int .i64 r12.1)), (60, .t (.bool (!r16)))], [], [(393217, .live 3 1 (r12.2.map (eInt .i64)))]⟩ ?_
    refine Wp.cond2 (b := !r16) kr (fun hc => ?_) (fun hc => ?_)
    · have h := cond_t h hc
      refine Wp.srg [] [] ?_
      refine Runs.alln ?_
      refine Wp.fg ⟨[(2, .t (.bool false)), (6, .own 393217), (8, .t (.int .i64 r12.1))], [], [(393217, .live 3 1 (r12.2.map (eInt .i64)))]⟩ ?_
      refine Wp.ret ?_
      refine thenR ?_
      obtain rfl := Option.some.inj h
      exact RetK [.t (.bool false)] _ [] kr kr (.refl _) .nil
    have h := cond_f h hc
    refine Wp.skip (thenN ?_)
    refine Wp.srg [] [] ?_
    refine Runs.alln ?_
    refine Wp.fg ⟨[(2, .t (.bool false)), (6, .own 393217), (8, .t (.int .i64 r12.1)), (9, .t (.int .i64 1))], [], [(393217, .live 3 1 (r12.2.map (eInt .i64)))]⟩ ?_
    refine Wp.srg [] [] ?_
    refine Runs.batch 2 kr ?_
    obtain ⟨r17, e_r17, h⟩ := bind_some h
    refine Runs.callBK 63 28 [] [.own 393217, .t (.int .i64 1)] [.one (.t (.sl 1 (r12.2.map (eInt .i64)))), .one (.t (.int .i64 1))] (.one (.t (.int .i64 r17))) rfl rfl kr kr kr kr kr (laws_heldIntS_ok u r12.2 1 r17 e_r17) (by simp [V.plain, V.plains, C.plain, T.sc]) kr ?_
    refine Runs.alln ?_
    refine Wp.fg ⟨[(2, .t (.bool false)), (8, .t (.int .i64 r12.1)), (9, .t (.int .i64 r17))], [], []⟩ ?_
    refine Wp.seq ?_
    refine Wp.srg [] [] ?_
    refine Runs.alln ?_
    refine Wp.fg ⟨[(2, .t (.bool false)), (8, .t (.int .i64 r12.1)), (9, .t (.int .i64 r17)), (65, .t (.bool (decide (r17 < 0))))], [], []⟩ ?_
    refine Wp.cond2 (b := decide (r17 < 0)) kr (fun hc => ?_) (fun hc => ?_)
    · have h := cond_t h hc
      refine Wp.srg [] [] ?_
      refine Runs.alln ?_
      refine Wp.fg ⟨[(2, .t (.bool false)), (8, .t (.int .i64 r12.1)), (9, .t (.int .i64 r17))], [], []⟩ ?_
      refine Wp.ret ?_
      refine thenR ?_
      obtain rfl := Option.some.inj h
      exact RetK [.t (.bool false)] _ [] kr kr (.refl _) .nil
    have h := cond_f h hc
    refine Wp.skip (thenN ?_)
    refine Wp.seq ?_
    refine Wp.srg [] [] ?_
    refine Runs.alln ?_
    refine Wp.fg ⟨[(2, .t (.bool false)), (68, .t (.bool (r17 != r12.1)))], [], []⟩ ?_
    refine Wp.cond2 (b := r17 != r12.1) kr (fun hc => ?_) (fun hc => ?_)
    · have h := cond_t h hc
      refine Wp.srg [] [] ?_
      refine Runs.alln ?_
      refine Wp.fg ⟨[(2, .t (.bool false))], [], []⟩ ?_
      refine Wp.ret ?_
      refine thenR ?_
      obtain rfl := Option.some.inj h
      exact RetK [.t (.bool false)] _ [] kr kr (.refl _) .nil
    have h := cond_f h hc
    refine Wp.skip (thenN ?_)
    refine Wp.srg [] [] ?_
    refine Runs.alln ?_
    refine Wp.fg ⟨[(2, .t (.bool true))], [], []⟩ ?_
    refine Wp.ret ?_
    obtain rfl := Option.some.inj h
    exact RetK [.t (.bool true)] _ [] kr kr (.refl _) .nil
  · refine Wp.rg [] [] ?_
    refine Runs.batch 3 kr ?_
    rcases tf (decide (r9 < 0)) with hc | hc
    · have h := cond_t h hc
      refine Runs.known 37 (v := true) kr hc ?_
      refine Runs.alln ?_
      exact ⟨(r3, r5, true, p0), h, Le.of (mo := []) (mr := [(262145, 1179648), (393217, 1441792)]) kr kr kr kr⟩
    have h := cond_f h hc
    refine Runs.known 37 (v := false) kr hc ?_
    refine Runs.batch 2 kr ?_
    obtain ⟨r10, e_r10, h⟩ := bind_some h
    refine Runs.callBK 40 25 [] [.own 1441792, .own 1179648] [.one (.t (.sl 1 (r5.map (eInt .i64)))), .one (.t (.sl 1 (r3.map (eInt .i64))))] (.one (.t (.bool r10))) rfl rfl kr kr kr kr kr (laws_eqIntS_ok u r5 r3 r10 e_r10) (by simp [V.plain, V.plains, C.plain, T.sc]) kr ?_
    refine Runs.alln ?_
    exact ⟨(r3, r5, !r10, p0), h, Le.of (mo := []) (mr := [(262145, 1179648), (393217, 1441792)]) kr kr kr kr⟩
end Go.Tm
