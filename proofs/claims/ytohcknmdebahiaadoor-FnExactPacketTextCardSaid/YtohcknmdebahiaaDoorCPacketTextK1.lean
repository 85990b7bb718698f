/- The functions as they are translated do what the pure functions say (printed). -/
import Derived.Test.YtohcknmdebahiaaDoorCPacketTextD
import Derived.Test.YtohcknmdebahiaaDoorTm44
import Derived.Test.YtohcknmdebahiaaDoorProg
set_option maxRecDepth 100000
set_option maxHeartbeats 20000000
set_option linter.unusedVariables false
set_option linter.unusedSimpArgs false
namespace Go.Tm
open Go.Proofs
theorem laws_szByteS_ok (u : Nat) (p0 : List Int) (p1 : Int) (r : Int) (h : laws_szByteS u p0 p1 = some r) : CallOK Tryd.prog 9 [.one (.t (.sl 1 (p0.map (eInt .u8)))), .one (.t (.int .i64 p1))] (.one (.t (.int .i64 r))) [] := by
  unfold laws_szByteS at h
  refine CallOK.of_bodyK (fn := Tryd.f9) (m := false) [.t (.sl 1 (p0.map (eInt .u8))), .t (.int .i64 p1)] kr rfl kr kr kr kr kr ?_
  refine Wp.srg [] [] ?_
  refine Runs.alln ?_
  refine Wp.fg ⟨[(0, .t (.sl 1 (p0.map (eInt .u8)))), (1, .t (.int .i64 p1)), (4, .t (.int .i64 0))], [], []⟩ ?_
  refine Wp.srg [] [] ?_
  refine Runs.batch 2 kr ?_
  refine Runs.lenT (y := .t (.sl 1 (p0.map (eInt .u8)))) (e := 5) (eInt .u8) p0 1 rfl rfl rfl kr kr kr kr kr ?_
  refine Runs.alln ?_
  refine Wp.fg ⟨[(1, .t (.int .i64 (bSub .i64 p1 ((p0.length : Int))))), (4, .t (.int .i64 0))], [], []⟩ ?_
  refine Wp.seq ?_
  refine Wp.srg [] [] ?_
  refine Runs.alln ?_
  refine Wp.fg ⟨[(1, .t (.int .i64 (bSub .i64 p1 ((p0.length : Int))))), (4, .t (.int .i64 0)), (10, .t (.bool (decide ((bSub .i64 p1 ((p0.length : Int))) < 0))))], [], []⟩ ?_
  refine Wp.cond2 (b := decide ((bSub .i64 p1 ((p0.length : Int))) < 0)) kr (fun hc => ?_) (fun hc => ?_)
  · have h := cond_t h hc
    refine Wp.srg [] [] ?_
    refine Runs.alln ?_
    refine Wp.fg ⟨[(1, .t (.int .i64 (bSub .i64 p1 ((p0.length : Int))))), (4, .t (.int .i64 (-1)))], [], []⟩ ?_
    refine Wp.ret ?_
    refine thenR ?_
    obtain rfl := Option.some.inj h
    exact RetK [.t (.int .i64 (-1))] _ [] kr kr (.refl _) .nil
  have h := cond_f h hc
  refine Wp.skip (thenN ?_)
  refine Wp.srg [] [] ?_
  refine Runs.alln ?_
  refine Wp.fg ⟨[(4, .t (.int .i64 (bSub .i64 p1 ((p0.length : Int)))))], [], []⟩ ?_
  refine Wp.ret ?_
  obtain rfl := Option.some.inj h
  exact RetK [.t (.int .i64 (bSub .i64 p1 ((p0.length : Int))))] _ [] kr kr (.refl _) .nil
theorem laws_szPacket_ok (u : Nat) (p0 : Packet) (p1 : Int) (r : Int) (h : laws_szPacket u p0 p1 = some r) : CallOK Tryd.prog 4 [.agg [.t (.int .i64 p0.fFrom), .t (.int .i64 p0.fTo), .t (.sl 1 (p0.fB.map (eInt .u8)))], .one (.t (.int .i64 p1))] (.one (.t (.int .i64 r))) [] := by
  unfold laws_szPacket at h
  refine CallOK.of_bodyK (fn := Tryd.f4) (m := false) [.agg ((Packet.enc p0).map .t), .t (.int .i64 p1)] kr rfl kr kr kr kr kr ?_
  refine Wp.srg [] [] ?_
  refine Runs.alln ?_
  refine Wp.fg ⟨[(1, .t (.int .i64 p1)), (2, .obj 2 0), (4, .t (.int .i64 0))], [(2, ((Packet.enc p0).map .t))], []⟩ ?_
  refine Wp.srg [] [] ?_
  refine Runs.batch 3 kr ?_
  obtain ⟨r1, e_r1, h⟩ := bind_some h
  refine Runs.callK false 8 9 [] [.t (.sl 1 (p0.fB.map (eInt .u8))), .t (.int .i64 p1)] _ _ _ rfl rfl kr kr kr kr kr (laws_szByteS_ok u p0.fB p1 r1 e_r1) kr ?_
  refine Runs.alln ?_
  refine Wp.fg ⟨[(1, .t (.int .i64 r1)), (4, .t (.int .i64 0))], [], []⟩ ?_
  refine Wp.seq ?_
  refine Wp.srg [] [] ?_
  refine Runs.alln ?_
  refine Wp.fg ⟨[(1, .t (.int .i64 r1)), (4, .t (.int .i64 0)), (10, .t (.bool (decide (r1 < 0))))], [], []⟩ ?_
  refine Wp.cond2 (b := decide (r1 < 0)) kr (fun hc => ?_) (fun hc => ?_)
  · have h := cond_t h hc
    refine Wp.srg [] [] ?_
    refine Runs.alln ?_
    refine Wp.fg ⟨[(1, .t (.int .i64 r1)), (4, .t (.int .i64 (-1)))], [], []⟩ ?_
    refine Wp.ret ?_
    refine thenR ?_
    obtain rfl := Option.some.inj h
    exact RetK [.t (.int .i64 (-1))] _ [] kr kr (.refl _) .nil
  have h := cond_f h hc
  refine Wp.skip (thenN ?_)
  refine Wp.srg [] [] ?_
  refine Runs.alln ?_
  refine Wp.fg ⟨[(4, .t (.int .i64 r1))], [], []⟩ ?_
  refine Wp.ret ?_
  obtain rfl := Option.some.inj h
  exact RetK [.t (.int .i64 r1)] _ [] kr kr (.refl _) .nil
theorem laws_toByteS_ok (u : Nat) (p0 : List Int) (r : (List Int)) (h : laws_toByteS u p0 = some r) : CallOK Tryd.prog 13 [.one (.t (.sl 1 (p0.map (eInt .u8))))] (.one (.ow 5 1 (r.map (eInt .u8)))) [] := by
  unfold laws_toByteS at h
  refine CallOK.of_bodyK (fn := Tryd.f13) (m := true) [.t (.sl 1 (p0.map (eInt .u8)))] kr rfl kr kr kr kr kr ?_
  refine Wp.srg [] [] ?_
  refine Runs.alln ?_
  refine Wp.fg ⟨[(0, .t (.sl 1 (p0.map (eInt .u8)))), (2, .nil)], [], []⟩ ?_
  refine Wp.srg [] [] ?_
  refine Runs.batch 1 kr ?_
  refine Runs.lenT (y := .t (.sl 1 (p0.map (eInt .u8)))) (e := 5) (eInt .u8) p0 1 rfl rfl rfl kr kr kr kr kr ?_
  obtain ⟨_, e_1, h⟩ := bind_some h
  obtain ⟨_, e_2, h⟩ := bind_some h
  refine Runs.mkS (eInt .u8) (0 : Int) 7 5 1 1 ((p0.length : Int)) ((p0.length : Int)) rfl rfl kr kr kr kr kr kr (chk_some e_1) (of_decide_eq_true (chk_some e_2)) kr ?_
  refine Runs.alln ?_
  refine Wp.fg ⟨[(0, .t (.sl 1 (p0.map (eInt .u8)))), (2, .nil), (3, .own 458752)], [], [(458752, .live 5 1 ((List.replicate (Int.toNat ((p0.length : Int))) (0 : Int)).map (eInt .u8)))]⟩ ?_
  refine Wp.seqJ (α := (List Int)) (fun a => ⟨[(2, .nil), (3, .own 196609)], [], [(196609, .live 5 1 (a.map (eInt .u8)))]⟩) (fun a => laws_toByteS_j1 u a = some r) ?_ ?_
  · rintro x11 h
    change laws_toByteS_j1 u x11 = some r at h
    unfold laws_toByteS_j1 at h
    refine Wp.srg [] [] ?_
    refine Runs.alln ?_
    refine Wp.fg ⟨[(2, .own 196609)], [], [(196609, .live 5 1 (x11.map (eInt .u8)))]⟩ ?_
    refine Wp.ret ?_
    obtain rfl := Option.some.inj h
    exact RetK [.own 196609] _ [] kr kr (.refl _) .nil
  · refine Wp.srg [] [] ?_
    refine Runs.alln ?_
    refine Wp.fg ⟨[(0, .t (.sl 1 (p0.map (eInt .u8)))), (2, .nil), (3, .own 458752), (4, .t (.int .i64 0))], [], [(458752, .live 5 1 ((List.replicate (Int.toNat ((p0.length : Int))) (0 : Int)).map (eInt .u8)))]⟩ ?_
    refine Wp.block ?_
    refine Wp.loopF (α := (List Int) × (List Int) × Int) (fun a => ⟨[(0, .t (.sl 1 (a.1.map (eInt .u8)))), (2, .nil), (3, .own 196609), (4, .t (.int .i64 a.2.2))], [], [(196609, .live 5 1 (a.2.1.map (eInt .u8)))]⟩) (fun k_laws_toByteS_l2 a => laws_toByteS_l2 u k_laws_toByteS_l2 a.1 a.2.1 a.2.2 = some r) ?_ ?_ u (p0, List.replicate (Int.toNat ((p0.length : Int))) (0 : Int), 0) h (Le.of (mo := []) (mr := [(196609, 458752)]) kr kr kr kr)
    · intro a h; unfold laws_toByteS_l2 at h; cases h
    · rintro k_laws_toByteS_l2 ⟨p0, x5, x6⟩ h
      change laws_toByteS_l2 u (k_laws_toByteS_l2 + 1) p0 x5 x6 = some r at h
      rw [laws_toByteS_l2] at h
      refine Wp.seq ?_
      refine Wp.srg [] [] ?_
      refine Runs.batch 2 kr ?_
      refine Runs.lenT (y := .t (.sl 1 (p0.map (eInt .u8)))) (e := 5) (eInt .u8) p0 1 rfl rfl rfl kr kr kr kr kr ?_
      refine Runs.alln ?_
      refine Wp.fg ⟨[(0, .t (.sl 1 (p0.map (eInt .u8)))), (2, .nil), (3, .own 196609), (4, .t (.int .i64 x6)), (11, .t (.bool (decide (x6 < ((p0.length : Int))))))], [], [(196609, .live 5 1 (x5.map (eInt .u8)))]⟩ ?_
      refine Wp.cond2 (b := decide (x6 < ((p0.length : Int)))) kr (fun hc => ?_) (fun hc => ?_)
      · have h := cond_t h hc
        refine Wp.skip (thenN ?_)
        refine Wp.seq ?_
        refine Wp.block ?_
        refine Wp.rg [] [] ?_
        refine Runs.batch 4 kr ?_
        obtain ⟨y9, e_y9, h⟩ := bind_some h
        refine Runs.idxT (e := 5) (kk := .i64) (sz := 1) (eInt .u8) p0 x6 rfl kr kr kr kr kr kr e_y9 ?_
        refine Runs.batch 1 kr ?_
        obtain ⟨y10, e_y10, h⟩ := bind_some h
        refine Runs.idxO (e := 5) (e' := 5) (kk := .i64) (sz := 1) (eInt .u8) x5 x6 196609 rfl kr kr kr kr kr kr kr e_y10 ?_
        refine Runs.storeT (e := 5) (sz := 1) (m := 1) (eInt .u8) x5 196609 (Int.toNat x6) 0 y9 (.t (.int .u8 y9)) [.int .u8 y9] rfl kr kr kr kr kr kr kr kr (idx_some e_y10).2 kr kr ?_
        refine Runs.done ?_
        refine blkN ?_
        refine thenN ?_
        refine Wp.rg [] [] ?_
        refine Runs.alln ?_
        exact ⟨(p0, x5.set (Int.toNat x6) y9, bAdd .i64 x6 1), h, Le.of (mo := []) (mr := []) kr kr kr kr⟩
      have h := cond_f h hc
      refine Wp.exit ?_
      refine thenE ?_
      refine thenE ?_
      refine blkE ?_
      refine thenN ?_
      exact ⟨x5, h, Le.of (mo := []) (mr := []) kr kr kr kr⟩
theorem laws_toPacket_ok (u : Nat) (p0 : Packet) (r : Packet) (h : laws_toPacket u p0 = some r) : CallOK Tryd.prog 6 [.agg [.t (.int .i64 p0.fFrom), .t (.int .i64 p0.fTo), .t (.sl 1 (p0.fB.map (eInt .u8)))]] (.agg [.t (.int .i64 r.fFrom), .t (.int .i64 r.fTo), .ow 5 1 (r.fB.map (eInt .u8))]) [] := by
  unfold laws_toPacket at h
  refine CallOK.of_bodyK (fn := Tryd.f6) (m := true) [.agg ((Packet.enc p0).map .t)] kr rfl kr kr kr kr kr ?_
  refine Wp.srg [] [] ?_
  refine Runs.alln ?_
  refine Wp.fg ⟨[(1, .obj 1 0), (2, .obj 2 0)], [(1, ((Packet.enc p0).map .t)), (2, [.t (.int .i64 0), .t (.int .i64 0), .nil])], []⟩ ?_
  refine Wp.srg [] [] ?_
  refine Runs.alln ?_
  refine Wp.fg ⟨[(1, .obj 1 0), (2, .obj 2 0), (3, .obj 3 0)], [(1, ((Packet.enc p0).map .t)), (2, [.t (.int .i64 0), .t (.int .i64 0), .nil]), (3, [.t (.int .i64 0), .t (.int .i64 0), .nil])], []⟩ ?_
  refine Wp.srg [] [] ?_
  refine Runs.alln ?_
  refine Wp.fg ⟨[(1, .obj 1 0), (2, .obj 2 0), (3, .obj 3 0)], [(1, ((Packet.enc p0).map .t)), (2, [.t (.int .i64 0), .t (.int .i64 0), .nil]), (3, [.t (.int .i64 p0.fFrom), .t (.int .i64 0), .nil])], []⟩ ?_
  refine Wp.srg [] [] ?_
  refine Runs.alln ?_
  refine Wp.fg ⟨[(1, .obj 1 0), (2, .obj 2 0), (3, .obj 3 0)], [(1, ((Packet.enc p0).map .t)), (2, [.t (.int .i64 0), .t (.int .i64 0), .nil]), (3, [.t (.int .i64 p0.fFrom), .t (.int .i64 p0.fTo), .nil])], []⟩ ?_
  refine Wp.srg [] [] ?_
  refine Runs.batch 2 kr ?_
  obtain ⟨r1, e_r1, h⟩ := bind_some h
  refine Runs.callK false 12 13 [] [.t (.sl 1 (p0.fB.map (eInt .u8)))] _ _ _ rfl rfl kr kr kr kr kr (laws_toByteS_ok u p0.fB r1 e_r1) kr ?_
  refine Runs.alln ?_
  refine Wp.fg ⟨[(2, .obj 2 0), (3, .obj 3 0)], [(2, [.t (.int .i64 0), .t (.int .i64 0), .nil]), (3, [.t (.int .i64 p0.fFrom), .t (.int .i64 p0.fTo), .own 786432])], [(786432, .live 5 1 (r1.map (eInt .u8)))]⟩ ?_
  refine Wp.srg [] [] ?_
  refine Runs.alln ?_
  refine Wp.fg ⟨[(2, .obj 2 0)], [(2, [.t (.int .i64 p0.fFrom), .t (.int .i64 p0.fTo), .own 786432])], [(786432, .live 5 1 (r1.map (eInt .u8)))]⟩ ?_
  refine Wp.ret ?_
  obtain rfl := Option.some.inj h
  exact RetK [.agg [.t (.int .i64 p0.fFrom), .t (.int .i64 p0.fTo), .own 786432]] _ [] kr kr (.refl _) .nil
theorem spec_NumText_ok (u : Nat) (p0 : Int) (r : ByteArray) (h : spec_NumText u p0 = some r) : CallOK Tryd.prog 10 [.one (.t (.int .i64 p0))] (.one (.t (.str r))) [] := by
  unfold spec_NumText at h
  refine CallOK.of_bodyK (fn := Tryd.f10) (m := false) [.t (.int .i64 p0)] kr rfl kr kr kr kr kr ?_
  refine Wp.srg [] [] ?_
  refine Runs.alln ?_
  refine Wp.fg ⟨[(0, .t (.int .i64 p0)), (2, .t (.str ((ByteArray.mk #[]))))], [], []⟩ ?_
  refine Wp.seq ?_
  refine Wp.srg [] [] ?_
  refine Runs.alln ?_
  refine Wp.fg ⟨[(0, .t (.int .i64 p0)), (2, .t (.str ((ByteArray.mk #[])))), (7, .t (.bool (p0 == 0)))], [], []⟩ ?_
  refine Wp.cond2 (b := p0 == 0) kr (fun hc => ?_) (fun hc => ?_)
  · have h := cond_t h hc
    refine Wp.srg [] [] ?_
    refine Runs.alln ?_
    refine Wp.fg ⟨[(0, .t (.int .i64 p0)), (2, .t (.str ((ByteArray.mk #[48]))))], [], []⟩ ?_
    refine Wp.ret ?_
    refine thenR ?_
    obtain rfl := Option.some.inj h
    exact RetK [.t (.str ((ByteArray.mk #[48])))] _ [] kr kr (.refl _) .nil
  have h := cond_f h hc
  refine Wp.skip (thenN ?_)
  refine Wp.srg [] [] ?_
  refine Runs.alln ?_
  refine Wp.fg ⟨[(0, .t (.int .i64 p0)), (2, .t (.str ((ByteArray.mk #[])))), (3, .t (.str ((ByteArray.mk #[]))))], [], []⟩ ?_
  refine Wp.seqJ (α := Int × ByteArray) (fun a => ⟨[(0, .t (.int .i64 a.1)), (2, .t (.str ((ByteArray.mk #[])))), (3, .t (.str a.2))], [], []⟩) (fun a => spec_NumText_j1 u a.1 a.2 = some r) ?_ ?_
  · rintro ⟨p0, x8⟩ h
    change spec_NumText_j1 u p0 x8 = some r at h
    unfold spec_NumText_j1 at h
    refine Wp.seq ?_
    refine Wp.srg [] [] ?_
    refine Runs.alln ?_
    refine Wp.fg ⟨[(2, .t (.str ((ByteArray.mk #[])))), (3, .t (.str x8)), (27, .t (.bool (decide (p0 < 0))))], [], []⟩ ?_
    refine Wp.cond2 (b := decide (p0 < 0)) kr (fun hc => ?_) (fun hc => ?_)
    · have h := cond_t h hc
      refine Wp.srg [] [] ?_
      refine Runs.batch 1 kr ?_
      obtain ⟨_, e_9, h⟩ := bind_some h
      refine Runs.cat ((ByteArray.mk #[45])) x8 rfl kr kr kr kr (of_decide_eq_true (chk_some e_9)) ?_
      refine Runs.alln ?_
      refine Wp.fg ⟨[(2, .t (.str (((ByteArray.mk #[45])) ++ x8))), (3, .t (.str x8))], [], []⟩ ?_
      refine Wp.ret ?_
      refine thenR ?_
      obtain rfl := Option.some.inj h
      exact RetK [.t (.str (((ByteArray.mk #[45])) ++ x8))] _ [] kr kr (.refl _) .nil
    have h := cond_f h hc
    refine Wp.skip (thenN ?_)
    refine Wp.srg [] [] ?_
    refine Runs.alln ?_
    refine Wp.fg ⟨[(2, .t (.str x8))], [], []⟩ ?_
    refine Wp.ret ?_
    obtain rfl := Option.some.inj h
    exact RetK [.t (.str x8)] _ [] kr kr (.refl _) .nil
  · refine Wp.srg [] [] ?_
    refine Runs.alln ?_
    refine Wp.fg ⟨[(0, .t (.int .i64 p0)), (2, .t (.str ((ByteArray.mk #[])))), (3, .t (.str ((ByteArray.mk #[])))), (4, .t (.int .i64 p0))], [], []⟩ ?_
    refine Wp.block ?_
    refine Wp.loopF (α := Int × ByteArray × Int) (fun a => ⟨[(0, .t (.int .i64 a.1)), (2, .t (.str ((ByteArray.mk #[])))), (3, .t (.str a.2.1)), (4, .t (.int .i64 a.2.2))], [], []⟩) (fun k_spec_NumText_l2 a => spec_NumText_l2 u k_spec_NumText_l2 a.1 a.2.1 a.2.2 = some r) ?_ ?_ u (p0, (ByteArray.mk #[]), p0) h (Le.of (mo := []) (mr := []) kr kr kr kr)
    · intro a h; unfold spec_NumText_l2 at h; cases h
    · rintro k_spec_NumText_l2 ⟨p0, x3, x4⟩ h
      change spec_NumText_l2 u (k_spec_NumText_l2 + 1) p0 x3 x4 = some r at h
      rw [spec_NumText_l2] at h
      refine Wp.seq ?_
      refine Wp.srg [] [] ?_
      refine Runs.alln ?_
      refine Wp.fg ⟨[(0, .t (.int .i64 p0)), (2, .t (.str ((ByteArray.mk #[])))), (3, .t (.str x3)), (4, .t (.int .i64 x4)), (10, .t (.bool (x4 != 0)))], [], []⟩ ?_
      refine Wp.cond2 (b := x4 != 0) kr (fun hc => ?_) (fun hc => ?_)
      · have h := cond_t h hc
        refine Wp.skip (thenN ?_)
        refine Wp.seq ?_
        refine Wp.block ?_
        refine Wp.srg [] [] ?_
        refine Runs.alln ?_
        refine Wp.fg ⟨[(0, .t (.int .i64 p0)), (2, .t (.str ((ByteArray.mk #[])))), (3, .t (.str x3)), (4, .t (.int .i64 x4)), (5, .t (.int .i64 (bRem .i64 x4 10)))], [], []⟩ ?_
        refine Wp.seqJ (α := Int × ByteArray × Int × Int) (fun a => ⟨[(0, .t (.int .i64 a.1)), (2, .t (.str ((ByteArray.mk #[])))), (3, .t (.str a.2.1)), (4, .t (.int .i64 a.2.2.1)), (5, .t (.int .i64 a.2.2.2))], [], []⟩) (fun a => spec_NumText_j3 u (fun z0 z1 z2 => spec_NumText_l2 u k_spec_NumText_l2 z0 z1 z2) a.1 a.2.1 a.2.2.1 a.2.2.2 = some r) ?_ ?_
        · rintro ⟨p0, x3, x4, x7⟩ h
          change spec_NumText_j3 u (fun z0 z1 z2 => spec_NumText_l2 u k_spec_NumText_l2 z0 z1 z2) p0 x3 x4 x7 = some r at h
          unfold spec_NumText_j3 at h
          refine Wp.rg [] [] ?_
          refine Runs.batch 4 kr ?_
          refine Runs.bytesStr (y := .own 1441792) (e := 5) ([IntKind.wrap .u8 (bAdd .i64 48 x7)]) 1 rfl kr kr kr kr kr kr kr ?_
          refine Runs.batch 1 kr ?_
          obtain ⟨_, e_8, h⟩ := bind_some h
          refine Runs.cat (strOfNums ([IntKind.wrap .u8 (bAdd .i64 48 x7)])) x3 rfl kr kr kr kr (of_decide_eq_true (chk_some e_8)) ?_
          refine Runs.all kr ?_
          refine blkN ?_
          refine thenN ?_
          refine Wp.rg [] [] ?_
          refine Runs.alln ?_
          exact ⟨(p0, (strOfNums ([IntKind.wrap .u8 (bAdd .i64 48 x7)])) ++ x3, bQuo .i64 x4 10), h, Le.of (mo := []) (mr := []) kr kr kr kr⟩
        · refine Wp.srg [] [] ?_
          refine Runs.alln ?_
          refine Wp.fg ⟨[(0, .t (.int .i64 p0)), (2, .t (.str ((ByteArray.mk #[])))), (3, .t (.str x3)), (4, .t (.int .i64 x4)), (5, .t (.int .i64 (bRem .i64 x4 10))), (16, .t (.bool (decide ((bRem .i64 x4 10) < 0))))], [], []⟩ ?_
          refine Wp.cond2 (b := decide ((bRem .i64 x4 10) < 0)) kr (fun hc => ?_) (fun hc => ?_)
          · have h := cond_t h hc
            refine Wp.rg [] [] ?_
            refine Runs.alln ?_
            exact ⟨(p0, x3, x4, bSub .i64 0 (bRem .i64 x4 10)), h, Le.of (mo := []) (mr := []) kr kr kr kr⟩
          have h := cond_f h hc
          refine Wp.skip (thenN ?_)
          exact ⟨(p0, x3, x4, bRem .i64 x4 10), h, Le.of (mo := []) (mr := []) kr kr kr kr⟩
      have h := cond_f h hc
      refine Wp.exit ?_
      refine thenE ?_
      refine thenE ?_
      refine blkE ?_
      refine thenN ?_
      exact ⟨(p0, x3), h, Le.of (mo := []) (mr := []) kr kr kr kr⟩
theorem spec_GetVar_ok (u : Nat) (p0 : List Int) (p1 : Int) (r : Int × Int × Bool) (h : spec_GetVar u p0 p1 = some r) : CallOK Tryd.prog 18 [.one (.t (.sl 1 (p0.map (eInt .u8)))), .one (.t (.int .i64 p1))] (.tup [.one (.t (.int .i64 r.1)), .one (.t (.int .i64 r.2.1)), .one (.t (.bool r.2.2))]) [] := by
  unfold spec_GetVar at h
  refine CallOK.of_bodyK (fn := Tryd.f18) (m := false) [.t (.sl 1 (p0.map (eInt .u8))), .t (.int .i64 p1)] kr rfl kr kr kr kr kr ?_
  refine Wp.srg [] [] ?_
  refine Runs.alln ?_
  refine Wp.fg ⟨[(0, .t (.sl 1 (p0.map (eInt .u8)))), (1, .t (.int .i64 p1)), (4, .t (.int .i64 0)), (5, .t (.int .i64 0)), (6, .t (.bool false))], [], []⟩ ?_
  refine Wp.srg [] [] ?_
  refine Runs.alln ?_
  refine Wp.fg ⟨[(0, .t (.sl 1 (p0.map (eInt .u8)))), (1, .t (.int .i64 p1)), (4, .t (.int .i64 0)), (5, .t (.int .i64 0)), (6, .t (.bool false)), (7, .t (.int .i64 0))], [], []⟩ ?_
  refine Wp.seqJ (α := Unit) (fun a => ⟨[(4, .t (.int .i64 0)), (5, .t (.int .i64 0)), (6, .t (.bool false))], [], []⟩) (fun a => spec_GetVar_j1 u = some r) ?_ ?_
  · rintro ⟨⟩ h
    change spec_GetVar_j1 u = some r at h
    unfold spec_GetVar_j1 at h
    refine Wp.srg [] [] ?_
    refine Runs.alln ?_
    refine Wp.fg ⟨[(4, .t (.int .i64 0)), (5, .t (.int .i64 0)), (6, .t (.bool false))], [], []⟩ ?_
    refine Wp.ret ?_
    obtain rfl := Option.some.inj h
    exact RetK [.t (.int .i64 0), .t (.int .i64 0), .t (.bool false)] _ [] kr kr (.refl _) .nil
  · refine Wp.srg [] [] ?_
    refine Runs.alln ?_
    refine Wp.fg ⟨[(0, .t (.sl 1 (p0.map (eInt .u8)))), (1, .t (.int .i64 p1)), (4, .t (.int .i64 0)), (5, .t (.int .i64 0)), (6, .t (.bool false)), (7, .t (.int .i64 0)), (8, .t (.int .i64 0))], [], []⟩ ?_
    refine Wp.block ?_
    refine Wp.loopF (α := (List Int) × Int × Int × Int) (fun a => ⟨[(0, .t (.sl 1 (a.1.map (eInt .u8)))), (1, .t (.int .i64 a.2.1)), (4, .t (.int .i64 0)), (5, .t (.int .i64 0)), (6, .t (.bool false)), (7, .t (.int .i64 a.2.2.1)), (8, .t (.int .i64 a.2.2.2))], [], []⟩) (fun k_spec_GetVar_l2 a => spec_GetVar_l2 u k_spec_GetVar_l2 a.1 a.2.1 a.2.2.1 a.2.2.2 = some r) ?_ ?_ u (p0, p1, 0, 0) h (Le.of (mo := []) (mr := []) kr kr kr kr)
    · intro a h; unfold spec_GetVar_l2 at h; cases h
    · rintro k_spec_GetVar_l2 ⟨p0, p1, x3, x4⟩ h
      change spec_GetVar_l2 u (k_spec_GetVar_l2 + 1) p0 p1 x3 x4 = some r at h
      rw [spec_GetVar_l2] at h
      refine Wp.seq ?_
      refine Wp.srg [] [] ?_
      refine Runs.alln ?_
      refine Wp.fg ⟨[(0, .t (.sl 1 (p0.map (eInt .u8)))), (1, .t (.int .i64 p1)), (4, .t (.int .i64 0)), (5, .t (.int .i64 0)), (6, .t (.bool false)), (7, .t (.int .i64 x3)), (8, .t (.int .i64 x4)), (11, .t (.bool (decide (x4 < 6))))], [], []⟩ ?_
      refine Wp.cond2 (b := decide (x4 < 6)) kr (fun hc => ?_) (fun hc => ?_)
      · have h := cond_t h hc
        refine Wp.skip (thenN ?_)
        refine Wp.seq ?_
        refine Wp.block ?_
        refine Wp.seq ?_
        refine Wp.seqJ (α := (List Int) × Int × Int × Int × Bool) (fun a => ⟨[(0, .t (.sl 1 (a.1.map (eInt .u8)))), (1, .t (.int .i64 a.2.1)), (4, .t (.int .i64 0)), (5, .t (.int .i64 0)), (6, .t (.bool false)), (7, .t (.int .i64 a.2.2.1)), (8, .t (.int .i64 a.2.2.2.1)), (23, .t (.bool a.2.2.2.2))], [], []⟩) (fun a => spec_GetVar_j3 u (fun z0 z1 z2 z3 => spec_GetVar_l2 u k_spec_GetVar_l2 z0 z1 z2 z3) a.1 a.2.1 a.2.2.1 a.2.2.2.1 a.2.2.2.2 = some r) ?_ ?_
        · rintro ⟨p0, p1, x3, x4, x7⟩ h
          change spec_GetVar_j3 u (fun z0 z1 z2 z3 => spec_GetVar_l2 u k_spec_GetVar_l2 z0 z1 z2 z3) p0 p1 x3 x4 x7 = some r at h
          unfold spec_GetVar_j3 at h
          refine Wp.cond2 (b := x7) kr (fun hc => ?_) (fun hc => ?_)
          · have h := cond_t h hc
            refine Wp.srg [] [] ?_
            refine Runs.alln ?_
            refine Wp.fg ⟨[(0, .t (.sl 1 (p0.map (eInt .u8)))), (1, .t (.int .i64 p1)), (4, .t (.int .i64 0)), (5, .t (.int .i64 0)), (6, .t (.bool false)), (7, .t (.int .i64 x3)), (8, .t (.int .i64 x4))], [], []⟩ ?_
            refine Wp.ret ?_
            refine thenR ?_
            refine blkR ?_
            refine thenR ?_
            refine thenR ?_
            refine blkR ?_
            refine thenR ?_
            obtain rfl := Option.some.inj h
            exact RetK [.t (.int .i64 0), .t (.int .i64 0), .t (.bool false)] _ [] kr kr (.refl _) .nil
          have h := cond_f h hc
          refine Wp.skip (thenN ?_)
          refine Wp.srg [] [] ?_
          refine Runs.batch 4 kr ?_
          obtain ⟨y8, e_y8, h⟩ := bind_some h
          refine Runs.idxT (e := 5) (kk := .i64) (sz := 1) (eInt .u8) p0 (bAdd .i64 p1 x4) rfl kr kr kr kr kr kr e_y8 ?_
          refine Runs.alln ?_
          refine Wp.fg ⟨[(0, .t (.sl 1 (p0.map (eInt .u8)))), (1, .t (.int .i64 p1)), (4, .t (.int .i64 0)), (5, .t (.int .i64 0)), (6, .t (.bool false)), (7, .t (.int .i64 x3)), (8, .t (.int .i64 x4)), (9, .t (.int .i64 (IntKind.wrap .i64 y8)))], [], []⟩ ?_
          refine Wp.srg [] [] ?_
          refine Runs.batch 5 kr ?_
          obtain ⟨_, e_9, h⟩ := bind_some h
          refine Runs.num .shl (.int .i64 (bAnd .i64 (IntKind.wrap .i64 y8) 127)) (.int .i64 (bMul .i64 7 x4)) (.int .i64 (bShl .i64 (bAnd .i64 (IntKind.wrap .i64 y8) 127) (bMul .i64 7 x4))) rfl kr kr kr kr (bin_shl _ _ _ _ _ (chk_some e_9)) ?_
          refine Runs.alln ?_
          refine Wp.fg ⟨[(0, .t (.sl 1 (p0.map (eInt .u8)))), (1, .t (.int .i64 p1)), (4, .t (.int .i64 0)), (5, .t (.int .i64 0)), (6, .t (.bool false)), (7, .t (.int .i64 (bOr .i64 x3 (bShl .i64 (bAnd .i64 (IntKind.wrap .i64 y8) 127) (bMul .i64 7 x4))))), (8, .t (.int .i64 x4)), (9, .t (.int .i64 (IntKind.wrap .i64 y8)))], [], []⟩ ?_
          refine Wp.srg [] [] ?_
          refine Runs.alln ?_
          refine Wp.fg ⟨[(0, .t (.sl 1 (p0.map (eInt .u8)))), (1, .t (.int .i64 p1)), (4, .t (.int .i64 0)), (5, .t (.int .i64 0)), (6, .t (.bool false)), (7, .t (.int .i64 (bOr .i64 x3 (bShl .i64 (bAnd .i64 (IntKind.wrap .i64 y8) 127) (bMul .i64 7 x4))))), (8, .t (.int .i64 x4)), (9, .t (.int .i64 (IntKind.wrap .i64 y8))), (39, .t (.bool (decide ((IntKind.wrap .i64 y8) < 128))))], [], []⟩ ?_
          refine Wp.cond2 (b := decide ((IntKind.wrap .i64 y8) < 128)) kr (fun hc => ?_) (fun hc => ?_)
          · have h := cond_t h hc
            refine Wp.seq ?_
            refine Wp.seqJ (α := (List Int) × Int × Int × Int × Int × Bool) (fun a => ⟨[(0, .t (.sl 1 (a.1.map (eInt .u8)))), (1, .t (.int .i64 a.2.1)), (4, .t (.int .i64 0)), (5, .t (.int .i64 0)), (6, .t (.bool false)), (7, .t (.int .i64 (bOr .i64 a.2.2.1 (bShl .i64 (bAnd .i64 (IntKind.wrap .i64 a.2.2.2.1) 127) (bMul .i64 7 a.2.2.2.2.1))))), (8, .t (.int .i64 a.2.2.2.2.1)), (49, .t (.bool a.2.2.2.2.2))], [], []⟩) (fun a => spec_GetVar_j4 u (fun z0 z1 z2 z3 => spec_GetVar_l2 u k_spec_GetVar_l2 z0 z1 z2 z3) a.1 a.2.1 a.2.2.1 a.2.2.2.1 a.2.2.2.2.1 a.2.2.2.2.2 = some r) ?_ ?_
            · rintro ⟨p0, p1, x3, y8, x4, x10⟩ h
              change spec_GetVar_j4 u (fun z0 z1 z2 z3 => spec_GetVar_l2 u k_spec_GetVar_l2 z0 z1 z2 z3) p0 p1 x3 y8 x4 x10 = some r at h
              unfold spec_GetVar_j4 at h
              refine Wp.cond2 (b := x10) kr (fun hc => ?_) (fun hc => ?_)
              · have h := cond_t h hc
                refine Wp.srg [] [] ?_
                refine Runs.alln ?_
                refine Wp.fg ⟨[(0, .t (.sl 1 (p0.map (eInt .u8)))), (1, .t (.int .i64 p1)), (4, .t (.int .i64 0)), (5, .t (.int .i64 0)), (6, .t (.bool false)), (7, .t (.int .i64 (bOr .i64 x3 (bShl .i64 (bAnd .i64 (IntKind.wrap .i64 y8) 127) (bMul .i64 7 x4))))), (8, .t (.int .i64 x4))], [], []⟩ ?_
                refine Wp.ret ?_
                refine thenR ?_
                refine blkR ?_
                refine thenR ?_
                refine thenR ?_
                refine blkR ?_
                refine thenR ?_
                obtain rfl := Option.some.inj h
                exact RetK [.t (.int .i64 0), .t (.int .i64 0), .t (.bool false)] _ [] kr kr (.refl _) .nil
              have h := cond_f h hc
              refine Wp.skip (thenN ?_)
              refine Wp.srg [] [] ?_
              refine Runs.alln ?_
              refine Wp.fg ⟨[(0, .t (.sl 1 (p0.map (eInt .u8)))), (1, .t (.int .i64 p1)), (4, .t (.int .i64 (bOr .i64 x3 (bShl .i64 (bAnd .i64 (IntKind.wrap .i64 y8) 127) (bMul .i64 7 x4))))), (5, .t (.int .i64 (bAdd .i64 (bAdd .i64 p1 x4) 1))), (6, .t (.bool true)), (7, .t (.int .i64 (bOr .i64 x3 (bShl .i64 (bAnd .i64 (IntKind.wrap .i64 y8) 127) (bMul .i64 7 x4))))), (8, .t (.int .i64 x4))], [], []⟩ ?_
              refine Wp.ret ?_
              refine blkR ?_
              refine thenR ?_
              refine thenR ?_
              refine blkR ?_
              refine thenR ?_
              obtain rfl := Option.some.inj h
              exact RetK [.t (.int .i64 (bOr .i64 x3 (bShl .i64 (bAnd .i64 (IntKind.wrap .i64 y8) 127) (bMul .i64 7 x4)))), .t (.int .i64 (bAdd .i64 (bAdd .i64 p1 x4) 1)), .t (.bool true)] _ [] kr kr (.refl _) .nil
            · refine Wp.rg [] [] ?_
              refine Runs.batch 3 kr ?_
              rcases tf ((IntKind.wrap .i64 y8) == 0) with hc | hc
              · have h := cond_t h hc
                refine Runs.known 42 (v := true) kr hc ?_
                refine Runs.batch 4 kr ?_
                rcases tf (decide (x4 > 0)) with hc | hc
                · have h := cond_t h hc
                  refine Runs.known 46 (v := true) kr hc ?_
                  refine Runs.alln ?_
                  exact ⟨(p0, p1, x3, y8, x4, true), h, Le.of (mo := []) (mr := []) kr kr kr kr⟩
                have h := cond_f h hc
                refine Runs.known 46 (v := false) kr hc ?_
                refine Runs.alln ?_
                exact ⟨(p0, p1, x3, y8, x4, decide ((bOr .i64 x3 (bShl .i64 (bAnd .i64 (IntKind.wrap .i64 y8) 127) (bMul .i64 7 x4))) > 1000000000000)), h, Le.of (mo := []) (mr := []) kr kr kr kr⟩
              have h := cond_f h hc
              refine Runs.known 42 (v := false) kr hc ?_
              refine Runs.alln ?_
              exact ⟨(p0, p1, x3, y8, x4, decide ((bOr .i64 x3 (bShl .i64 (bAnd .i64 (IntKind.wrap .i64 y8) 127) (bMul .i64 7 x4))) > 1000000000000)), h, Le.of (mo := []) (mr := []) kr kr kr kr⟩
          have h := cond_f h hc
          refine Wp.skip ?_
          refine blkN ?_
          refine thenN ?_
          refine Wp.rg [] [] ?_
          refine Runs.alln ?_
          exact ⟨(p0, p1, bOr .i64 x3 (bShl .i64 (bAnd .i64 (IntKind.wrap .i64 y8) 127) (bMul .i64 7 x4)), bAdd .i64 x4 1), h, Le.of (mo := []) (mr := []) kr kr kr kr⟩
        · refine Wp.rg [] [] ?_
          refine Runs.batch 3 kr ?_
          rcases tf (decide (p1 < 0)) with hc | hc
          · have h := cond_t h hc
            refine Runs.known 16 (v := true) kr hc ?_
            refine Runs.alln ?_
            exact ⟨(p0, p1, x3, x4, true), h, Le.of (mo := []) (mr := []) kr kr kr kr⟩
          have h := cond_f h hc
          refine Runs.known 16 (v := false) kr hc ?_
          refine Runs.batch 2 kr ?_
          refine Runs.lenT (y := .t (.sl 1 (p0.map (eInt .u8)))) (e := 5) (eInt .u8) p0 1 rfl rfl rfl kr kr kr kr kr ?_
          refine Runs.alln ?_
          exact ⟨(p0, p1, x3, x4, decide (p1 ≥ (bSub .i64 ((p0.length : Int)) x4))), h, Le.of (mo := []) (mr := []) kr kr kr kr⟩
      have h := cond_f h hc
      refine Wp.exit ?_
      refine thenE ?_
      refine thenE ?_
      refine blkE ?_
      refine thenN ?_
      exact ⟨(), h, Le.of (mo := []) (mr := []) kr kr kr kr⟩
theorem spec_l1In_ok (u : Nat) (p0 : Int) (p1 : Int) (p2 : Int) (r : Bool) (h : spec_l1In u p0 p1 p2 = some r) : CallOK Tryd.prog 34 [.one (.t (.int .i64 p0)), .one (.t (.int .i64 p1)), .one (.t (.int .i64 p2))] (.one (.t (.bool r))) [] := by
  unfold spec_l1In at h
  refine CallOK.of_bodyK (fn := Tryd.f34) (m := false) [.t (.int .i64 p0), .t (.int .i64 p1), .t (.int .i64 p2)] kr rfl kr kr kr kr kr ?_
  refine Wp.srg [] [] ?_
  refine Runs.alln ?_
  refine Wp.fg ⟨[(0, .t (.int .i64 p0)), (1, .t (.int .i64 p1)), (2, .t (.int .i64 p2)), (6, .t (.bool false))], [], []⟩ ?_
  refine Wp.srg [] [] ?_
  refine Runs.batch 4 kr ?_
  rcases tf (decide (p0 ≥ p1)) with hc | hc
  · have h := cond_t h hc
    refine Runs.known 10 (v := true) kr hc ?_
    refine Runs.alln ?_
    refine Wp.fg ⟨[(6, .t (.bool (decide (p0 ≤ p2))))], [], []⟩ ?_
    refine Wp.ret ?_
    obtain rfl := Option.some.inj h
    exact RetK [.t (.bool (decide (p0 ≤ p2)))] _ [] kr kr (.refl _) .nil
  have h := cond_f h hc
  refine Runs.known 10 (v := false) kr hc ?_
  refine Runs.alln ?_
  refine Wp.fg ⟨[(6, .t (.bool false))], [], []⟩ ?_
  refine Wp.ret ?_
  obtain rfl := Option.some.inj h
  exact RetK [.t (.bool false)] _ [] kr kr (.refl _) .nil
theorem spec_SizeOk_ok (u : Nat) (p0 : Int) (p1 : Int) (r : Bool) (h : spec_SizeOk u p0 p1 = some r) : CallOK Tryd.prog 60 [.one (.t (.int .i64 p0)), .one (.t (.int .i64 p1))] (.one (.t (.bool r))) [] := by
  unfold spec_SizeOk at h
  refine CallOK.of_bodyK (fn := Tryd.f60) (m := false) [.t (.int .i64 p0), .t (.int .i64 p1)] kr rfl kr kr kr kr kr ?_
  refine Wp.srg [] [] ?_
  refine Runs.alln ?_
  refine Wp.fg ⟨[(0, .t (.int .i64 p0)), (1, .t (.int .i64 p1)), (4, .t (.bool false))], [], []⟩ ?_
  refine Wp.srg [] [] ?_
  refine Runs.batch 1 kr ?_
  obtain ⟨r1, e_r1, h⟩ := bind_some h
  refine Runs.callK false 6 34 [] [.t (.int .i64 p0), .t (.int .i64 2), .t (.int .i64 6)] _ _ _ rfl rfl kr kr kr kr kr (spec_l1In_ok u p0 2 6 r1 e_r1) kr ?_
  refine Runs.batch 1 kr ?_
  rcases tf (r1) with hc | hc
  · have h := cond_t h hc
    refine Runs.known 7 (v := true) kr hc ?_
    refine Runs.batch 3 kr ?_
    obtain ⟨r2, e_r2, h⟩ := bind_some h
    refine Runs.callK false 11 34 [] [.t (.int .i64 p1), .t (.int .i64 0), .t (.int .i64 (bMul .i64 p0 40))] _ _ _ rfl rfl kr kr kr kr kr (spec_l1In_ok u p1 0 (bMul .i64 p0 40) r2 e_r2) kr ?_
    refine Runs.alln ?_
    refine Wp.fg ⟨[(4, .t (.bool r2))], [], []⟩ ?_
    refine Wp.ret ?_
    obtain rfl := Option.some.inj h
    exact RetK [.t (.bool r2)] _ [] kr kr (.refl _) .nil
  have h := cond_f h hc
  refine Runs.known 7 (v := false) kr hc ?_
  refine Runs.alln ?_
  refine Wp.fg ⟨[(4, .t (.bool false))], [], []⟩ ?_
  refine Wp.ret ?_
  obtain rfl := Option.some.inj h
  exact RetK [.t (.bool false)] _ [] kr kr (.refl _) .nil
theorem spec_CeilDiv_ok (u : Nat) (p0 : Int) (p1 : Int) (r : Int) (h : spec_CeilDiv u p0 p1 = some r) : CallOK Tryd.prog 73 [.one (.t (.int .i64 p0)), .one (.t (.int .i64 p1))] (.one (.t (.int .i64 r))) [] := by
  unfold spec_CeilDiv at h
  refine CallOK.of_bodyK (fn := Tryd.f73) (m := false) [.t (.int .i64 p0), .t (.int .i64 p1)] kr rfl kr kr kr kr kr ?_
  refine Wp.srg [] [] ?_
  refine Runs.alln ?_
  refine Wp.fg ⟨[(0, .t (.int .i64 p0)), (1, .t (.int .i64 p1)), (4, .t (.int .i64 0))], [], []⟩ ?_
  refine Wp.seq ?_
  refine Wp.seqJ (α := Int × Int × Bool) (fun a => ⟨[(0, .t (.int .i64 a.1)), (1, .t (.int .i64 a.2.1)), (4, .t (.int .i64 0)), (12, .t (.bool a.2.2))], [], []⟩) (fun a => spec_CeilDiv_j1 u a.1 a.2.1 a.2.2 = some r) ?_ ?_
  · rintro ⟨p0, p1, x3⟩ h
    change spec_CeilDiv_j1 u p0 p1 x3 = some r at h
    unfold spec_CeilDiv_j1 at h
    refine Wp.cond2 (b := x3) kr (fun hc => ?_) (fun hc => ?_)
    · have h := cond_t h hc
      refine Wp.srg [] [] ?_
      refine Runs.alln ?_
      refine Wp.fg ⟨[(0, .t (.int .i64 p0)), (1, .t (.int .i64 p1)), (4, .t (.int .i64 0))], [], []⟩ ?_
      refine Wp.ret ?_
      refine thenR ?_
      obtain rfl := Option.some.inj h
      exact RetK [.t (.int .i64 0)] _ [] kr kr (.refl _) .nil
    have h := cond_f h hc
    refine Wp.skip (thenN ?_)
    refine Wp.srg [] [] ?_
    refine Runs.batch 5 kr ?_
    obtain ⟨_, e_4, h⟩ := bind_some h
    refine Runs.num .quo (.int .i64 (bSub .i64 (bAdd .i64 p0 p1) 1)) (.int .i64 p1) (.int .i64 (bQuo .i64 (bSub .i64 (bAdd .i64 p0 p1) 1) p1)) rfl kr kr kr kr (bin_quo _ _ _ _ (by simpa using chk_some e_4)) ?_
    refine Runs.alln ?_
    refine Wp.fg ⟨[(4, .t (.int .i64 (bQuo .i64 (bSub .i64 (bAdd .i64 p0 p1) 1) p1)))], [], []⟩ ?_
    refine Wp.ret ?_
    obtain rfl := Option.some.inj h
    exact RetK [.t (.int .i64 (bQuo .i64 (bSub .i64 (bAdd .i64 p0 p1) 1) p1))] _ [] kr kr (.refl _) .nil
  · refine Wp.rg [] [] ?_
    refine Runs.batch 1 kr ?_
    obtain ⟨r1, e_r1, h⟩ := bind_some h
    refine Runs.callK false 6 34 [] [.t (.int .i64 p0), .t (.int .i64 0), .t (.int .i64 1000000000000)] _ _ _ rfl rfl kr kr kr kr kr (spec_l1In_ok u p0 0 1000000000000 r1 e_r1) kr ?_
    refine Runs.batch 2 kr ?_
    rcases tf (!r1) with hc | hc
    · have h := cond_t h hc
      refine Runs.known 8 (v := true) kr hc ?_
      refine Runs.alln ?_
      exact ⟨(p0, p1, true), h, Le.of (mo := []) (mr := []) kr kr kr kr⟩
    have h := cond_f h hc
    refine Runs.known 8 (v := false) kr hc ?_
    refine Runs.batch 1 kr ?_
    obtain ⟨r2, e_r2, h⟩ := bind_some h
    refine Runs.callK false 10 34 [] [.t (.int .i64 p1), .t (.int .i64 1), .t (.int .i64 1000000000000)] _ _ _ rfl rfl kr kr kr kr kr (spec_l1In_ok u p1 1 1000000000000 r2 e_r2) kr ?_
    refine Runs.alln ?_
    exact ⟨(p0, p1, !r2), h, Le.of (mo := []) (mr := []) kr kr kr kr⟩
theorem spec_Blocks_ok (u : Nat) (p0 : Int) (p1 : Int) (r : Int) (h : spec_Blocks u p0 p1 = some r) : CallOK Tryd.prog 55 [.one (.t (.int .i64 p0)), .one (.t (.int .i64 p1))] (.one (.t (.int .i64 r))) [] := by
  unfold spec_Blocks at h
  refine CallOK.of_bodyK (fn := Tryd.f55) (m := false) [.t (.int .i64 p0), .t (.int .i64 p1)] kr rfl kr kr kr kr kr ?_
  refine Wp.srg [] [] ?_
  refine Runs.alln ?_
  refine Wp.fg ⟨[(0, .t (.int .i64 p0)), (1, .t (.int .i64 p1)), (4, .t (.int .i64 0))], [], []⟩ ?_
  refine Wp.seq ?_
  refine Wp.srg [] [] ?_
  refine Runs.batch 2 kr ?_
  obtain ⟨r1, e_r1, h⟩ := bind_some h
  refine Runs.callK false 7 60 [] [.t (.int .i64 p0), .t (.int .i64 p1)] _ _ _ rfl rfl kr kr kr kr kr (spec_SizeOk_ok u p0 p1 r1 e_r1) kr ?_
  refine Runs.alln ?_
  refine Wp.fg ⟨[(0, .t (.int .i64 p0)), (1, .t (.int .i64 p1)), (4, .t (.int .i64 0)), (8, .t (.bool (!r1)))], [], []⟩ ?_
  refine Wp.cond2 (b := !r1) kr (fun hc => ?_) (fun hc => ?_)
  · have h := cond_t h hc
    refine Wp.srg [] [] ?_
    refine Runs.alln ?_
    refine Wp.fg ⟨[(0, .t (.int .i64 p0)), (1, .t (.int .i64 p1)), (4, .t (.int .i64 0))], [], []⟩ ?_
    refine Wp.ret ?_
    refine thenR ?_
    obtain rfl := Option.some.inj h
    exact RetK [.t (.int .i64 0)] _ [] kr kr (.refl _) .nil
  have h := cond_f h hc
  refine Wp.skip (thenN ?_)
  refine Wp.srg [] [] ?_
  refine Runs.batch 2 kr ?_
  obtain ⟨r2, e_r2, h⟩ := bind_some h
  refine Runs.callK false 11 73 [] [.t (.int .i64 p1), .t (.int .i64 p0)] _ _ _ rfl rfl kr kr kr kr kr (spec_CeilDiv_ok u p1 p0 r2 e_r2) kr ?_
  refine Runs.alln ?_
  refine Wp.fg ⟨[(4, .t (.int .i64 r2))], [], []⟩ ?_
  refine Wp.ret ?_
  obtain rfl := Option.some.inj h
  exact RetK [.t (.int .i64 r2)] _ [] kr kr (.refl _) .nil
theorem spec_l6GetSum_ok (u : Nat) (p0 : List Int) (p1 : Int) (r : Int × Int × Bool) (h : spec_l6GetSum u p0 p1 = some r) : CallOK Tryd.prog 56 [.one (.t (.sl 1 (p0.map (eInt .u8)))), .one (.t (.int .i64 p1))] (.tup [.one (.t (.int .i64 r.1)), .one (.t (.int .i64 r.2.1)), .one (.t (.bool r.2.2))]) [] := by
  unfold spec_l6GetSum at h
  refine CallOK.of_bodyK (fn := Tryd.f56) (m := false) [.t (.sl 1 (p0.map (eInt .u8))), .t (.int .i64 p1)] kr rfl kr kr kr kr kr ?_
  refine Wp.srg [] [] ?_
  refine Runs.alln ?_
  refine Wp.fg ⟨[(0, .t (.sl 1 (p0.map (eInt .u8)))), (1, .t (.int .i64 p1)), (4, .t (.int .i64 0)), (5, .t (.int .i64 0)), (6, .t (.bool false))], [], []⟩ ?_
  refine Wp.srg [] [] ?_
  refine Runs.alln ?_
  refine Wp.fg ⟨[(0, .t (.sl 1 (p0.map (eInt .u8)))), (1, .t (.int .i64 p1)), (4, .t (.int .i64 0)), (5, .t (.int .i64 0)), (6, .t (.bool false)), (7, .t (.int .i64 0))], [], []⟩ ?_
  refine Wp.seqJ (α := Unit) (fun a => ⟨[(4, .t (.int .i64 0)), (5, .t (.int .i64 0)), (6, .t (.bool false))], [], []⟩) (fun a => spec_l6GetSum_j1 u = some r) ?_ ?_
  · rintro ⟨⟩ h
    change spec_l6GetSum_j1 u = some r at h
    unfold spec_l6GetSum_j1 at h
    refine Wp.srg [] [] ?_
    refine Runs.alln ?_
    refine Wp.fg ⟨[(4, .t (.int .i64 0)), (5, .t (.int .i64 0)), (6, .t (.bool false))], [], []⟩ ?_
    refine Wp.ret ?_
    obtain rfl := Option.some.inj h
    exact RetK [.t (.int .i64 0), .t (.int .i64 0), .t (.bool false)] _ [] kr kr (.refl _) .nil
  · refine Wp.srg [] [] ?_
    refine Runs.alln ?_
    refine Wp.fg ⟨[(0, .t (.sl 1 (p0.map (eInt .u8)))), (1, .t (.int .i64 p1)), (4, .t (.int .i64 0)), (5, .t (.int .i64 0)), (6, .t (.bool false)), (7, .t (.int .i64 0)), (8, .t (.int .i64 0))], [], []⟩ ?_
    refine Wp.block ?_
    refine Wp.loopF (α := (List Int) × Int × Int × Int) (fun a => ⟨[(0, .t (.sl 1 (a.1.map (eInt .u8)))), (1, .t (.int .i64 a.2.1)), (4, .t (.int .i64 0)), (5, .t (.int .i64 0)), (6, .t (.bool false)), (7, .t (.int .i64 a.2.2.1)), (8, .t (.int .i64 a.2.2.2))], [], []⟩) (fun k_spec_l6GetSum_l2 a => spec_l6GetSum_l2 u k_spec_l6GetSum_l2 a.1 a.2.1 a.2.2.1 a.2.2.2 = some r) ?_ ?_ u (p0, p1, 0, 0) h (Le.of (mo := []) (mr := []) kr kr kr kr)
    · intro a h; unfold spec_l6GetSum_l2 at h; cases h
    · rintro k_spec_l6GetSum_l2 ⟨p0, p1, x3, x4⟩ h
      change spec_l6GetSum_l2 u (k_spec_l6GetSum_l2 + 1) p0 p1 x3 x4 = some r at h
      rw [spec_l6GetSum_l2] at h
      refine Wp.seq ?_
      refine Wp.srg [] [] ?_
      refine Runs.alln ?_
      refine Wp.fg ⟨[(0, .t (.sl 1 (p0.map (eInt .u8)))), (1, .t (.int .i64 p1)), (4, .t (.int .i64 0)), (5, .t (.int .i64 0)), (6, .t (.bool false)), (7, .t (.int .i64 x3)), (8, .t (.int .i64 x4)), (11, .t (.bool (decide (x4 < 8))))], [], []⟩ ?_
      refine Wp.cond2 (b := decide (x4 < 8)) kr (fun hc => ?_) (fun hc => ?_)
      · have h := cond_t h hc
        refine Wp.skip (thenN ?_)
        refine Wp.seq ?_
        refine Wp.block ?_
        refine Wp.seq ?_
        refine Wp.srg [] [] ?_
        refine Runs.batch 2 kr ?_
        refine Runs.lenT (y := .t (.sl 1 (p0.map (eInt .u8)))) (e := 5) (eInt .u8) p0 1 rfl rfl rfl kr kr kr kr kr ?_
        refine Runs.alln ?_
        refine Wp.fg ⟨[(0, .t (.sl 1 (p0.map (eInt .u8)))), (1, .t (.int .i64 p1)), (4, .t (.int .i64 0)), (5, .t (.int .i64 0)), (6, .t (.bool false)), (7, .t (.int .i64 x3)), (8, .t (.int .i64 x4)), (19, .t (.bool (decide (p1 ≥ (bSub .i64 ((p0.length : Int)) x4)))))], [], []⟩ ?_
        refine Wp.cond2 (b := decide (p1 ≥ (bSub .i64 ((p0.length : Int)) x4))) kr (fun hc => ?_) (fun hc => ?_)
        · have h := cond_t h hc
          refine Wp.srg [] [] ?_
          refine Runs.alln ?_
          refine Wp.fg ⟨[(0, .t (.sl 1 (p0.map (eInt .u8)))), (1, .t (.int .i64 p1)), (4, .t (.int .i64 0)), (5, .t (.int .i64 0)), (6, .t (.bool false)), (7, .t (.int .i64 x3)), (8, .t (.int .i64 x4))], [], []⟩ ?_
          refine Wp.ret ?_
          refine thenR ?_
          refine blkR ?_
          refine thenR ?_
          refine thenR ?_
          refine blkR ?_
          refine thenR ?_
          obtain rfl := Option.some.inj h
          exact RetK [.t (.int .i64 0), .t (.int .i64 0), .t (.bool false)] _ [] kr kr (.refl _) .nil
        have h := cond_f h hc
        refine Wp.skip (thenN ?_)
        refine Wp.srg [] [] ?_
        refine Runs.batch 4 kr ?_
        obtain ⟨y7, e_y7, h⟩ := bind_some h
        refine Runs.idxT (e := 5) (kk := .i64) (sz := 1) (eInt .u8) p0 (bAdd .i64 p1 x4) rfl kr kr kr kr kr kr e_y7 ?_
        refine Runs.alln ?_
        refine Wp.fg ⟨[(0, .t (.sl 1 (p0.map (eInt .u8)))), (1, .t (.int .i64 p1)), (4, .t (.int .i64 0)), (5, .t (.int .i64 0)), (6, .t (.bool false)), (7, .t (.int .i64 x3)), (8, .t (.int .i64 x4)), (9, .t (.int .i64 (IntKind.wrap .i64 y7)))], [], []⟩ ?_
        refine Wp.srg [] [] ?_
        refine Runs.batch 5 kr ?_
        obtain ⟨_, e_8, h⟩ := bind_some h
        refine Runs.num .shl (.int .i64 (bAnd .i64 (IntKind.wrap .i64 y7) 127)) (.int .i64 (bMul .i64 7 x4)) (.int .i64 (bShl .i64 (bAnd .i64 (IntKind.wrap .i64 y7) 127) (bMul .i64 7 x4))) rfl kr kr kr kr (bin_shl _ _ _ _ _ (chk_some e_8)) ?_
        refine Runs.alln ?_
        refine Wp.fg ⟨[(0, .t (.sl 1 (p0.map (eInt .u8)))), (1, .t (.int .i64 p1)), (4, .t (.int .i64 0)), (5, .t (.int .i64 0)), (6, .t (.bool false)), (7, .t (.int .i64 (bOr .i64 x3 (bShl .i64 (bAnd .i64 (IntKind.wrap .i64 y7) 127) (bMul .i64 7 x4))))), (8, .t (.int .i64 x4)), (9, .t (.int .i64 (IntKind.wrap .i64 y7)))], [], []⟩ ?_
        refine Wp.srg [] [] ?_
        refine Runs.alln ?_
        refine Wp.fg ⟨[(0, .t (.sl 1 (p0.map (eInt .u8)))), (1, .t (.int .i64 p1)), (4, .t (.int .i64 0)), (5, .t (.int .i64 0)), (6, .t (.bool false)), (7, .t (.int .i64 (bOr .i64 x3 (bShl .i64 (bAnd .i64 (IntKind.wrap .i64 y7) 127) (bMul .i64 7 x4))))), (8, .t (.int .i64 x4)), (9, .t (.int .i64 (IntKind.wrap .i64 y7))), (35, .t (.bool (decide ((IntKind.wrap .i64 y7) < 128))))], [], []⟩ ?_
        refine Wp.cond2 (b := decide ((IntKind.wrap .i64 y7) < 128)) kr (fun hc => ?_) (fun hc => ?_)
        · have h := cond_t h hc
          refine Wp.srg [] [] ?_
          refine Runs.batch 8 kr ?_
          rcases tf (decide ((IntKind.wrap .i64 y7) > 0)) with hc | hc
          · have h := cond_t h hc
            refine Runs.known 43 (v := true) kr hc ?_
            refine Runs.alln ?_
            refine Wp.fg ⟨[(0, .t (.sl 1 (p0.map (eInt .u8)))), (1, .t (.int .i64 p1)), (4, .t (.int .i64 (bOr .i64 x3 (bShl .i64 (bAnd .i64 (IntKind.wrap .i64 y7) 127) (bMul .i64 7 x4))))), (5, .t (.int .i64 (bAdd .i64 (bAdd .i64 p1 x4) 1))), (6, .t (.bool true)), (7, .t (.int .i64 (bOr .i64 x3 (bShl .i64 (bAnd .i64 (IntKind.wrap .i64 y7) 127) (bMul .i64 7 x4))))), (8, .t (.int .i64 x4))], [], []⟩ ?_
            refine Wp.ret ?_
            refine blkR ?_
            refine thenR ?_
            refine thenR ?_
            refine blkR ?_
            refine thenR ?_
            obtain rfl := Option.some.inj h
            exact RetK [.t (.int .i64 (bOr .i64 x3 (bShl .i64 (bAnd .i64 (IntKind.wrap .i64 y7) 127) (bMul .i64 7 x4)))), .t (.int .i64 (bAdd .i64 (bAdd .i64 p1 x4) 1)), .t (.bool true)] _ [] kr kr (.refl _) .nil
          have h := cond_f h hc
          refine Runs.known 43 (v := false) kr hc ?_
          refine Runs.alln ?_
          refine Wp.fg ⟨[(0, .t (.sl 1 (p0.map (eInt .u8)))), (1, .t (.int .i64 p1)), (4, .t (.int .i64 (bOr .i64 x3 (bShl .i64 (bAnd .i64 (IntKind.wrap .i64 y7) 127) (bMul .i64 7 x4))))), (5, .t (.int .i64 (bAdd .i64 (bAdd .i64 p1 x4) 1))), (6, .t (.bool (x4 == 0))), (7, .t (.int .i64 (bOr .i64 x3 (bShl .i64 (bAnd .i64 (IntKind.wrap .i64 y7) 127) (bMul .i64 7 x4))))), (8, .t (.int .i64 x4)), (44, .t (.int .i64 x4)), (45, .t (.bool (x4 == 0)))], [], []⟩ ?_
          refine Wp.ret ?_
          refine blkR ?_
          refine thenR ?_
          refine thenR ?_
          refine blkR ?_
          refine thenR ?_
          obtain rfl := Option.some.inj h
          exact RetK [.t (.int .i64 (bOr .i64 x3 (bShl .i64 (bAnd .i64 (IntKind.wrap .i64 y7) 127) (bMul .i64 7 x4)))), .t (.int .i64 (bAdd .i64 (bAdd .i64 p1 x4) 1)), .t (.bool (x4 == 0))] _ [] kr kr (.refl _) .nil
        have h := cond_f h hc
        refine Wp.skip ?_
        refine blkN ?_
        refine thenN ?_
        refine Wp.rg [] [] ?_
        refine Runs.alln ?_
        exact ⟨(p0, p1, bOr .i64 x3 (bShl .i64 (bAnd .i64 (IntKind.wrap .i64 y7) 127) (bMul .i64 7 x4)), bAdd .i64 x4 1), h, Le.of (mo := []) (mr := []) kr kr kr kr⟩
      have h := cond_f h hc
      refine Wp.exit ?_
      refine thenE ?_
      refine thenE ?_
      refine blkE ?_
      refine thenN ?_
      exact ⟨(), h, Le.of (mo := []) (mr := []) kr kr kr kr⟩
theorem spec_BytesOf_ok (u : Nat) (p0 : Int) (r : (List Int) × Bool) (h : spec_BytesOf u p0 = some r) : CallOK Tryd.prog 57 [.one (.t (.int .i64 p0))] (.tup [.one (.ow 5 1 (r.1.map (eInt .u8))), .one (.t (.bool r.2))]) [] := by
  unfold spec_BytesOf at h
  refine CallOK.of_bodyK (fn := Tryd.f57) (m := true) [.t (.int .i64 p0)] kr rfl kr kr kr kr kr ?_
  refine Wp.srg [] [] ?_
  refine Runs.alln ?_
  refine Wp.fg ⟨[(0, .t (.int .i64 p0)), (2, .nil), (3, .t (.bool false))], [], []⟩ ?_
  refine Wp.seq ?_
  refine Wp.srg [] [] ?_
  refine Runs.batch 1 kr ?_
  obtain ⟨r1, e_r1, h⟩ := bind_some h
  refine Runs.callK false 6 34 [] [.t (.int .i64 p0), .t (.int .i64 1), .t (.int .i64 562949953421311)] _ _ _ rfl rfl kr kr kr kr kr (spec_l1In_ok u p0 1 562949953421311 r1 e_r1) kr ?_
  refine Runs.alln ?_
  refine Wp.fg ⟨[(0, .t (.int .i64 p0)), (2, .nil), (3, .t (.bool false)), (7, .t (.bool (!r1)))], [], []⟩ ?_
  refine Wp.cond2 (b := !r1) kr (fun hc => ?_) (fun hc => ?_)
  · have h := cond_t h hc
    refine Wp.srg [] [] ?_
    refine Runs.alln ?_
    refine Wp.fg ⟨[(0, .t (.int .i64 p0)), (2, .own 524288), (3, .t (.bool false))], [], [(524288, .live 5 1 ((([] : List Int)).map (eInt .u8)))]⟩ ?_
    refine Wp.ret ?_
    refine thenR ?_
    obtain rfl := Option.some.inj h
    exact RetK [.own 524288, .t (.bool false)] _ [] kr kr (.refl _) .nil
  have h := cond_f h hc
  refine Wp.skip (thenN ?_)
  refine Wp.srg [] [] ?_
  refine Runs.alln ?_
  refine Wp.fg ⟨[(0, .t (.int .i64 p0)), (2, .nil), (3, .t (.bool false)), (4, .own 589824)], [], [(589824, .live 5 1 ((([] : List Int)).map (eInt .u8)))]⟩ ?_
  refine Wp.seqJ (α := (List Int)) (fun a => ⟨[(2, .nil), (3, .t (.bool false)), (4, .own 262145)], [], [(262145, .live 5 1 (a.map (eInt .u8)))]⟩) (fun a => spec_BytesOf_j1 u a = some r) ?_ ?_
  · rintro x8 h
    change spec_BytesOf_j1 u x8 = some r at h
    unfold spec_BytesOf_j1 at h
    refine Wp.srg [] [] ?_
    refine Runs.alln ?_
    refine Wp.fg ⟨[(2, .own 262145), (3, .t (.bool true))], [], [(262145, .live 5 1 (x8.map (eInt .u8)))]⟩ ?_
    refine Wp.ret ?_
    obtain rfl := Option.some.inj h
    exact RetK [.own 262145, .t (.bool true)] _ [] kr kr (.refl _) .nil
  · refine Wp.block ?_
    refine Wp.loopF (α := Int × (List Int)) (fun a => ⟨[(0, .t (.int .i64 a.1)), (2, .nil), (3, .t (.bool false)), (4, .own 262145)], [], [(262145, .live 5 1 (a.2.map (eInt .u8)))]⟩) (fun k_spec_BytesOf_l2 a => spec_BytesOf_l2 u k_spec_BytesOf_l2 a.1 a.2 = some r) ?_ ?_ u (p0, ([] : List Int)) h (Le.of (mo := []) (mr := [(262145, 589824)]) kr kr kr kr)
    · intro a h; unfold spec_BytesOf_l2 at h; cases h
    · rintro k_spec_BytesOf_l2 ⟨x4, x5⟩ h
      change spec_BytesOf_l2 u (k_spec_BytesOf_l2 + 1) x4 x5 = some r at h
      rw [spec_BytesOf_l2] at h
      refine Wp.seq ?_
      refine Wp.srg [] [] ?_
      refine Runs.alln ?_
      refine Wp.fg ⟨[(0, .t (.int .i64 x4)), (2, .nil), (3, .t (.bool false)), (4, .own 262145), (11, .t (.bool (decide (x4 > 1))))], [], [(262145, .live 5 1 (x5.map (eInt .u8)))]⟩ ?_
      refine Wp.cond2 (b := decide (x4 > 1)) kr (fun hc => ?_) (fun hc => ?_)
      · have h := cond_t h hc
        refine Wp.skip (thenN ?_)
        refine Wp.block ?_
        refine Wp.seq ?_
        refine Wp.srg [] [] ?_
        refine Runs.alln ?_
        refine Wp.fg ⟨[(0, .t (.int .i64 x4)), (2, .nil), (3, .t (.bool false)), (4, .own 262145), (13, .t (.bool (decide (x4 < 256))))], [], [(262145, .live 5 1 (x5.map (eInt .u8)))]⟩ ?_
        refine Wp.cond2 (b := decide (x4 < 256)) kr (fun hc => ?_) (fun hc => ?_)
        · have h := cond_t h hc
          refine Wp.srg [] [] ?_
          refine Runs.alln ?_
          refine Wp.fg ⟨[(0, .t (.int .i64 x4)), (2, .own 917504), (3, .t (.bool false)), (4, .own 262145)], [], [(262145, .live 5 1 (x5.map (eInt .u8))), (917504, .live 5 1 ((([] : List Int)).map (eInt .u8)))]⟩ ?_
          refine Wp.ret ?_
          refine thenR ?_
          refine blkR ?_
          refine thenR ?_
          refine blkR ?_
          refine thenR ?_
          obtain rfl := Option.some.inj h
          exact RetK [.own 917504, .t (.bool false)] _ [] kr kr (.refl _) .nil
        have h := cond_f h hc
        refine Wp.skip (thenN ?_)
        refine Wp.srg [] [] ?_
        refine Runs.batch 5 kr ?_
        obtain ⟨_, e_8, h⟩ := bind_some h
        refine Runs.appT (y := .own 262145) (eInt .u8) 20 1 5 1 1 1179648 ([IntKind.wrap .u8 (bAnd .i64 x4 255)]) x5 rfl rfl rfl rfl kr kr kr kr kr kr (.inl rfl) kr (of_decide_eq_true (chk_some e_8)) kr kr ?_
        refine Runs.alln ?_
        refine Wp.fg ⟨[(0, .t (.int .i64 x4)), (2, .nil), (3, .t (.bool false)), (4, .own 1310720)], [], [(1310720, .live 5 1 ((([IntKind.wrap .u8 (bAnd .i64 x4 255)]) ++ x5).map (eInt .u8)))]⟩ ?_
        refine Wp.rg [] [] ?_
        refine Runs.all kr ?_
        refine blkN ?_
        refine thenN ?_
        exact ⟨(bShr .i64 x4 8, ([IntKind.wrap .u8 (bAnd .i64 x4 255)]) ++ x5), h, Le.of (mo := []) (mr := [(262145, 1310720)]) kr kr kr kr⟩
      have h := cond_f h hc
      refine Wp.exit ?_
      refine thenE ?_
      refine thenE ?_
      refine blkE ?_
      refine thenN ?_
      exact ⟨x5, h, Le.of (mo := []) (mr := []) kr kr kr kr⟩
theorem spec_WeakOf_ok (u : Nat) (p0 : List Int) (r : Int) (h : spec_WeakOf u p0 = some r) : CallOK Tryd.prog 21 [.one (.t (.sl 1 (p0.map (eInt .u8))))] (.one (.t (.int .i64 r))) [] := by
  unfold spec_WeakOf at h
  refine CallOK.of_bodyK (fn := Tryd.f21) (m := false) [.t (.sl 1 (p0.map (eInt .u8)))] kr rfl kr kr kr kr kr ?_
  refine Wp.srg [] [] ?_
  refine Runs.alln ?_
  refine Wp.fg ⟨[(0, .t (.sl 1 (p0.map (eInt .u8)))), (2, .t (.int .i64 0))], [], []⟩ ?_
  refine Wp.srg [] [] ?_
  refine Runs.alln ?_
  refine Wp.fg ⟨[(0, .t (.sl 1 (p0.map (eInt .u8)))), (2, .t (.int .i64 0)), (3, .t (.int .i64 0))], [], []⟩ ?_
  refine Wp.srg [] [] ?_
  refine Runs.alln ?_
  refine Wp.fg ⟨[(0, .t (.sl 1 (p0.map (eInt .u8)))), (2, .t (.int .i64 0)), (3, .t (.int .i64 0)), (4, .t (.int .i64 0))], [], []⟩ ?_
  refine Wp.seqJ (α := Int × Int) (fun a => ⟨[(2, .t (.int .i64 0)), (3, .t (.int .i64 a.1)), (4, .t (.int .i64 a.2))], [], []⟩) (fun a => spec_WeakOf_j1 u a.1 a.2 = some r) ?_ ?_
  · rintro ⟨x11, x12⟩ h
    change spec_WeakOf_j1 u x11 x12 = some r at h
    unfold spec_WeakOf_j1 at h
    refine Wp.srg [] [] ?_
    refine Runs.alln ?_
    refine Wp.fg ⟨[(2, .t (.int .i64 (bAdd .i64 x11 (bMul .i64 251 x12))))], [], []⟩ ?_
    refine Wp.ret ?_
    obtain rfl := Option.some.inj h
    exact RetK [.t (.int .i64 (bAdd .i64 x11 (bMul .i64 251 x12)))] _ [] kr kr (.refl _) .nil
  · refine Wp.srg [] [] ?_
    refine Runs.alln ?_
    refine Wp.fg ⟨[(0, .t (.sl 1 (p0.map (eInt .u8)))), (2, .t (.int .i64 0)), (3, .t (.int .i64 0)), (4, .t (.int .i64 0)), (5, .t (.int .i64 0))], [], []⟩ ?_
    refine Wp.block ?_
    refine Wp.loopF (α := (List Int) × Int × Int × Int) (fun a => ⟨[(0, .t (.sl 1 (a.1.map (eInt .u8)))), (2, .t (.int .i64 0)), (3, .t (.int .i64 a.2.1)), (4, .t (.int .i64 a.2.2.1)), (5, .t (.int .i64 a.2.2.2))], [], []⟩) (fun k_spec_WeakOf_l2 a => spec_WeakOf_l2 u k_spec_WeakOf_l2 a.1 a.2.1 a.2.2.1 a.2.2.2 = some r) ?_ ?_ u (p0, 0, 0, 0) h (Le.of (mo := []) (mr := []) kr kr kr kr)
    · intro a h; unfold spec_WeakOf_l2 at h; cases h
    · rintro k_spec_WeakOf_l2 ⟨p0, x4, x5, x6⟩ h
      change spec_WeakOf_l2 u (k_spec_WeakOf_l2 + 1) p0 x4 x5 x6 = some r at h
      rw [spec_WeakOf_l2] at h
      refine Wp.seq ?_
      refine Wp.srg [] [] ?_
      refine Runs.batch 2 kr ?_
      refine Runs.lenT (y := .t (.sl 1 (p0.map (eInt .u8)))) (e := 5) (eInt .u8) p0 1 rfl rfl rfl kr kr kr kr kr ?_
      refine Runs.alln ?_
      refine Wp.fg ⟨[(0, .t (.sl 1 (p0.map (eInt .u8)))), (2, .t (.int .i64 0)), (3, .t (.int .i64 x4)), (4, .t (.int .i64 x5)), (5, .t (.int .i64 x6)), (9, .t (.bool (decide (x6 < ((p0.length : Int))))))], [], []⟩ ?_
      refine Wp.cond2 (b := decide (x6 < ((p0.length : Int)))) kr (fun hc => ?_) (fun hc => ?_)
      · have h := cond_t h hc
        refine Wp.skip (thenN ?_)
        refine Wp.seq ?_
        refine Wp.block ?_
        refine Wp.srg [] [] ?_
        refine Runs.batch 3 kr ?_
        obtain ⟨y10, e_y10, h⟩ := bind_some h
        refine Runs.idxT (e := 5) (kk := .i64) (sz := 1) (eInt .u8) p0 x6 rfl kr kr kr kr kr kr e_y10 ?_
        refine Runs.alln ?_
        refine Wp.fg ⟨[(0, .t (.sl 1 (p0.map (eInt .u8)))), (2, .t (.int .i64 0)), (3, .t (.int .i64 (bRem .i64 (bAdd .i64 x4 (IntKind.wrap .i64 y10)) 251))), (4, .t (.int .i64 x5)), (5, .t (.int .i64 x6))], [], []⟩ ?_
        refine Wp.rg [] [] ?_
        refine Runs.all kr ?_
        refine blkN ?_
        refine thenN ?_
        refine Wp.rg [] [] ?_
        refine Runs.alln ?_
        exact ⟨(p0, bRem .i64 (bAdd .i64 x4 (IntKind.wrap .i64 y10)) 251, bRem .i64 (bAdd .i64 x5 (bRem .i64 (bAdd .i64 x4 (IntKind.wrap .i64 y10)) 251)) 251, bAdd .i64 x6 1), h, Le.of (mo := []) (mr := []) kr kr kr kr⟩
      have h := cond_f h hc
      refine Wp.exit ?_
      refine thenE ?_
      refine thenE ?_
      refine blkE ?_
      refine thenN ?_
      exact ⟨(x4, x5), h, Le.of (mo := []) (mr := []) kr kr kr kr⟩
theorem spec_SumOf_ok (u : Nat) (p0 : List Int) (r : Sum) (h : spec_SumOf u p0 = some r) : CallOK Tryd.prog 58 [.one (.t (.sl 1 (p0.map (eInt .u8))))] (.agg [.t (.int .i64 r.fW), .t (.int .i64 r.fS)]) [] := by
  unfold spec_SumOf at h
  refine CallOK.of_bodyK (fn := Tryd.f58) (m := false) [.t (.sl 1 (p0.map (eInt .u8)))] kr rfl kr kr kr kr kr ?_
  refine Wp.srg [] [] ?_
  refine Runs.alln ?_
  refine Wp.fg ⟨[(0, .t (.sl 1 (p0.map (eInt .u8)))), (2, .obj 2 0)], [(2, [.t (.int .i64 0), .t (.int .i64 0)])], []⟩ ?_
  refine Wp.seq ?_
  refine Wp.srg [] [] ?_
  refine Runs.batch 1 kr ?_
  refine Runs.lenT (y := .t (.sl 1 (p0.map (eInt .u8)))) (e := 5) (eInt .u8) p0 1 rfl rfl rfl kr kr kr kr kr ?_
  refine Runs.alln ?_
  refine Wp.fg ⟨[(0, .t (.sl 1 (p0.map (eInt .u8)))), (2, .obj 2 0), (7, .t (.bool (decide (((p0.length : Int)) > 6))))], [(2, [.t (.int .i64 0), .t (.int .i64 0)])], []⟩ ?_
  refine Wp.cond2 (b := decide (((p0.length : Int)) > 6)) kr (fun hc => ?_) (fun hc => ?_)
  · have h := cond_t h hc
    refine Wp.srg [] [] ?_
    refine Runs.alln ?_
    refine Wp.fg ⟨[(0, .t (.sl 1 (p0.map (eInt .u8)))), (2, .obj 2 0)], [(2, [.t (.int .i64 0), .t (.int .i64 0)])], []⟩ ?_
    refine Wp.ret ?_
    refine thenR ?_
    obtain rfl := Option.some.inj h
    exact RetK [.agg [.t (.int .i64 0), .t (.int .i64 0)]] _ [] kr kr (.refl _) .nil
  have h := cond_f h hc
  refine Wp.skip (thenN ?_)
  refine Wp.srg [] [] ?_
  refine Runs.alln ?_
  refine Wp.fg ⟨[(0, .t (.sl 1 (p0.map (eInt .u8)))), (2, .obj 2 0), (3, .t (.int .i64 1))], [(2, [.t (.int .i64 0), .t (.int .i64 0)])], []⟩ ?_
  refine Wp.seqJ (α := (List Int) × Int) (fun a => ⟨[(0, .t (.sl 1 (a.1.map (eInt .u8)))), (2, .obj 2 0), (3, .t (.int .i64 a.2))], [(2, [.t (.int .i64 0), .t (.int .i64 0)])], []⟩) (fun a => spec_SumOf_j1 u a.1 a.2 = some r) ?_ ?_
  · rintro ⟨p0, x8⟩ h
    change spec_SumOf_j1 u p0 x8 = some r at h
    unfold spec_SumOf_j1 at h
    refine Wp.srg [] [] ?_
    refine Runs.batch 1 kr ?_
    obtain ⟨r9, e_r9, h⟩ := bind_some h
    refine Runs.callK false 24 21 [] [.t (.sl 1 (p0.map (eInt .u8)))] _ _ _ rfl rfl kr kr kr kr kr (spec_WeakOf_ok u p0 r9 e_r9) kr ?_
    refine Runs.alln ?_
    refine Wp.fg ⟨[(2, .obj 2 0)], [(2, [.t (.int .i64 r9), .t (.int .i64 x8)])], []⟩ ?_
    refine Wp.ret ?_
    obtain rfl := Option.some.inj h
    exact RetK [.agg [.t (.int .i64 r9), .t (.int .i64 x8)]] _ [] kr kr (.refl _) .nil
  · refine Wp.srg [] [] ?_
    refine Runs.alln ?_
    refine Wp.fg ⟨[(0, .t (.sl 1 (p0.map (eInt .u8)))), (2, .obj 2 0), (3, .t (.int .i64 1)), (4, .t (.int .i64 0))], [(2, [.t (.int .i64 0), .t (.int .i64 0)])], []⟩ ?_
    refine Wp.block ?_
    refine Wp.loopF (α := (List Int) × Int × Int) (fun a => ⟨[(0, .t (.sl 1 (a.1.map (eInt .u8)))), (2, .obj 2 0), (3, .t (.int .i64 a.2.1)), (4, .t (.int .i64 a.2.2))], [(2, [.t (.int .i64 0), .t (.int .i64 0)])], []⟩) (fun k_spec_SumOf_l2 a => spec_SumOf_l2 u k_spec_SumOf_l2 a.1 a.2.1 a.2.2 = some r) ?_ ?_ u (p0, 1, 0) h (Le.of (mo := []) (mr := []) kr kr kr kr)
    · intro a h; unfold spec_SumOf_l2 at h; cases h
    · rintro k_spec_SumOf_l2 ⟨p0, x3, x4⟩ h
      change spec_SumOf_l2 u (k_spec_SumOf_l2 + 1) p0 x3 x4 = some r at h
      rw [spec_SumOf_l2] at h
      refine Wp.seq ?_
      refine Wp.srg [] [] ?_
      refine Runs.batch 2 kr ?_
      refine Runs.lenT (y := .t (.sl 1 (p0.map (eInt .u8)))) (e := 5) (eInt .u8) p0 1 rfl rfl rfl kr kr kr kr kr ?_
      refine Runs.alln ?_
      refine Wp.fg ⟨[(0, .t (.sl 1 (p0.map (eInt .u8)))), (2, .obj 2 0), (3, .t (.int .i64 x3)), (4, .t (.int .i64 x4)), (12, .t (.bool (decide (x4 < ((p0.length : Int))))))], [(2, [.t (.int .i64 0), .t (.int .i64 0)])], []⟩ ?_
      refine Wp.cond2 (b := decide (x4 < ((p0.length : Int)))) kr (fun hc => ?_) (fun hc => ?_)
      · have h := cond_t h hc
        refine Wp.skip (thenN ?_)
        refine Wp.seq ?_
        refine Wp.block ?_
        refine Wp.rg [] [] ?_
        refine Runs.batch 4 kr ?_
        obtain ⟨y7, e_y7, h⟩ := bind_some h
        refine Runs.idxT (e := 5) (kk := .i64) (sz := 1) (eInt .u8) p0 x4 rfl kr kr kr kr kr kr e_y7 ?_
        refine Runs.all kr ?_
        refine blkN ?_
        refine thenN ?_
        refine Wp.rg [] [] ?_
        refine Runs.alln ?_
        exact ⟨(p0, bAdd .i64 (bMul .i64 256 x3) (IntKind.wrap .i64 y7), bAdd .i64 x4 1), h, Le.of (mo := []) (mr := []) kr kr kr kr⟩
      have h := cond_f h hc
      refine Wp.exit ?_
      refine thenE ?_
      refine thenE ?_
      refine blkE ?_
      refine thenN ?_
      exact ⟨(p0, x3), h, Le.of (mo := []) (mr := []) kr kr kr kr⟩
theorem spec_Least_ok (u : Nat) (p0 : Int) (p1 : Int) (r : Int) (h : spec_Least u p0 p1 = some r) : CallOK Tryd.prog 74 [.one (.t (.int .i64 p0)), .one (.t (.int .i64 p1))] (.one (.t (.int .i64 r))) [] := by
  unfold spec_Least at h
  refine CallOK.of_bodyK (fn := Tryd.f74) (m := false) [.t (.int .i64 p0), .t (.int .i64 p1)] kr rfl kr kr kr kr kr ?_
  refine Wp.srg [] [] ?_
  refine Runs.alln ?_
  refine Wp.fg ⟨[(0, .t (.int .i64 p0)), (1, .t (.int .i64 p1)), (4, .t (.int .i64 0))], [], []⟩ ?_
  refine Wp.seq ?_
  refine Wp.srg [] [] ?_
  refine Runs.alln ?_
  refine Wp.fg ⟨[(0, .t (.int .i64 p0)), (1, .t (.int .i64 p1)), (4, .t (.int .i64 0)), (7, .t (.bool (decide (p1 < p0))))], [], []⟩ ?_
  refine Wp.cond2 (b := decide (p1 < p0)) kr (fun hc => ?_) (fun hc => ?_)
  · have h := cond_t h hc
    refine Wp.srg [] [] ?_
    refine Runs.alln ?_
    refine Wp.fg ⟨[(0, .t (.int .i64 p0)), (4, .t (.int .i64 p1))], [], []⟩ ?_
    refine Wp.ret ?_
    refine thenR ?_
    obtain rfl := Option.some.inj h
    exact RetK [.t (.int .i64 p1)] _ [] kr kr (.refl _) .nil
  have h := cond_f h hc
  refine Wp.skip (thenN ?_)
  refine Wp.srg [] [] ?_
  refine Runs.alln ?_
  refine Wp.fg ⟨[(4, .t (.int .i64 p0))], [], []⟩ ?_
  refine Wp.ret ?_
  obtain rfl := Option.some.inj h
  exact RetK [.t (.int .i64 p0)] _ [] kr kr (.refl _) .nil
theorem spec_SpanOf_ok (u : Nat) (p0 : Int) (p1 : Int) (p2 : Int) (r : Int × Int) (h : spec_SpanOf u p0 p1 p2 = some r) : CallOK Tryd.prog 61 [.one (.t (.int .i64 p0)), .one (.t (.int .i64 p1)), .one (.t (.int .i64 p2))] (.tup [.one (.t (.int .i64 r.1)), .one (.t (.int .i64 r.2))]) [] := by
  unfold spec_SpanOf at h
  refine CallOK.of_bodyK (fn := Tryd.f61) (m := false) [.t (.int .i64 p0), .t (.int .i64 p1), .t (.int .i64 p2)] kr rfl kr kr kr kr kr ?_
  refine Wp.srg [] [] ?_
  refine Runs.alln ?_
  refine Wp.fg ⟨[(0, .t (.int .i64 p0)), (1, .t (.int .i64 p1)), (2, .t (.int .i64 p2)), (6, .t (.int .i64 0)), (7, .t (.int .i64 0))], [], []⟩ ?_
  refine Wp.seq ?_
  refine Wp.srg [] [] ?_
  refine Runs.batch 3 kr ?_
  obtain ⟨r1, e_r1, h⟩ := bind_some h
  refine Runs.callK false 11 55 [] [.t (.int .i64 p0), .t (.int .i64 p1)] _ _ _ rfl rfl kr kr kr kr kr (spec_Blocks_ok u p0 p1 r1 e_r1) kr ?_
  refine Runs.batch 1 kr ?_
  obtain ⟨r2, e_r2, h⟩ := bind_some h
  refine Runs.callK false 13 34 [] [.t (.int .i64 p2), .t (.int .i64 0), .t (.int .i64 (bSub .i64 r1 1))] _ _ _ rfl rfl kr kr kr kr kr (spec_l1In_ok u p2 0 (bSub .i64 r1 1) r2 e_r2) kr ?_
  refine Runs.alln ?_
  refine Wp.fg ⟨[(0, .t (.int .i64 p0)), (1, .t (.int .i64 p1)), (2, .t (.int .i64 p2)), (6, .t (.int .i64 0)), (7, .t (.int .i64 0)), (14, .t (.bool (!r2)))], [], []⟩ ?_
  refine Wp.cond2 (b := !r2) kr (fun hc => ?_) (fun hc => ?_)
  · have h := cond_t h hc
    refine Wp.srg [] [] ?_
    refine Runs.alln ?_
    refine Wp.fg ⟨[(0, .t (.int .i64 p0)), (1, .t (.int .i64 p1)), (2, .t (.int .i64 p2)), (6, .t (.int .i64 0)), (7, .t (.int .i64 0))], [], []⟩ ?_
    refine Wp.ret ?_
    refine thenR ?_
    obtain rfl := Option.some.inj h
    exact RetK [.t (.int .i64 0), .t (.int .i64 0)] _ [] kr kr (.refl _) .nil
  have h := cond_f h hc
  refine Wp.skip (thenN ?_)
  refine Wp.srg [] [] ?_
  refine Runs.batch 9 kr ?_
  obtain ⟨r3, e_r3, h⟩ := bind_some h
  refine Runs.callK false 24 74 [] [.t (.int .i64 p0), .t (.int .i64 (bSub .i64 p1 (bMul .i64 p2 p0)))] _ _ _ rfl rfl kr kr kr kr kr (spec_Least_ok u p0 (bSub .i64 p1 (bMul .i64 p2 p0)) r3 e_r3) kr ?_
  refine Runs.alln ?_
  refine Wp.fg ⟨[(6, .t (.int .i64 (bMul .i64 p2 p0))), (7, .t (.int .i64 r3))], [], []⟩ ?_
  refine Wp.ret ?_
  obtain rfl := Option.some.inj h
  exact RetK [.t (.int .i64 (bMul .i64 p2 p0)), .t (.int .i64 r3)] _ [] kr kr (.refl _) .nil
theorem spec_ManOk_ok (u : Nat) (p0 : Manifest) (r : Bool) (h : spec_ManOk u p0 = some r) : CallOK Tryd.prog 33 [.agg [.t (.int .i64 p0.fGen), .t (.int .i64 p0.fSize), .t (.int .i64 p0.fLen), .t (.sl 2 (p0.fSums.map Sum.enc))]] (.one (.t (.bool r))) [] := by
  unfold spec_ManOk at h
  refine CallOK.of_bodyK (fn := Tryd.f33) (m := false) [.agg ((Manifest.enc p0).map .t)] kr rfl kr kr kr kr kr ?_
  refine Wp.srg [] [] ?_
  refine Runs.alln ?_
  refine Wp.fg ⟨[(1, .obj 1 0), (2, .t (.bool false))], [(1, ((Manifest.enc p0).map .t))], []⟩ ?_
  refine Wp.seq ?_
  refine Wp.srg [] [] ?_
  refine Runs.alln ?_
  refine Wp.fg ⟨[(1, .obj 1 0), (2, .t (.bool false)), (10, .t (.bool (p0.fGen == 0)))], [(1, ((Manifest.enc p0).map .t))], []⟩ ?_
  refine Wp.cond2 (b := p0.fGen == 0) kr (fun hc => ?_) (fun hc => ?_)
  · have h := cond_t h hc
    refine Wp.srg [] [] ?_
    refine Runs.batch 4 kr ?_
    rcases tf (p0.fSize == 0) with hc | hc
    · have h := cond_t h hc
      refine Runs.known 14 (v := true) kr hc ?_
      refine Runs.batch 5 kr ?_
      rcases tf (p0.fLen == 0) with hc | hc
      · have h := cond_t h hc
        refine Runs.known 19 (v := true) kr hc ?_
        refine Runs.batch 2 kr ?_
        refine Runs.lenT (y := .t (.sl 2 (p0.fSums.map Sum.enc))) (e := 76) Sum.enc p0.fSums 2 rfl rfl rfl kr kr kr kr kr ?_
        refine Runs.alln ?_
        refine Wp.fg ⟨[(1, .obj 1 0), (2, .t (.bool (((p0.fSums.length : Int)) == 0)))], [(1, ((Manifest.enc p0).map .t))], []⟩ ?_
        refine Wp.ret ?_
        refine thenR ?_
        obtain rfl := Option.some.inj h
        exact RetK [.t (.bool (((p0.fSums.length : Int)) == 0))] _ [] kr kr (.refl _) .nil
      have h := cond_f h hc
      refine Runs.known 19 (v := false) kr hc ?_
      refine Runs.alln ?_
      refine Wp.fg ⟨[(1, .obj 1 0), (2, .t (.bool false))], [(1, ((Manifest.enc p0).map .t))], []⟩ ?_
      refine Wp.ret ?_
      refine thenR ?_
      obtain rfl := Option.some.inj h
      exact RetK [.t (.bool false)] _ [] kr kr (.refl _) .nil
    have h := cond_f h hc
    refine Runs.known 14 (v := false) kr hc ?_
    refine Runs.alln ?_
    refine Wp.fg ⟨[(1, .obj 1 0), (2, .t (.bool false))], [(1, ((Manifest.enc p0).map .t))], []⟩ ?_
    refine Wp.ret ?_
    refine thenR ?_
    obtain rfl := Option.some.inj h
    exact RetK [.t (.bool false)] _ [] kr kr (.refl _) .nil
  have h := cond_f h hc
  refine Wp.skip (thenN ?_)
  refine Wp.seq ?_
  refine Wp.seqJ (α := Bool × Manifest) (fun a => ⟨[(1, .obj 1 0), (2, .t (.bool false)), (47, .t (.bool a.1))], [(1, ((Manifest.enc a.2).map .t))], []⟩) (fun a => spec_ManOk_j1 u a.1 a.2 = some r) ?_ ?_
  · rintro ⟨x4, p0⟩ h
    change spec_ManOk_j1 u x4 p0 = some r at h
    unfold spec_ManOk_j1 at h
    refine Wp.cond2 (b := x4) kr (fun hc => ?_) (fun hc => ?_)
    · have h := cond_t h hc
      refine Wp.srg [] [] ?_
      refine Runs.alln ?_
      refine Wp.fg ⟨[(1, .obj 1 0), (2, .t (.bool false))], [(1, ((Manifest.enc p0).map .t))], []⟩ ?_
      refine Wp.ret ?_
      refine thenR ?_
      obtain rfl := Option.some.inj h
      exact RetK [.t (.bool false)] _ [] kr kr (.refl _) .nil
    have h := cond_f h hc
    refine Wp.skip (thenN ?_)
    refine Wp.seqJ (α := Unit) (fun a => ⟨[(2, .t (.bool false))], [], []⟩) (fun a => spec_ManOk_j2 u = some r) ?_ ?_
    · rintro ⟨⟩ h
      change spec_ManOk_j2 u = some r at h
      unfold spec_ManOk_j2 at h
      refine Wp.srg [] [] ?_
      refine Runs.alln ?_
      refine Wp.fg ⟨[(2, .t (.bool true))], [], []⟩ ?_
      refine Wp.ret ?_
      obtain rfl := Option.some.inj h
      exact RetK [.t (.bool true)] _ [] kr kr (.refl _) .nil
    · refine Wp.srg [] [] ?_
      refine Runs.alln ?_
      refine Wp.fg ⟨[(1, .obj 1 0), (2, .t (.bool false)), (3, .t (.int .i64 0))], [(1, ((Manifest.enc p0).map .t))], []⟩ ?_
      refine Wp.block ?_
      refine Wp.loopF (α := Int × Manifest) (fun a => ⟨[(1, .obj 1 0), (2, .t (.bool false)), (3, .t (.int .i64 a.1))], [(1, ((Manifest.enc a.2).map .t))], []⟩) (fun k_spec_ManOk_l3 a => spec_ManOk_l3 u k_spec_ManOk_l3 a.1 a.2 = some r) ?_ ?_ u (0, p0) h (Le.of (mo := []) (mr := []) kr kr kr kr)
      · intro a h; unfold spec_ManOk_l3 at h; cases h
      · rintro k_spec_ManOk_l3 ⟨x6, p0⟩ h
        change spec_ManOk_l3 u (k_spec_ManOk_l3 + 1) x6 p0 = some r at h
        rw [spec_ManOk_l3] at h
        refine Wp.seq ?_
        refine Wp.srg [] [] ?_
        refine Runs.batch 3 kr ?_
        refine Runs.lenT (y := .t (.sl 2 (p0.fSums.map Sum.enc))) (e := 76) Sum.enc p0.fSums 2 rfl rfl rfl kr kr kr kr kr ?_
        refine Runs.alln ?_
        refine Wp.fg ⟨[(1, .obj 1 0), (2, .t (.bool false)), (3, .t (.int .i64 x6)), (52, .t (.bool (decide (x6 < ((p0.fSums.length : Int))))))], [(1, ((Manifest.enc p0).map .t))], []⟩ ?_
        refine Wp.cond2 (b := decide (x6 < ((p0.fSums.length : Int)))) kr (fun hc => ?_) (fun hc => ?_)
        · have h := cond_t h hc
          refine Wp.skip (thenN ?_)
          refine Wp.seq ?_
          refine Wp.block ?_
          refine Wp.srg [] [] ?_
          refine Runs.batch 3 kr ?_
          obtain ⟨y8, e_y8, h⟩ := bind_some h
          refine Runs.idxT (e := 76) (kk := .i64) (sz := 2) Sum.enc p0.fSums x6 rfl kr kr kr kr kr kr e_y8 ?_
          refine Runs.batch 2 kr ?_
          obtain ⟨r9, e_r9, h⟩ := bind_some h
          refine Runs.callK false 62 57 [] [.t (.int .i64 y8.fS)] _ _ _ rfl rfl kr kr kr kr kr (spec_BytesOf_ok u y8.fS r9 e_r9) kr ?_
          refine Runs.alln ?_
          refine Wp.fg ⟨[(1, .obj 1 0), (2, .t (.bool false)), (3, .t (.int .i64 x6)), (4, .own 4063232), (5, .t (.bool r9.2))], [(1, ((Manifest.enc p0).map .t))], [(4063232, .live 5 1 (r9.1.map (eInt .u8)))]⟩ ?_
          refine Wp.srg [] [] ?_
          refine Runs.batch 5 kr ?_
          obtain ⟨r10, e_r10, h⟩ := bind_some h
          refine Runs.callK false 71 61 [] [.t (.int .i64 p0.fSize), .t (.int .i64 p0.fLen), .t (.int .i64 x6)] _ _ _ rfl rfl kr kr kr kr kr (spec_SpanOf_ok u p0.fSize p0.fLen x6 r10 e_r10) kr ?_
          refine Runs.alln ?_
          refine Wp.fg ⟨[(1, .obj 1 0), (2, .t (.bool false)), (3, .t (.int .i64 x6)), (4, .own 4063232), (5, .t (.bool r9.2)), (7, .t (.int .i64 r10.2))], [(1, ((Manifest.enc p0).map .t))], [(4063232, .live 5 1 (r9.1.map (eInt .u8)))]⟩ ?_
          refine Wp.seqJ (α := Int × Bool × Manifest) (fun a => ⟨[(1, .obj 1 0), (2, .t (.bool false)), (3, .t (.int .i64 a.1)), (91, .t (.bool a.2.1))], [(1, ((Manifest.enc a.2.2).map .t))], []⟩) (fun a => spec_ManOk_j4 u (fun z0 z1 => spec_ManOk_l3 u k_spec_ManOk_l3 z0 z1) a.1 a.2.1 a.2.2 = some r) ?_ ?_
          · rintro ⟨x6, x13, p0⟩ h
            change spec_ManOk_j4 u (fun z0 z1 => spec_ManOk_l3 u k_spec_ManOk_l3 z0 z1) x6 x13 p0 = some r at h
            unfold spec_ManOk_j4 at h
            refine Wp.cond2 (b := x13) kr (fun hc => ?_) (fun hc => ?_)
            · have h := cond_t h hc
              refine Wp.srg [] [] ?_
              refine Runs.alln ?_
              refine Wp.fg ⟨[(1, .obj 1 0), (2, .t (.bool false)), (3, .t (.int .i64 x6))], [(1, ((Manifest.enc p0).map .t))], []⟩ ?_
              refine Wp.ret ?_
              refine blkR ?_
              refine thenR ?_
              refine thenR ?_
              refine blkR ?_
              refine thenR ?_
              obtain rfl := Option.some.inj h
              exact RetK [.t (.bool false)] _ [] kr kr (.refl _) .nil
            have h := cond_f h hc
            refine Wp.skip ?_
            refine blkN ?_
            refine thenN ?_
            refine Wp.rg [] [] ?_
            refine Runs.alln ?_
            exact ⟨(bAdd .i64 x6 1, p0), h, Le.of (mo := []) (mr := []) kr kr kr kr⟩
          · refine Wp.regionA (pOf []) (rhoOf [(1, .obj 1), (3, .frz), (4, .own 62), (5, .frz), (7, .frz), (74, .frz), (75, .frz), (76, .frz), (77, .own 62), (78, .frz), (79, .frz), (81, .frz), (82, .frz), (83, .own 62), (84, .frz), (85, .obj 1), (86, .frz), (87, .frz), (88, .frz), (89, .frz)]) kr kr ?_
            refine Runs.batch 3 kr ?_
            rcases tf (!r9.2) with hc | hc
            · have h := cond_t h hc
              refine Runs.known 76 (v := true) kr hc ?_
              refine Runs.alln ?_
              exact ⟨(x6, true, p0), h, Le.of (mo := []) (mr := []) kr kr kr kr⟩
            have h := cond_f h hc
            refine Runs.known 76 (v := false) kr hc ?_
            refine Runs.batch 1 kr ?_
            refine Runs.lenT (y := .own 4063232) (e := 5) (eInt .u8) r9.1 1 rfl rfl rfl kr kr kr kr kr ?_
            refine Runs.batch 4 kr ?_
            rcases tf (((r9.1.length : Int)) != r10.2) with hc | hc
            · have h := cond_t h hc
              refine Runs.known 82 (v := true) kr hc ?_
              refine Runs.alln ?_
              exact ⟨(x6, true, p0), h, Le.of (mo := []) (mr := []) kr kr kr kr⟩
            have h := cond_f h hc
            refine Runs.known 82 (v := false) kr hc ?_
            refine Runs.batch 1 kr ?_
            obtain ⟨r11, e_r11, h⟩ := bind_some h
            refine Runs.callBK 84 58 [] [.own 4063232] [.one (.t (.sl 1 (r9.1.map (eInt .u8))))] (.agg [.t (.int .i64 r11.fW), .t (.int .i64 r11.fS)]) rfl rfl kr kr kr kr kr (spec_SumOf_ok u r9.1 r11 e_r11) (by simp [V.plain, V.plains, C.plain, T.sc]) kr ?_
            refine Runs.batch 3 kr ?_
            obtain ⟨y12, e_y12, h⟩ := bind_some h
            refine Runs.idxT (e := 76) (kk := .i64) (sz := 2) Sum.enc p0.fSums x6 rfl kr kr kr kr kr kr e_y12 ?_
            refine Runs.alln ?_
            exact ⟨(x6, !([r11.fW, r11.fS] == [y12.fW, y12.fS]), p0), h, Le.of (mo := []) (mr := []) kr kr kr kr⟩
        have h := cond_f h hc
        refine Wp.exit ?_
        refine thenE ?_
        refine thenE ?_
        refine blkE ?_
        refine thenN ?_
        exact ⟨(), h, Le.of (mo := []) (mr := []) kr kr kr kr⟩
  · refine Wp.regionA (pOf []) (rhoOf [(1, .obj 1), (25, .obj 1), (26, .frz), (27, .frz), (28, .frz), (29, .frz), (30, .obj 1), (31, .frz), (32, .obj 1), (33, .frz), (34, .frz), (36, .frz), (37, .frz), (38, .obj 1), (39, .frz), (40, .frz), (41, .obj 1), (42, .frz), (43, .obj 1), (44, .frz), (45, .frz)]) kr kr ?_
    refine Runs.batch 2 kr ?_
    obtain ⟨r1, e_r1, h⟩ := bind_some h
    refine Runs.callK false 27 34 [] [.t (.int .i64 p0.fGen), .t (.int .i64 1), .t (.int .i64 1000000)] _ _ _ rfl rfl kr kr kr kr kr (spec_l1In_ok u p0.fGen 1 1000000 r1 e_r1) kr ?_
    refine Runs.batch 2 kr ?_
    rcases tf (!r1) with hc | hc
    · have h := cond_t h hc
      refine Runs.known 29 (v := true) kr hc ?_
      refine Runs.alln ?_
      exact ⟨(true, p0), h, Le.of (mo := []) (mr := []) kr kr kr kr⟩
    have h := cond_f h hc
    refine Runs.known 29 (v := false) kr hc ?_
    refine Runs.batch 4 kr ?_
    obtain ⟨r2, e_r2, h⟩ := bind_some h
    refine Runs.callK false 34 60 [] [.t (.int .i64 p0.fSize), .t (.int .i64 p0.fLen)] _ _ _ rfl rfl kr kr kr kr kr (spec_SizeOk_ok u p0.fSize p0.fLen r2 e_r2) kr ?_
    refine Runs.batch 3 kr ?_
    rcases tf (!r2) with hc | hc
    · have h := cond_t h hc
      refine Runs.known 37 (v := true) kr hc ?_
      refine Runs.alln ?_
      exact ⟨(true, p0), h, Le.of (mo := []) (mr := []) kr kr kr kr⟩
    have h := cond_f h hc
    refine Runs.known 37 (v := false) kr hc ?_
    refine Runs.batch 2 kr ?_
    refine Runs.lenT (y := .t (.sl 2 (p0.fSums.map Sum.enc))) (e := 76) Sum.enc p0.fSums 2 rfl rfl rfl kr kr kr kr kr ?_
    refine Runs.batch 4 kr ?_
    obtain ⟨r3, e_r3, h⟩ := bind_some h
    refine Runs.callK false 45 55 [] [.t (.int .i64 p0.fSize), .t (.int .i64 p0.fLen)] _ _ _ rfl rfl kr kr kr kr kr (spec_Blocks_ok u p0.fSize p0.fLen r3 e_r3) kr ?_
    refine Runs.alln ?_
    exact ⟨(((p0.fSums.length : Int)) != r3, p0), h, Le.of (mo := []) (mr := []) kr kr kr kr⟩
theorem spec_GetMan_ok (u : Nat) (p0 : List Int) (p1 : Int) (r : Manifest × Int × Bool) (h : spec_GetMan u p0 p1 = some r) : CallOK Tryd.prog 30 [.one (.t (.sl 1 (p0.map (eInt .u8)))), .one (.t (.int .i64 p1))] (.tup [.agg [.t (.int .i64 r.1.fGen), .t (.int .i64 r.1.fSize), .t (.int .i64 r.1.fLen), .ow 76 2 (r.1.fSums.map Sum.enc)], .one (.t (.int .i64 r.2.1)), .one (.t (.bool r.2.2))]) [] := by
  unfold spec_GetMan at h
  refine CallOK.of_bodyK (fn := Tryd.f30) (m := true) [.t (.sl 1 (p0.map (eInt .u8))), .t (.int .i64 p1)] kr rfl kr kr kr kr kr ?_
  refine Wp.srg [] [] ?_
  refine Runs.alln ?_
  refine Wp.fg ⟨[(0, .t (.sl 1 (p0.map (eInt .u8)))), (1, .t (.int .i64 p1)), (4, .obj 4 0), (5, .t (.int .i64 0)), (6, .t (.bool false))], [(4, [.t (.int .i64 0), .t (.int .i64 0), .t (.int .i64 0), .nil])], []⟩ ?_
  refine Wp.srg [] [] ?_
  refine Runs.alln ?_
  refine Wp.fg ⟨[(0, .t (.sl 1 (p0.map (eInt .u8)))), (1, .t (.int .i64 p1)), (4, .obj 4 0), (5, .t (.int .i64 0)), (6, .t (.bool false)), (7, .obj 7 0)], [(4, [.t (.int .i64 0), .t (.int .i64 0), .t (.int .i64 0), .nil]), (7, [.t (.int .i64 0), .t (.int .i64 0), .t (.int .i64 0), .nil])], []⟩ ?_
  refine Wp.srg [] [] ?_
  refine Runs.batch 2 kr ?_
  obtain ⟨r1, e_r1, h⟩ := bind_some h
  refine Runs.callK false 29 18 [] [.t (.sl 1 (p0.map (eInt .u8))), .t (.int .i64 p1)] _ _ _ rfl rfl kr kr kr kr kr (spec_GetVar_ok u p0 p1 r1 e_r1) kr ?_
  refine Runs.alln ?_
  refine Wp.fg ⟨[(0, .t (.sl 1 (p0.map (eInt .u8)))), (4, .obj 4 0), (5, .t (.int .i64 0)), (6, .t (.bool false)), (7, .obj 7 0), (8, .t (.int .i64 r1.1)), (9, .t (.int .i64 r1.2.1)), (10, .t (.bool r1.2.2))], [(4, [.t (.int .i64 0), .t (.int .i64 0), .t (.int .i64 0), .nil]), (7, [.t (.int .i64 0), .t (.int .i64 0), .t (.int .i64 0), .nil])], []⟩ ?_
  refine Wp.srg [] [] ?_
  refine Runs.batch 2 kr ?_
  obtain ⟨r2, e_r2, h⟩ := bind_some h
  refine Runs.callK false 36 18 [] [.t (.sl 1 (p0.map (eInt .u8))), .t (.int .i64 r1.2.1)] _ _ _ rfl rfl kr kr kr kr kr (spec_GetVar_ok u p0 r1.2.1 r2 e_r2) kr ?_
  refine Runs.alln ?_
  refine Wp.fg ⟨[(0, .t (.sl 1 (p0.map (eInt .u8)))), (4, .obj 4 0), (5, .t (.int .i64 0)), (6, .t (.bool false)), (7, .obj 7 0), (8, .t (.int .i64 r1.1)), (10, .t (.bool r1.2.2)), (11, .t (.int .i64 r2.1)), (12, .t (.int .i64 r2.2.1)), (13, .t (.bool r2.2.2))], [(4, [.t (.int .i64 0), .t (.int .i64 0), .t (.int .i64 0), .nil]), (7, [.t (.int .i64 0), .t (.int .i64 0), .t (.int .i64 0), .nil])], []⟩ ?_
  refine Wp.srg [] [] ?_
  refine Runs.batch 2 kr ?_
  obtain ⟨r3, e_r3, h⟩ := bind_some h
  refine Runs.callK false 43 18 [] [.t (.sl 1 (p0.map (eInt .u8))), .t (.int .i64 r2.2.1)] _ _ _ rfl rfl kr kr kr kr kr (spec_GetVar_ok u p0 r2.2.1 r3 e_r3) kr ?_
  refine Runs.alln ?_
  refine Wp.fg ⟨[(0, .t (.sl 1 (p0.map (eInt .u8)))), (4, .obj 4 0), (5, .t (.int .i64 0)), (6, .t (.bool false)), (7, .obj 7 0), (8, .t (.int .i64 r1.1)), (10, .t (.bool r1.2.2)), (11, .t (.int .i64 r2.1)), (13, .t (.bool r2.2.2)), (14, .t (.int .i64 r3.1)), (15, .t (.int .i64 r3.2.1)), (16, .t (.bool r3.2.2))], [(4, [.t (.int .i64 0), .t (.int .i64 0), .t (.int .i64 0), .nil]), (7, [.t (.int .i64 0), .t (.int .i64 0), .t (.int .i64 0), .nil])], []⟩ ?_
  refine Wp.seq ?_
  refine Wp.seqJ (α := (List Int) × (Int × Int × Bool) × (Int × Int × Bool) × (Int × Int × Bool) × Bool) (fun a => ⟨[(0, .t (.sl 1 (a.1.map (eInt .u8)))), (4, .obj 4 0), (5, .t (.int .i64 0)), (6, .t (.bool false)), (7, .obj 7 0), (8, .t (.int .i64 a.2.1.1)), (11, .t (.int .i64 a.2.2.1.1)), (14, .t (.int .i64 a.2.2.2.1.1)), (15, .t (.int .i64 a.2.2.2.1.2.1)), (56, .t (.bool a.2.2.2.2))], [(4, [.t (.int .i64 0), .t (.int .i64 0), .t (.int .i64 0), .nil]), (7, [.t (.int .i64 0), .t (.int .i64 0), .t (.int .i64 0), .nil])], []⟩) (fun a => spec_GetMan_j1 u a.1 a.2.1 a.2.2.1 a.2.2.2.1 a.2.2.2.2 = some r) ?_ ?_
  · rintro ⟨p0, r1, r2, r3, x4⟩ h
    change spec_GetMan_j1 u p0 r1 r2 r3 x4 = some r at h
    unfold spec_GetMan_j1 at h
    refine Wp.cond2 (b := x4) kr (fun hc => ?_) (fun hc => ?_)
    · have h := cond_t h hc
      refine Wp.srg [] [] ?_
      refine Runs.alln ?_
      refine Wp.fg ⟨[(0, .t (.sl 1 (p0.map (eInt .u8)))), (4, .obj 4 0), (5, .t (.int .i64 0)), (6, .t (.bool false)), (7, .obj 7 0), (8, .t (.int .i64 r1.1)), (11, .t (.int .i64 r2.1)), (14, .t (.int .i64 r3.1)), (15, .t (.int .i64 r3.2.1))], [(4, [.t (.int .i64 0), .t (.int .i64 0), .t (.int .i64 0), .nil]), (7, [.t (.int .i64 0), .t (.int .i64 0), .t (.int .i64 0), .nil])], []⟩ ?_
      refine Wp.ret ?_
      refine thenR ?_
      obtain rfl := Option.some.inj h
      exact RetK [.agg [.t (.int .i64 0), .t (.int .i64 0), .t (.int .i64 0), .nil], .t (.int .i64 0), .t (.bool false)] (.tup [.agg [.t (.int .i64 0), .t (.int .i64 0), .t (.int .i64 0), .nil], .one (.t (.int .i64 0)), .one (.t (.bool false))]) [] kr kr (.tup (.cons (.agg (.cons (.refl _) (.cons (.refl _) (.cons (.refl _) (.cons (.nilO _ _) .nil))))) (.cons (.refl _) (.cons (.refl _) .nil)))) .nil
    have h := cond_f h hc
    refine Wp.skip (thenN ?_)
    refine Wp.srg [] [] ?_
    refine Runs.alln ?_
    refine Wp.fg ⟨[(0, .t (.sl 1 (p0.map (eInt .u8)))), (4, .obj 4 0), (5, .t (.int .i64 0)), (6, .t (.bool false)), (7, .obj 7 0), (8, .t (.int .i64 r1.1)), (11, .t (.int .i64 r2.1)), (14, .t (.int .i64 r3.1)), (15, .t (.int .i64 r3.2.1)), (17, .obj 17 0)], [(4, [.t (.int .i64 0), .t (.int .i64 0), .t (.int .i64 0), .nil]), (7, [.t (.int .i64 0), .t (.int .i64 0), .t (.int .i64 0), .nil]), (17, [.t (.int .i64 r1.1), .t (.int .i64 r2.1), .t (.int .i64 r3.1), .nil])], []⟩ ?_
    refine Wp.seqJ (α := Int × (Int × Int × Bool) × (Int × Int × Bool) × (Int × Int × Bool) × (List Sum)) (fun a => ⟨[(4, .obj 4 0), (5, .t (.int .i64 0)), (6, .t (.bool false)), (7, .obj 7 0), (15, .t (.int .i64 a.1)), (17, .obj 17 0)], [(4, [.t (.int .i64 0), .t (.int .i64 0), .t (.int .i64 0), .nil]), (7, [.t (.int .i64 0), .t (.int .i64 0), .t (.int .i64 0), .nil]), (17, [.t (.int .i64 a.2.1.1), .t (.int .i64 a.2.2.1.1), .t (.int .i64 a.2.2.2.1.1), .own 1114627])], [(1114627, .live 76 2 (a.2.2.2.2.map Sum.enc))]⟩) (fun a => spec_GetMan_j2 u a.1 a.2.1 a.2.2.1 a.2.2.2.1 a.2.2.2.2 = some r) ?_ ?_
    · rintro ⟨x19, r1, r2, r3, x20⟩ h
      change spec_GetMan_j2 u x19 r1 r2 r3 x20 = some r at h
      unfold spec_GetMan_j2 at h
      refine Wp.seq ?_
      refine Wp.srg [] [] ?_
      refine Runs.batch 1 kr ?_
      obtain ⟨r21, e_r21, h⟩ := bind_some h
      refine Runs.callBK 100 33 [] [.agg [.t (.int .i64 r1.1), .t (.int .i64 r2.1), .t (.int .i64 r3.1), .own 1114627]] [.agg [.t (.int .i64 r1.1), .t (.int .i64 r2.1), .t (.int .i64 r3.1), .t (.sl 2 (x20.map Sum.enc))]] (.one (.t (.bool r21))) rfl rfl kr kr kr kr kr (spec_ManOk_ok u ((Manifest.mk r1.1 r2.1 r3.1 x20)) r21 e_r21) (by simp [V.plain, V.plains, C.plain, T.sc]) kr ?_
      refine Runs.alln ?_
      refine Wp.fg ⟨[(4, .obj 4 0), (5, .t (.int .i64 0)), (6, .t (.bool false)), (7, .obj 7 0), (15, .t (.int .i64 x19)), (17, .obj 17 0), (101, .t (.bool (!r21)))], [(4, [.t (.int .i64 0), .t (.int .i64 0), .t (.int .i64 0), .nil]), (7, [.t (.int .i64 0), .t (.int .i64 0), .t (.int .i64 0), .nil]), (17, [.t (.int .i64 r1.1), .t (.int .i64 r2.1), .t (.int .i64 r3.1), .own 1114627])], [(1114627, .live 76 2 (x20.map Sum.enc))]⟩ ?_
      refine Wp.cond2 (b := !r21) kr (fun hc => ?_) (fun hc => ?_)
      · have h := cond_t h hc
        refine Wp.srg [] [] ?_
        refine Runs.alln ?_
        refine Wp.fg ⟨[(4, .obj 4 0), (5, .t (.int .i64 0)), (6, .t (.bool false)), (15, .t (.int .i64 x19)), (17, .obj 17 0)], [(4, [.t (.int .i64 0), .t (.int .i64 0), .t (.int .i64 0), .nil]), (17, [.t (.int .i64 r1.1), .t (.int .i64 r2.1), .t (.int .i64 r3.1), .own 1114627])], [(1114627, .live 76 2 (x20.map Sum.enc))]⟩ ?_
        refine Wp.ret ?_
        refine thenR ?_
        obtain rfl := Option.some.inj h
        exact RetK [.agg [.t (.int .i64 0), .t (.int .i64 0), .t (.int .i64 0), .nil], .t (.int .i64 0), .t (.bool false)] (.tup [.agg [.t (.int .i64 0), .t (.int .i64 0), .t (.int .i64 0), .nil], .one (.t (.int .i64 0)), .one (.t (.bool false))]) [] kr kr (.tup (.cons (.agg (.cons (.refl _) (.cons (.refl _) (.cons (.refl _) (.cons (.nilO _ _) .nil))))) (.cons (.refl _) (.cons (.refl _) .nil)))) .nil
      have h := cond_f h hc
      refine Wp.skip (thenN ?_)
      refine Wp.srg [] [] ?_
      refine Runs.alln ?_
      refine Wp.fg ⟨[(4, .obj 4 0), (5, .t (.int .i64 x19)), (6, .t (.bool true))], [(4, [.t (.int .i64 r1.1), .t (.int .i64 r2.1), .t (.int .i64 r3.1), .own 1114627])], [(1114627, .live 76 2 (x20.map Sum.enc))]⟩ ?_
      refine Wp.ret ?_
      obtain rfl := Option.some.inj h
      exact RetK [.agg [.t (.int .i64 r1.1), .t (.int .i64 r2.1), .t (.int .i64 r3.1), .own 1114627], .t (.int .i64 x19), .t (.bool true)] _ [] kr kr (.refl _) .nil
    · refine Wp.srg [] [] ?_
      refine Runs.alln ?_
      refine Wp.fg ⟨[(0, .t (.sl 1 (p0.map (eInt .u8)))), (4, .obj 4 0), (5, .t (.int .i64 0)), (6, .t (.bool false)), (7, .obj 7 0), (8, .t (.int .i64 r1.1)), (11, .t (.int .i64 r2.1)), (14, .t (.int .i64 r3.1)), (15, .t (.int .i64 r3.2.1)), (17, .obj 17 0), (18, .t (.int .i64 0))], [(4, [.t (.int .i64 0), .t (.int .i64 0), .t (.int .i64 0), .nil]), (7, [.t (.int .i64 0), .t (.int .i64 0), .t (.int .i64 0), .nil]), (17, [.t (.int .i64 r1.1), .t (.int .i64 r2.1), .t (.int .i64 r3.1), .nil])], []⟩ ?_
      refine Wp.block ?_
      refine Wp.loopF (α := (List Int) × (Int × Int × Bool) × (Int × Int × Bool) × (Int × Int × Bool) × Int × Int × (List Sum)) (fun a => ⟨[(0, .t (.sl 1 (a.1.map (eInt .u8)))), (4, .obj 4 0), (5, .t (.int .i64 0)), (6, .t (.bool false)), (7, .obj 7 0), (8, .t (.int .i64 a.2.1.1)), (11, .t (.int .i64 a.2.2.1.1)), (14, .t (.int .i64 a.2.2.2.1.1)), (15, .t (.int .i64 a.2.2.2.2.1)), (17, .obj 17 0), (18, .t (.int .i64 a.2.2.2.2.2.1))], [(4, [.t (.int .i64 0), .t (.int .i64 0), .t (.int .i64 0), .nil]), (7, [.t (.int .i64 0), .t (.int .i64 0), .t (.int .i64 0), .nil]), (17, [.t (.int .i64 a.2.1.1), .t (.int .i64 a.2.2.1.1), .t (.int .i64 a.2.2.2.1.1), .own 1114627])], [(1114627, .live 76 2 (a.2.2.2.2.2.2.map Sum.enc))]⟩) (fun k_spec_GetMan_l3 a => spec_GetMan_l3 u k_spec_GetMan_l3 a.1 a.2.1 a.2.2.1 a.2.2.2.1 a.2.2.2.2.1 a.2.2.2.2.2.1 a.2.2.2.2.2.2 = some r) ?_ ?_ u (p0, r1, r2, r3, r3.2.1, 0, []) h (Le.trans (Le.emptyO 17 3 1114627 76 2 [.t (.int .i64 r1.1), .t (.int .i64 r2.1), .t (.int .i64 r3.1), .nil] kr kr kr) (Le.of (mo := []) (mr := []) kr kr kr kr))
      · intro a h; unfold spec_GetMan_l3 at h; cases h
      · rintro k_spec_GetMan_l3 ⟨p0, r1, r2, r3, x8, x9, x10⟩ h
        change spec_GetMan_l3 u (k_spec_GetMan_l3 + 1) p0 r1 r2 r3 x8 x9 x10 = some r at h
        rw [spec_GetMan_l3] at h
        refine Wp.seq ?_
        refine Wp.seqJ (α := (List Int) × (Int × Int × Bool) × (Int × Int × Bool) × (Int × Int × Bool) × Int × Int × Bool × (List Sum)) (fun a => ⟨[(0, .t (.sl 1 (a.1.map (eInt .u8)))), (4, .obj 4 0), (5, .t (.int .i64 0)), (6, .t (.bool false)), (7, .obj 7 0), (8, .t (.int .i64 a.2.1.1)), (11, .t (.int .i64 a.2.2.1.1)), (14, .t (.int .i64 a.2.2.2.1.1)), (15, .t (.int .i64 a.2.2.2.2.1)), (17, .obj 17 0), (18, .t (.int .i64 a.2.2.2.2.2.1)), (70, .t (.bool a.2.2.2.2.2.2.1))], [(4, [.t (.int .i64 0), .t (.int .i64 0), .t (.int .i64 0), .nil]), (7, [.t (.int .i64 0), .t (.int .i64 0), .t (.int .i64 0), .nil]), (17, [.t (.int .i64 a.2.1.1), .t (.int .i64 a.2.2.1.1), .t (.int .i64 a.2.2.2.1.1), .own 1114627])], [(1114627, .live 76 2 (a.2.2.2.2.2.2.2.map Sum.enc))]⟩) (fun a => spec_GetMan_j4 u (fun z0 z1 z2 z3 z4 z5 z6 => spec_GetMan_l3 u k_spec_GetMan_l3 z0 z1 z2 z3 z4 z5 z6) a.1 a.2.1 a.2.2.1 a.2.2.2.1 a.2.2.2.2.1 a.2.2.2.2.2.1 a.2.2.2.2.2.2.1 a.2.2.2.2.2.2.2 = some r) ?_ ?_
        · rintro ⟨p0, r1, r2, r3, x8, x9, x15, x10⟩ h
          change spec_GetMan_j4 u (fun z0 z1 z2 z3 z4 z5 z6 => spec_GetMan_l3 u k_spec_GetMan_l3 z0 z1 z2 z3 z4 z5 z6) p0 r1 r2 r3 x8 x9 x15 x10 = some r at h
          unfold spec_GetMan_j4 at h
          refine Wp.cond2 (b := x15) kr (fun hc => ?_) (fun hc => ?_)
          · have h := cond_t h hc
            refine Wp.skip (thenN ?_)
            refine Wp.seq ?_
            refine Wp.block ?_
            refine Wp.srg [] [] ?_
            refine Runs.batch 2 kr ?_
            obtain ⟨r16, e_r16, h⟩ := bind_some h
            refine Runs.callK false 76 56 [] [.t (.sl 1 (p0.map (eInt .u8))), .t (.int .i64 x8)] _ _ _ rfl rfl kr kr kr kr kr (spec_l6GetSum_ok u p0 x8 r16 e_r16) kr ?_
            refine Runs.alln ?_
            refine Wp.fg ⟨[(0, .t (.sl 1 (p0.map (eInt .u8)))), (4, .obj 4 0), (5, .t (.int .i64 0)), (6, .t (.bool false)), (7, .obj 7 0), (8, .t (.int .i64 r1.1)), (11, .t (.int .i64 r2.1)), (14, .t (.int .i64 r3.1)), (15, .t (.int .i64 x8)), (17, .obj 17 0), (18, .t (.int .i64 x9)), (19, .t (.int .i64 r16.1)), (20, .t (.int .i64 r16.2.1)), (21, .t (.bool r16.2.2))], [(4, [.t (.int .i64 0), .t (.int .i64 0), .t (.int .i64 0), .nil]), (7, [.t (.int .i64 0), .t (.int .i64 0), .t (.int .i64 0), .nil]), (17, [.t (.int .i64 r1.1), .t (.int .i64 r2.1), .t (.int .i64 r3.1), .own 1114627])], [(1114627, .live 76 2 (x10.map Sum.enc))]⟩ ?_
            refine Wp.seq ?_
            refine Wp.srg [] [] ?_
            refine Runs.alln ?_
            refine Wp.fg ⟨[(0, .t (.sl 1 (p0.map (eInt .u8)))), (4, .obj 4 0), (5, .t (.int .i64 0)), (6, .t (.bool false)), (7, .obj 7 0), (8, .t (.int .i64 r1.1)), (11, .t (.int .i64 r2.1)), (14, .t (.int .i64 r3.1)), (15, .t (.int .i64 x8)), (17, .obj 17 0), (18, .t (.int .i64 x9)), (19, .t (.int .i64 r16.1)), (20, .t (.int .i64 r16.2.1)), (81, .t (.bool (!r16.2.2)))], [(4, [.t (.int .i64 0), .t (.int .i64 0), .t (.int .i64 0), .nil]), (7, [.t (.int .i64 0), .t (.int .i64 0), .t (.int .i64 0), .nil]), (17, [.t (.int .i64 r1.1), .t (.int .i64 r2.1), .t (.int .i64 r3.1), .own 1114627])], [(1114627, .live 76 2 (x10.map Sum.enc))]⟩ ?_
            refine Wp.cond2 (b := !r16.2.2) kr (fun hc => ?_) (fun hc => ?_)
            · have h := cond_t h hc
              refine Wp.srg [] [] ?_
              refine Runs.alln ?_
              refine Wp.fg ⟨[(0, .t (.sl 1 (p0.map (eInt .u8)))), (4, .obj 4 0), (5, .t (.int .i64 0)), (6, .t (.bool false)), (7, .obj 7 0), (8, .t (.int .i64 r1.1)), (11, .t (.int .i64 r2.1)), (14, .t (.int .i64 r3.1)), (15, .t (.int .i64 x8)), (17, .obj 17 0), (18, .t (.int .i64 x9)), (19, .t (.int .i64 r16.1)), (20, .t (.int .i64 r16.2.1))], [(4, [.t (.int .i64 0), .t (.int .i64 0), .t (.int .i64 0), .nil]), (7, [.t (.int .i64 0), .t (.int .i64 0), .t (.int .i64 0), .nil]), (17, [.t (.int .i64 r1.1), .t (.int .i64 r2.1), .t (.int .i64 r3.1), .own 1114627])], [(1114627, .live 76 2 (x10.map Sum.enc))]⟩ ?_
              refine Wp.ret ?_
              refine thenR ?_
              refine blkR ?_
              refine thenR ?_
              refine thenR ?_
              refine blkR ?_
              refine thenR ?_
              obtain rfl := Option.some.inj h
              exact RetK [.agg [.t (.int .i64 0), .t (.int .i64 0), .t (.int .i64 0), .nil], .t (.int .i64 0), .t (.bool false)] (.tup [.agg [.t (.int .i64 0), .t (.int .i64 0), .t (.int .i64 0), .nil], .one (.t (.int .i64 0)), .one (.t (.bool false))]) [] kr kr (.tup (.cons (.agg (.cons (.refl _) (.cons (.refl _) (.cons (.refl _) (.cons (.nilO _ _) .nil))))) (.cons (.refl _) (.cons (.refl _) .nil)))) .nil
            have h := cond_f h hc
            refine Wp.skip (thenN ?_)
            refine Wp.srg [] [] ?_
            refine Runs.batch 1 kr ?_
            obtain ⟨r17, e_r17, h⟩ := bind_some h
            refine Runs.callK false 85 57 [] [.t (.int .i64 r16.1)] _ _ _ rfl rfl kr kr kr kr kr (spec_BytesOf_ok u r16.1 r17 e_r17) kr ?_
            refine Runs.alln ?_
            refine Wp.fg ⟨[(0, .t (.sl 1 (p0.map (eInt .u8)))), (4, .obj 4 0), (5, .t (.int .i64 0)), (6, .t (.bool false)), (7, .obj 7 0), (8, .t (.int .i64 r1.1)), (11, .t (.int .i64 r2.1)), (14, .t (.int .i64 r3.1)), (15, .t (.int .i64 x8)), (17, .obj 17 0), (18, .t (.int .i64 x9)), (19, .t (.int .i64 r16.1)), (20, .t (.int .i64 r16.2.1)), (22, .own 5570560)], [(4, [.t (.int .i64 0), .t (.int .i64 0), .t (.int .i64 0), .nil]), (7, [.t (.int .i64 0), .t (.int .i64 0), .t (.int .i64 0), .nil]), (17, [.t (.int .i64 r1.1), .t (.int .i64 r2.1), .t (.int .i64 r3.1), .own 1114627])], [(1114627, .live 76 2 (x10.map Sum.enc)), (5570560, .live 5 1 (r17.1.map (eInt .u8)))]⟩ ?_
            refine Wp.srg [] [] ?_
            refine Runs.batch 1 kr ?_
            obtain ⟨r18, e_r18, h⟩ := bind_some h
            refine Runs.callBK 89 58 [] [.own 5570560] [.one (.t (.sl 1 (r17.1.map (eInt .u8))))] (.agg [.t (.int .i64 r18.fW), .t (.int .i64 r18.fS)]) rfl rfl kr kr kr kr kr (spec_SumOf_ok u r17.1 r18 e_r18) (by simp [V.plain, V.plains, C.plain, T.sc]) kr ?_
            refine Runs.alln ?_
            refine Wp.fg ⟨[(0, .t (.sl 1 (p0.map (eInt .u8)))), (4, .obj 4 0), (5, .t (.int .i64 0)), (6, .t (.bool false)), (7, .obj 7 0), (8, .t (.int .i64 r1.1)), (11, .t (.int .i64 r2.1)), (14, .t (.int .i64 r3.1)), (15, .t (.int .i64 x8)), (17, .obj 17 0), (18, .t (.int .i64 x9)), (19, .t (.int .i64 r16.1)), (20, .t (.int .i64 r16.2.1)), (24, .obj 24 0)], [(4, [.t (.int .i64 0), .t (.int .i64 0), .t (.int .i64 0), .nil]), (7, [.t (.int .i64 0), .t (.int .i64 0), .t (.int .i64 0), .nil]), (17, [.t (.int .i64 r1.1), .t (.int .i64 r2.1), .t (.int .i64 r3.1), .own 1114627]), (24, [.t (.int .i64 r18.fW), .t (.int .i64 r18.fS)])], [(1114627, .live 76 2 (x10.map Sum.enc))]⟩ ?_
            refine Wp.srg [] [] ?_
            refine Runs.alln ?_
            refine Wp.fg ⟨[(0, .t (.sl 1 (p0.map (eInt .u8)))), (4, .obj 4 0), (5, .t (.int .i64 0)), (6, .t (.bool false)), (7, .obj 7 0), (8, .t (.int .i64 r1.1)), (11, .t (.int .i64 r2.1)), (14, .t (.int .i64 r3.1)), (15, .t (.int .i64 x8)), (17, .obj 17 0), (18, .t (.int .i64 x9)), (20, .t (.int .i64 r16.2.1)), (24, .obj 24 0)], [(4, [.t (.int .i64 0), .t (.int .i64 0), .t (.int .i64 0), .nil]), (7, [.t (.int .i64 0), .t (.int .i64 0), .t (.int .i64 0), .nil]), (17, [.t (.int .i64 r1.1), .t (.int .i64 r2.1), .t (.int .i64 r3.1), .own 1114627]), (24, [.t (.int .i64 r18.fW), .t (.int .i64 r16.1)])], [(1114627, .live 76 2 (x10.map Sum.enc))]⟩ ?_
            refine Wp.srg [] [] ?_
            refine Runs.batch 4 kr ?_
            obtain ⟨_, e_19, h⟩ := bind_some h
            refine Runs.appT (y := .own 6225920) Sum.enc 96 2 76 2 16 1114627 x10 ([(Sum.mk r18.fW r16.1)]) rfl rfl rfl rfl kr kr kr kr kr kr (.inl rfl) kr (of_decide_eq_true (chk_some e_19)) kr kr ?_
            refine Runs.alln ?_
            refine Wp.fg ⟨[(0, .t (.sl 1 (p0.map (eInt .u8)))), (4, .obj 4 0), (5, .t (.int .i64 0)), (6, .t (.bool false)), (7, .obj 7 0), (8, .t (.int .i64 r1.1)), (11, .t (.int .i64 r2.1)), (14, .t (.int .i64 r3.1)), (15, .t (.int .i64 x8)), (17, .obj 17 0), (18, .t (.int .i64 x9)), (20, .t (.int .i64 r16.2.1))], [(4, [.t (.int .i64 0), .t (.int .i64 0), .t (.int .i64 0), .nil]), (7, [.t (.int .i64 0), .t (.int .i64 0), .t (.int .i64 0), .nil]), (17, [.t (.int .i64 r1.1), .t (.int .i64 r2.1), .t (.int .i64 r3.1), .own 6291456])], [(6291456, .live 76 2 ((x10 ++ ([(Sum.mk r18.fW r16.1)])).map Sum.enc))]⟩ ?_
            refine Wp.rg [] [] ?_
            refine Runs.all kr ?_
            refine blkN ?_
            refine thenN ?_
            refine Wp.rg [] [] ?_
            refine Runs.alln ?_
            exact ⟨(p0, r1, r2, r3, r16.2.1, bAdd .i64 x9 1, x10 ++ ([(Sum.mk r18.fW r16.1)])), h, Le.of (mo := []) (mr := [(1114627, 6291456)]) kr kr kr kr⟩
          have h := cond_f h hc
          refine Wp.exit ?_
          refine thenE ?_
          refine thenE ?_
          refine blkE ?_
          refine thenN ?_
          exact ⟨(x8, r1, r2, r3, x10), h, Le.of (mo := []) (mr := []) kr kr kr kr⟩
        · refine Wp.rg [] [] ?_
          refine Runs.batch 3 kr ?_
          obtain ⟨r14, e_r14, h⟩ := bind_some h
          refine Runs.callK false 65 55 [] [.t (.int .i64 r2.1), .t (.int .i64 r3.1)] _ _ _ rfl rfl kr kr kr kr kr (spec_Blocks_ok u r2.1 r3.1 r14 e_r14) kr ?_
          refine Runs.batch 2 kr ?_
          rcases tf (decide (x9 < r14)) with hc | hc
          · have h := cond_t h hc
            refine Runs.known 67 (v := true) kr hc ?_
            refine Runs.alln ?_
            exact ⟨(p0, r1, r2, r3, x8, x9, decide (r1.1 > 0), x10), h, Le.of (mo := []) (mr := []) kr kr kr kr⟩
          have h := cond_f h hc
          refine Runs.known 67 (v := false) kr hc ?_
          refine Runs.alln ?_
          exact ⟨(p0, r1, r2, r3, x8, x9, false, x10), h, Le.of (mo := []) (mr := []) kr kr kr kr⟩
  · refine Wp.rg [] [] ?_
    refine Runs.batch 3 kr ?_
    rcases tf (!r1.2.2) with hc | hc
    · have h := cond_t h hc
      refine Runs.known 49 (v := true) kr hc ?_
      refine Runs.alln ?_
      exact ⟨(p0, r1, r2, r3, true), h, Le.of (mo := []) (mr := []) kr kr kr kr⟩
    have h := cond_f h hc
    refine Runs.known 49 (v := false) kr hc ?_
    refine Runs.batch 4 kr ?_
    rcases tf (!r2.2.2) with hc | hc
    · have h := cond_t h hc
      refine Runs.known 53 (v := true) kr hc ?_
      refine Runs.alln ?_
      exact ⟨(p0, r1, r2, r3, true), h, Le.of (mo := []) (mr := []) kr kr kr kr⟩
    have h := cond_f h hc
    refine Runs.known 53 (v := false) kr hc ?_
    refine Runs.alln ?_
    exact ⟨(p0, r1, r2, r3, !r3.2.2), h, Le.of (mo := []) (mr := []) kr kr kr kr⟩
theorem spec_GetPart_ok (u : Nat) (p0 : List Int) (p1 : Int) (p2 : Int) (r : (List Int) × Int × Bool) (h : spec_GetPart u p0 p1 p2 = some r) : CallOK Tryd.prog 31 [.one (.t (.sl 1 (p0.map (eInt .u8)))), .one (.t (.int .i64 p1)), .one (.t (.int .i64 p2))] (.tup [.one (.ow 5 1 (r.1.map (eInt .u8))), .one (.t (.int .i64 r.2.1)), .one (.t (.bool r.2.2))]) [] := by
  unfold spec_GetPart at h
  refine CallOK.of_bodyK (fn := Tryd.f31) (m := true) [.t (.sl 1 (p0.map (eInt .u8))), .t (.int .i64 p1), .t (.int .i64 p2)] kr rfl kr kr kr kr kr ?_
  refine Wp.srg [] [] ?_
  refine Runs.alln ?_
  refine Wp.fg ⟨[(0, .t (.sl 1 (p0.map (eInt .u8)))), (1, .t (.int .i64 p1)), (2, .t (.int .i64 p2)), (6, .nil), (7, .t (.int .i64 0)), (8, .t (.bool false))], [], []⟩ ?_
  refine Wp.srg [] [] ?_
  refine Runs.batch 2 kr ?_
  obtain ⟨r1, e_r1, h⟩ := bind_some h
  refine Runs.callK false 15 18 [] [.t (.sl 1 (p0.map (eInt .u8))), .t (.int .i64 p1)] _ _ _ rfl rfl kr kr kr kr kr (spec_GetVar_ok u p0 p1 r1 e_r1) kr ?_
  refine Runs.alln ?_
  refine Wp.fg ⟨[(0, .t (.sl 1 (p0.map (eInt .u8)))), (2, .t (.int .i64 p2)), (6, .nil), (7, .t (.int .i64 0)), (8, .t (.bool false)), (9, .t (.int .i64 r1.1)), (10, .t (.int .i64 r1.2.1)), (11, .t (.bool r1.2.2))], [], []⟩ ?_
  refine Wp.seq ?_
  refine Wp.seqJ (α := (List Int) × (Int × Int × Bool) × Bool) (fun a => ⟨[(0, .t (.sl 1 (a.1.map (eInt .u8)))), (6, .nil), (7, .t (.int .i64 0)), (8, .t (.bool false)), (9, .t (.int .i64 a.2.1.1)), (10, .t (.int .i64 a.2.1.2.1)), (33, .t (.bool a.2.2))], [], []⟩) (fun a => spec_GetPart_j1 u a.1 a.2.1 a.2.2 = some r) ?_ ?_
  · rintro ⟨p0, r1, x2⟩ h
    change spec_GetPart_j1 u p0 r1 x2 = some r at h
    unfold spec_GetPart_j1 at h
    refine Wp.cond2 (b := x2) kr (fun hc => ?_) (fun hc => ?_)
    · have h := cond_t h hc
      refine Wp.srg [] [] ?_
      refine Runs.alln ?_
      refine Wp.fg ⟨[(0, .t (.sl 1 (p0.map (eInt .u8)))), (6, .own 2228224), (7, .t (.int .i64 0)), (8, .t (.bool false)), (9, .t (.int .i64 r1.1)), (10, .t (.int .i64 r1.2.1))], [], [(2228224, .live 5 1 ((([] : List Int)).map (eInt .u8)))]⟩ ?_
      refine Wp.ret ?_
      refine thenR ?_
      obtain rfl := Option.some.inj h
      exact RetK [.own 2228224, .t (.int .i64 0), .t (.bool false)] _ [] kr kr (.refl _) .nil
    have h := cond_f h hc
    refine Wp.skip (thenN ?_)
    refine Wp.srg [] [] ?_
    refine Runs.batch 6 kr ?_
    obtain ⟨_, e_3, h⟩ := bind_some h
    refine Runs.subsl (e := 5) (ax := .t (.sl 1 (p0.map (eInt .u8)))) (alo := (some (.t (.int .i64 r1.2.1)))) (ahi := (some (.t (.int .i64 (bAdd .i64 r1.2.1 r1.1))))) (eInt .u8) p0 1 r1.2.1 (bAdd .i64 r1.2.1 r1.1) rfl kr kr kr kr kr kr kr kr kr kr kr (chk_some e_3) ?_
    obtain ⟨_, e_4, h⟩ := bind_some h
    refine Runs.appT (y := .t (.sl 1 (((p0.take (Int.toNat (bAdd .i64 r1.2.1 r1.1))).drop (Int.toNat r1.2.1)).map (eInt .u8)))) (eInt .u8) 42 1 5 1 1 2293760 (([] : List Int)) ((p0.take (Int.toNat (bAdd .i64 r1.2.1 r1.1))).drop (Int.toNat r1.2.1)) rfl rfl rfl rfl kr kr kr kr kr kr (.inl rfl) kr (of_decide_eq_true (chk_some e_4)) kr kr ?_
    refine Runs.alln ?_
    refine Wp.fg ⟨[(6, .own 2752512), (7, .t (.int .i64 (bAdd .i64 r1.2.1 r1.1))), (8, .t (.bool true))], [], [(2752512, .live 5 1 (((([] : List Int)) ++ ((p0.take (Int.toNat (bAdd .i64 r1.2.1 r1.1))).drop (Int.toNat r1.2.1))).map (eInt .u8)))]⟩ ?_
    refine Wp.ret ?_
    obtain rfl := Option.some.inj h
    exact RetK [.own 2752512, .t (.int .i64 (bAdd .i64 r1.2.1 r1.1)), .t (.bool true)] _ [] kr kr (.refl _) .nil
  · refine Wp.rg [] [] ?_
    refine Runs.batch 3 kr ?_
    rcases tf (!r1.2.2) with hc | hc
    · have h := cond_t h hc
      refine Runs.known 21 (v := true) kr hc ?_
      refine Runs.alln ?_
      exact ⟨(p0, r1, true), h, Le.of (mo := []) (mr := []) kr kr kr kr⟩
    have h := cond_f h hc
    refine Runs.known 21 (v := false) kr hc ?_
    refine Runs.batch 5 kr ?_
    rcases tf (decide (r1.1 > p2)) with hc | hc
    · have h := cond_t h hc
      refine Runs.known 26 (v := true) kr hc ?_
      refine Runs.alln ?_
      exact ⟨(p0, r1, true), h, Le.of (mo := []) (mr := []) kr kr kr kr⟩
    have h := cond_f h hc
    refine Runs.known 26 (v := false) kr hc ?_
    refine Runs.batch 2 kr ?_
    refine Runs.lenT (y := .t (.sl 1 (p0.map (eInt .u8)))) (e := 5) (eInt .u8) p0 1 rfl rfl rfl kr kr kr kr kr ?_
    refine Runs.alln ?_
    exact ⟨(p0, r1, decide (r1.1 > (bSub .i64 ((p0.length : Int)) r1.2.1))), h, Le.of (mo := []) (mr := []) kr kr kr kr⟩
theorem spec_l12Body_ok (u : Nat) (p0 : List Int) (p1 : Int) (p2 : Int) (r : Msg × Int × Bool) (h : spec_l12Body u p0 p1 p2 = some r) : CallOK Tryd.prog 19 [.one (.t (.sl 1 (p0.map (eInt .u8)))), .one (.t (.int .i64 p1)), .one (.t (.int .i64 p2))] (.tup [.agg [.t (.int .i64 r.1.fKind), .t (.int .i64 r.1.fGen), .t (.int .i64 r.1.fMan.fGen), .t (.int .i64 r.1.fMan.fSize), .t (.int .i64 r.1.fMan.fLen), .ow 76 2 (r.1.fMan.fSums.map Sum.enc), .t (.int .i64 r.1.fWant), .t (.int .i64 r.1.fDone), .t (.int .i64 r.1.fI), .ow 5 1 (r.1.fB.map (eInt .u8))], .one (.t (.int .i64 r.2.1)), .one (.t (.bool r.2.2))]) [] := by
  unfold spec_l12Body at h
  refine CallOK.of_bodyK (fn := Tryd.f19) (m := true) [.t (.sl 1 (p0.map (eInt .u8))), .t (.int .i64 p1), .t (.int .i64 p2)] kr rfl kr kr kr kr kr ?_
  refine Wp.srg [] [] ?_
  refine Runs.alln ?_
  refine Wp.fg ⟨[(0, .t (.sl 1 (p0.map (eInt .u8)))), (1, .t (.int .i64 p1)), (2, .t (.int .i64 p2)), (6, .obj 6 0), (7, .t (.int .i64 0)), (8, .t (.bool false))], [(6, [.t (.int .i64 0), .t (.int .i64 0), .t (.int .i64 0), .t (.int .i64 0), .t (.int .i64 0), .nil, .t (.int .i64 0), .t (.int .i64 0), .t (.int .i64 0), .nil])], []⟩ ?_
  refine Wp.srg [] [] ?_
  refine Runs.alln ?_
  refine Wp.fg ⟨[(0, .t (.sl 1 (p0.map (eInt .u8)))), (1, .t (.int .i64 p1)), (2, .t (.int .i64 p2)), (6, .obj 6 0), (7, .t (.int .i64 0)), (8, .t (.bool false)), (9, .obj 9 0)], [(6, [.t (.int .i64 0), .t (.int .i64 0), .t (.int .i64 0), .t (.int .i64 0), .t (.int .i64 0), .nil, .t (.int .i64 0), .t (.int .i64 0), .t (.int .i64 0), .nil]), (9, [.t (.int .i64 p2), .t (.int .i64 0), .t (.int .i64 0), .t (.int .i64 0), .t (.int .i64 0), .nil, .t (.int .i64 0), .t (.int .i64 0), .t (.int .i64 0), .nil])], []⟩ ?_
  refine Wp.seq ?_
  refine Wp.srg [] [] ?_
  refine Runs.alln ?_
  refine Wp.fg ⟨[(0, .t (.sl 1 (p0.map (eInt .u8)))), (1, .t (.int .i64 p1)), (2, .t (.int .i64 p2)), (6, .obj 6 0), (7, .t (.int .i64 0)), (8, .t (.bool false)), (9, .obj 9 0), (30, .t (.bool (p2 == 1)))], [(6, [.t (.int .i64 0), .t (.int .i64 0), .t (.int .i64 0), .t (.int .i64 0), .t (.int .i64 0), .nil, .t (.int .i64 0), .t (.int .i64 0), .t (.int .i64 0), .nil]), (9, [.t (.int .i64 p2), .t (.int .i64 0), .t (.int .i64 0), .t (.int .i64 0), .t (.int .i64 0), .nil, .t (.int .i64 0), .t (.int .i64 0), .t (.int .i64 0), .nil])], []⟩ ?_
  refine Wp.cond2 (b := p2 == 1) kr (fun hc => ?_) (fun hc => ?_)
  · have h := cond_t h hc
    refine Wp.srg [] [] ?_
    refine Runs.batch 2 kr ?_
    obtain ⟨r1, e_r1, h⟩ := bind_some h
    refine Runs.callK false 34 30 [] [.t (.sl 1 (p0.map (eInt .u8))), .t (.int .i64 p1)] _ _ _ rfl rfl kr kr kr kr kr (spec_GetMan_ok u p0 p1 r1 e_r1) kr ?_
    refine Runs.alln ?_
    refine Wp.fg ⟨[(0, .t (.sl 1 (p0.map (eInt .u8)))), (1, .t (.int .i64 p1)), (2, .t (.int .i64 p2)), (6, .obj 6 0), (7, .t (.int .i64 0)), (8, .t (.bool false)), (9, .obj 9 0), (10, .obj 10 0), (11, .t (.int .i64 r1.2.1)), (12, .t (.bool r1.2.2))], [(6, [.t (.int .i64 0), .t (.int .i64 0), .t (.int .i64 0), .t (.int .i64 0), .t (.int .i64 0), .nil, .t (.int .i64 0), .t (.int .i64 0), .t (.int .i64 0), .nil]), (9, [.t (.int .i64 p2), .t (.int .i64 0), .t (.int .i64 0), .t (.int .i64 0), .t (.int .i64 0), .nil, .t (.int .i64 0), .t (.int .i64 0), .t (.int .i64 0), .nil]), (10, [.t (.int .i64 r1.1.fGen), .t (.int .i64 r1.1.fSize), .t (.int .i64 r1.1.fLen), .own 2228227])], [(2228227, .live 76 2 (r1.1.fSums.map Sum.enc))]⟩ ?_
    refine Wp.srg [] [] ?_
    refine Runs.alln ?_
    refine Wp.fg ⟨[(0, .t (.sl 1 (p0.map (eInt .u8)))), (1, .t (.int .i64 p1)), (2, .t (.int .i64 p2)), (6, .obj 6 0), (7, .t (.int .i64 0)), (8, .t (.bool false)), (9, .obj 9 0), (11, .t (.int .i64 r1.2.1)), (12, .t (.bool r1.2.2))], [(6, [.t (.int .i64 0), .t (.int .i64 0), .t (.int .i64 0), .t (.int .i64 0), .t (.int .i64 0), .nil, .t (.int .i64 0), .t (.int .i64 0), .t (.int .i64 0), .nil]), (9, [.t (.int .i64 p2), .t (.int .i64 0), .t (.int .i64 r1.1.fGen), .t (.int .i64 r1.1.fSize), .t (.int .i64 r1.1.fLen), .own 2228227, .t (.int .i64 0), .t (.int .i64 0), .t (.int .i64 0), .nil])], [(2228227, .live 76 2 (r1.1.fSums.map Sum.enc))]⟩ ?_
    refine Wp.srg [] [] ?_
    refine Runs.alln ?_
    refine Wp.fg ⟨[(0, .t (.sl 1 (p0.map (eInt .u8)))), (1, .t (.int .i64 p1)), (2, .t (.int .i64 p2)), (6, .obj 6 0), (7, .t (.int .i64 r1.2.1)), (8, .t (.bool r1.2.2)), (9, .obj 9 0)], [(6, [.t (.int .i64 p2), .t (.int .i64 0), .t (.int .i64 r1.1.fGen), .t (.int .i64 r1.1.fSize), .t (.int .i64 r1.1.fLen), .own 2228227, .t (.int .i64 0), .t (.int .i64 0), .t (.int .i64 0), .nil]), (9, [.t (.int .i64 p2), .t (.int .i64 0), .t (.int .i64 r1.1.fGen), .t (.int .i64 r1.1.fSize), .t (.int .i64 r1.1.fLen), .own 2228227, .t (.int .i64 0), .t (.int .i64 0), .t (.int .i64 0), .nil])], [(2228227, .live 76 2 (r1.1.fSums.map Sum.enc))]⟩ ?_
    refine Wp.ret ?_
    refine thenR ?_
    obtain rfl := Option.some.inj h
    exact RetK [.agg [.t (.int .i64 p2), .t (.int .i64 0), .t (.int .i64 r1.1.fGen), .t (.int .i64 r1.1.fSize), .t (.int .i64 r1.1.fLen), .own 2228227, .t (.int .i64 0), .t (.int .i64 0), .t (.int .i64 0), .nil], .t (.int .i64 r1.2.1), .t (.bool r1.2.2)] (.tup [.agg [.t (.int .i64 p2), .t (.int .i64 0), .t (.int .i64 r1.1.fGen), .t (.int .i64 r1.1.fSize), .t (.int .i64 r1.1.fLen), .ow 76 2 (r1.1.fSums.map Sum.enc), .t (.int .i64 0), .t (.int .i64 0), .t (.int .i64 0), .nil], .one (.t (.int .i64 r1.2.1)), .one (.t (.bool r1.2.2))]) [] kr kr (.tup (.cons (.agg (.cons (.refl _) (.cons (.refl _) (.cons (.refl _) (.cons (.refl _) (.cons (.refl _) (.cons (.refl _) (.cons (.refl _) (.cons (.refl _) (.cons (.refl _) (.cons (.nilO _ _) .nil))))))))))) (.cons (.refl _) (.cons (.refl _) .nil)))) .nil
  have h := cond_f h hc
  refine Wp.skip (thenN ?_)
  refine Wp.srg [] [] ?_
  refine Runs.batch 2 kr ?_
  obtain ⟨r2, e_r2, h⟩ := bind_some h
  refine Runs.callK false 46 18 [] [.t (.sl 1 (p0.map (eInt .u8))), .t (.int .i64 p1)] _ _ _ rfl rfl kr kr kr kr kr (spec_GetVar_ok u p0 p1 r2 e_r2) kr ?_
  refine Runs.alln ?_
  refine Wp.fg ⟨[(0, .t (.sl 1 (p0.map (eInt .u8)))), (2, .t (.int .i64 p2)), (6, .obj 6 0), (7, .t (.int .i64 0)), (8, .t (.bool false)), (9, .obj 9 0), (13, .t (.int .i64 r2.1)), (14, .t (.int .i64 r2.2.1)), (15, .t (.bool r2.2.2))], [(6, [.t (.int .i64 0), .t (.int .i64 0), .t (.int .i64 0), .t (.int .i64 0), .t (.int .i64 0), .nil, .t (.int .i64 0), .t (.int .i64 0), .t (.int .i64 0), .nil]), (9, [.t (.int .i64 p2), .t (.int .i64 0), .t (.int .i64 0), .t (.int .i64 0), .t (.int .i64 0), .nil, .t (.int .i64 0), .t (.int .i64 0), .t (.int .i64 0), .nil])], []⟩ ?_
  refine Wp.srg [] [] ?_
  refine Runs.alln ?_
  refine Wp.fg ⟨[(0, .t (.sl 1 (p0.map (eInt .u8)))), (2, .t (.int .i64 p2)), (6, .obj 6 0), (7, .t (.int .i64 0)), (8, .t (.bool false)), (9, .obj 9 0), (14, .t (.int .i64 r2.2.1)), (15, .t (.bool r2.2.2))], [(6, [.t (.int .i64 0), .t (.int .i64 0), .t (.int .i64 0), .t (.int .i64 0), .t (.int .i64 0), .nil, .t (.int .i64 0), .t (.int .i64 0), .t (.int .i64 0), .nil]), (9, [.t (.int .i64 p2), .t (.int .i64 r2.1), .t (.int .i64 0), .t (.int .i64 0), .t (.int .i64 0), .nil, .t (.int .i64 0), .t (.int .i64 0), .t (.int .i64 0), .nil])], []⟩ ?_
  refine Wp.seqJ (α := Int × Int × (Int × Int × Bool) × Int × Int) (fun a => ⟨[(6, .obj 6 0), (7, .t (.int .i64 0)), (8, .t (.bool false)), (9, .obj 9 0), (14, .t (.int .i64 a.1))], [(6, [.t (.int .i64 0), .t (.int .i64 0), .t (.int .i64 0), .t (.int .i64 0), .t (.int .i64 0), .nil, .t (.int .i64 0), .t (.int .i64 0), .t (.int .i64 0), .nil]), (9, [.t (.int .i64 a.2.1), .t (.int .i64 a.2.2.1.1), .t (.int .i64 0), .t (.int .i64 0), .t (.int .i64 0), .nil, .t (.int .i64 a.2.2.2.1), .t (.int .i64 a.2.2.2.2), .t (.int .i64 0), .nil])], []⟩) (fun a => spec_l12Body_j1 u a.1 a.2.1 a.2.2.1 a.2.2.2.1 a.2.2.2.2 = some r) ?_ ?_
  · rintro ⟨x20, p2, r2, x21, x22⟩ h
    change spec_l12Body_j1 u x20 p2 r2 x21 x22 = some r at h
    unfold spec_l12Body_j1 at h
    refine Wp.srg [] [] ?_
    refine Runs.alln ?_
    refine Wp.fg ⟨[(6, .obj 6 0), (7, .t (.int .i64 x20)), (8, .t (.bool true))], [(6, [.t (.int .i64 p2), .t (.int .i64 r2.1), .t (.int .i64 0), .t (.int .i64 0), .t (.int .i64 0), .nil, .t (.int .i64 x21), .t (.int .i64 x22), .t (.int .i64 0), .nil])], []⟩ ?_
    refine Wp.ret ?_
    obtain rfl := Option.some.inj h
    exact RetK [.agg [.t (.int .i64 p2), .t (.int .i64 r2.1), .t (.int .i64 0), .t (.int .i64 0), .t (.int .i64 0), .nil, .t (.int .i64 x21), .t (.int .i64 x22), .t (.int .i64 0), .nil], .t (.int .i64 x20), .t (.bool true)] (.tup [.agg [.t (.int .i64 p2), .t (.int .i64 r2.1), .t (.int .i64 0), .t (.int .i64 0), .t (.int .i64 0), .nil, .t (.int .i64 x21), .t (.int .i64 x22), .t (.int .i64 0), .nil], .one (.t (.int .i64 x20)), .one (.t (.bool true))]) [] kr kr (.tup (.cons (.agg (.cons (.refl _) (.cons (.refl _) (.cons (.refl _) (.cons (.refl _) (.cons (.refl _) (.cons (.nilO _ _) (.cons (.refl _) (.cons (.refl _) (.cons (.refl _) (.cons (.nilO _ _) .nil))))))))))) (.cons (.refl _) (.cons (.refl _) .nil)))) .nil
  · refine Wp.block ?_
    refine Wp.srg [] [] ?_
    refine Runs.alln ?_
    refine Wp.fg ⟨[(0, .t (.sl 1 (p0.map (eInt .u8)))), (2, .t (.int .i64 p2)), (6, .obj 6 0), (7, .t (.int .i64 0)), (8, .t (.bool false)), (9, .obj 9 0), (14, .t (.int .i64 r2.2.1)), (52, .t (.bool (!r2.2.2)))], [(6, [.t (.int .i64 0), .t (.int .i64 0), .t (.int .i64 0), .t (.int .i64 0), .t (.int .i64 0), .nil, .t (.int .i64 0), .t (.int .i64 0), .t (.int .i64 0), .nil]), (9, [.t (.int .i64 p2), .t (.int .i64 r2.1), .t (.int .i64 0), .t (.int .i64 0), .t (.int .i64 0), .nil, .t (.int .i64 0), .t (.int .i64 0), .t (.int .i64 0), .nil])], []⟩ ?_
    refine Wp.cond2 (b := !r2.2.2) kr (fun hc => ?_) (fun hc => ?_)
    · have h := cond_t h hc
      refine Wp.srg [] [] ?_
      refine Runs.alln ?_
      refine Wp.fg ⟨[(6, .obj 6 0), (7, .t (.int .i64 0)), (8, .t (.bool false)), (9, .obj 9 0), (14, .t (.int .i64 r2.2.1))], [(6, [.t (.int .i64 p2), .t (.int .i64 r2.1), .t (.int .i64 0), .t (.int .i64 0), .t (.int .i64 0), .nil, .t (.int .i64 0), .t (.int .i64 0), .t (.int .i64 0), .nil]), (9, [.t (.int .i64 p2), .t (.int .i64 r2.1), .t (.int .i64 0), .t (.int .i64 0), .t (.int .i64 0), .nil, .t (.int .i64 0), .t (.int .i64 0), .t (.int .i64 0), .nil])], []⟩ ?_
      refine Wp.ret ?_
      refine blkR ?_
      refine thenR ?_
      obtain rfl := Option.some.inj h
      exact RetK [.agg [.t (.int .i64 p2), .t (.int .i64 r2.1), .t (.int .i64 0), .t (.int .i64 0), .t (.int .i64 0), .nil, .t (.int .i64 0), .t (.int .i64 0), .t (.int .i64 0), .nil], .t (.int .i64 0), .t (.bool false)] (.tup [.agg [.t (.int .i64 p2), .t (.int .i64 r2.1), .t (.int .i64 0), .t (.int .i64 0), .t (.int .i64 0), .nil, .t (.int .i64 0), .t (.int .i64 0), .t (.int .i64 0), .nil], .one (.t (.int .i64 0)), .one (.t (.bool false))]) [] kr kr (.tup (.cons (.agg (.cons (.refl _) (.cons (.refl _) (.cons (.refl _) (.cons (.refl _) (.cons (.refl _) (.cons (.nilO _ _) (.cons (.refl _) (.cons (.refl _) (.cons (.refl _) (.cons (.nilO _ _) .nil))))))))))) (.cons (.refl _) (.cons (.refl _) .nil)))) .nil
    have h := cond_f h hc
    refine Wp.srg [] [] ?_
    refine Runs.alln ?_
    refine Wp.fg ⟨[(0, .t (.sl 1 (p0.map (eInt .u8)))), (2, .t (.int .i64 p2)), (6, .obj 6 0), (7, .t (.int .i64 0)), (8, .t (.bool false)), (9, .obj 9 0), (14, .t (.int .i64 r2.2.1)), (56, .t (.bool (p2 == 2)))], [(6, [.t (.int .i64 0), .t (.int .i64 0), .t (.int .i64 0), .t (.int .i64 0), .t (.int .i64 0), .nil, .t (.int .i64 0), .t (.int .i64 0), .t (.int .i64 0), .nil]), (9, [.t (.int .i64 p2), .t (.int .i64 r2.1), .t (.int .i64 0), .t (.int .i64 0), .t (.int .i64 0), .nil, .t (.int .i64 0), .t (.int .i64 0), .t (.int .i64 0), .nil])], []⟩ ?_
    refine Wp.cond2 (b := p2 == 2) kr (fun hc => ?_) (fun hc => ?_)
    · have h := cond_t h hc
      refine Wp.srg [] [] ?_
      refine Runs.alln ?_
      refine Wp.fg ⟨[(0, .t (.sl 1 (p0.map (eInt .u8)))), (6, .obj 6 0), (7, .t (.int .i64 0)), (8, .t (.bool false)), (9, .obj 9 0), (14, .t (.int .i64 r2.2.1)), (16, .own 3866624)], [(6, [.t (.int .i64 0), .t (.int .i64 0), .t (.int .i64 0), .t (.int .i64 0), .t (.int .i64 0), .nil, .t (.int .i64 0), .t (.int .i64 0), .t (.int .i64 0), .nil]), (9, [.t (.int .i64 p2), .t (.int .i64 r2.1), .t (.int .i64 0), .t (.int .i64 0), .t (.int .i64 0), .nil, .t (.int .i64 0), .t (.int .i64 0), .t (.int .i64 0), .nil])], [(3866624, .live 3 1 ((([] : List Int)).map (eInt .i64)))]⟩ ?_
      refine Wp.seqJ (α := Int × (List Int) × Int × (Int × Int × Bool)) (fun a => ⟨[(6, .obj 6 0), (7, .t (.int .i64 0)), (8, .t (.bool false)), (9, .obj 9 0), (14, .t (.int .i64 a.1)), (16, .own 1048577)], [(6, [.t (.int .i64 0), .t (.int .i64 0), .t (.int .i64 0), .t (.int .i64 0), .t (.int .i64 0), .nil, .t (.int .i64 0), .t (.int .i64 0), .t (.int .i64 0), .nil]), (9, [.t (.int .i64 a.2.2.1), .t (.int .i64 a.2.2.2.1), .t (.int .i64 0), .t (.int .i64 0), .t (.int .i64 0), .nil, .t (.int .i64 0), .t (.int .i64 0), .t (.int .i64 0), .nil])], [(1048577, .live 3 1 (a.2.1.map (eInt .i64)))]⟩) (fun a => spec_l12Body_j2 u a.1 a.2.1 a.2.2.1 a.2.2.2 = some r) ?_ ?_
      · rintro ⟨x14, x15, p2, r2⟩ h
        change spec_l12Body_j2 u x14 x15 p2 r2 = some r at h
        unfold spec_l12Body_j2 at h
        refine Wp.seq ?_
        refine Wp.regionA (pOf []) (rhoOf [(9, .obj 9), (16, .own 16), (83, .own 16), (84, .el 16), (85, .frz), (86, .own 16), (87, .el 16), (88, .frz), (89, .frz), (90, .frz), (91, .obj 9)]) kr kr ?_
        refine Runs.batch 1 kr ?_
        obtain ⟨y16, e_y16, h⟩ := bind_some h
        refine Runs.idxO (e := 3) (e' := 3) (kk := .i64) (sz := 1) (eInt .i64) x15 0 1048577 rfl kr kr kr kr kr kr kr e_y16 ?_
        refine Runs.loadE (e' := 3) (sz := 1) (m := 1) (gg := false) (eInt .i64) x15 1048577 (Int.toNat 0) 0 (.t (.int .i64 y16)) rfl kr kr kr kr kr kr (idx_some e_y16).2 kr ?_
        refine Runs.batch 1 kr ?_
        obtain ⟨y17, e_y17, h⟩ := bind_some h
        refine Runs.idxO (e := 3) (e' := 3) (kk := .i64) (sz := 1) (eInt .i64) x15 1 1048577 rfl kr kr kr kr kr kr kr e_y17 ?_
        refine Runs.loadE (e' := 3) (sz := 1) (m := 1) (gg := false) (eInt .i64) x15 1048577 (Int.toNat 1) 0 (.t (.int .i64 y17)) rfl kr kr kr kr kr kr (idx_some e_y17).2 kr ?_
        refine Runs.alln ?_
        refine Wp.fg ⟨[(6, .obj 6 0), (7, .t (.int .i64 0)), (8, .t (.bool false)), (9, .obj 9 0), (14, .t (.int .i64 x14)), (16, .own 1048577)], [(6, [.t (.int .i64 0), .t (.int .i64 0), .t (.int .i64 0), .t (.int .i64 0), .t (.int .i64 0), .nil, .t (.int .i64 0), .t (.int .i64 0), .t (.int .i64 0), .nil]), (9, [.t (.int .i64 p2), .t (.int .i64 r2.1), .t (.int .i64 0), .t (.int .i64 0), .t (.int .i64 0), .nil, .t (.int .i64 (bAdd .i64 y16 (bShl .i64 y17 20))), .t (.int .i64 0), .t (.int .i64 0), .nil])], [(1048577, .live 3 1 (x15.map (eInt .i64)))]⟩ ?_
        refine Wp.regionA (pOf []) (rhoOf [(9, .obj 9), (16, .own 16), (92, .own 16), (93, .el 16), (94, .frz), (95, .own 16), (96, .el 16), (97, .frz), (98, .frz), (99, .frz), (100, .obj 9)]) kr kr ?_
        refine Runs.batch 1 kr ?_
        obtain ⟨y18, e_y18, h⟩ := bind_some h
        refine Runs.idxO (e := 3) (e' := 3) (kk := .i64) (sz := 1) (eInt .i64) x15 2 1048577 rfl kr kr kr kr kr kr kr e_y18 ?_
        refine Runs.loadE (e' := 3) (sz := 1) (m := 1) (gg := false) (eInt .i64) x15 1048577 (Int.toNat 2) 0 (.t (.int .i64 y18)) rfl kr kr kr kr kr kr (idx_some e_y18).2 kr ?_
        refine Runs.batch 1 kr ?_
        obtain ⟨y19, e_y19, h⟩ := bind_some h
        refine Runs.idxO (e := 3) (e' := 3) (kk := .i64) (sz := 1) (eInt .i64) x15 3 1048577 rfl kr kr kr kr kr kr kr e_y19 ?_
        refine Runs.loadE (e' := 3) (sz := 1) (m := 1) (gg := false) (eInt .i64) x15 1048577 (Int.toNat 3) 0 (.t (.int .i64 y19)) rfl kr kr kr kr kr kr (idx_some e_y19).2 kr ?_
        refine Runs.all kr ?_
        refine blkN ?_
        refine thenN ?_
        exact ⟨(x14, p2, r2, bAdd .i64 y16 (bShl .i64 y17 20), bAdd .i64 y18 (bShl .i64 y19 20)), h, Le.of (mo := []) (mr := []) kr kr kr kr⟩
      · refine Wp.srg [] [] ?_
        refine Runs.alln ?_
        refine Wp.fg ⟨[(0, .t (.sl 1 (p0.map (eInt .u8)))), (6, .obj 6 0), (7, .t (.int .i64 0)), (8, .t (.bool false)), (9, .obj 9 0), (14, .t (.int .i64 r2.2.1)), (16, .own 3866624), (17, .t (.int .i64 0))], [(6, [.t (.int .i64 0), .t (.int .i64 0), .t (.int .i64 0), .t (.int .i64 0), .t (.int .i64 0), .nil, .t (.int .i64 0), .t (.int .i64 0), .t (.int .i64 0), .nil]), (9, [.t (.int .i64 p2), .t (.int .i64 r2.1), .t (.int .i64 0), .t (.int .i64 0), .t (.int .i64 0), .nil, .t (.int .i64 0), .t (.int .i64 0), .t (.int .i64 0), .nil])], [(3866624, .live 3 1 ((([] : List Int)).map (eInt .i64)))]⟩ ?_
        refine Wp.block ?_
        refine Wp.loopF (α := (List Int) × Int × (List Int) × Int × Int × (Int × Int × Bool)) (fun a => ⟨[(0, .t (.sl 1 (a.1.map (eInt .u8)))), (6, .obj 6 0), (7, .t (.int .i64 0)), (8, .t (.bool false)), (9, .obj 9 0), (14, .t (.int .i64 a.2.1)), (16, .own 1048577), (17, .t (.int .i64 a.2.2.2.1))], [(6, [.t (.int .i64 0), .t (.int .i64 0), .t (.int .i64 0), .t (.int .i64 0), .t (.int .i64 0), .nil, .t (.int .i64 0), .t (.int .i64 0), .t (.int .i64 0), .nil]), (9, [.t (.int .i64 a.2.2.2.2.1), .t (.int .i64 a.2.2.2.2.2.1), .t (.int .i64 0), .t (.int .i64 0), .t (.int .i64 0), .nil, .t (.int .i64 0), .t (.int .i64 0), .t (.int .i64 0), .nil])], [(1048577, .live 3 1 (a.2.2.1.map (eInt .i64)))]⟩) (fun k_spec_l12Body_l3 a => spec_l12Body_l3 u k_spec_l12Body_l3 a.1 a.2.1 a.2.2.1 a.2.2.2.1 a.2.2.2.2.1 a.2.2.2.2.2 = some r) ?_ ?_ u (p0, r2.2.1, ([] : List Int), 0, p2, r2) h (Le.of (mo := []) (mr := [(1048577, 3866624)]) kr kr kr kr)
        · intro a h; unfold spec_l12Body_l3 at h; cases h
        · rintro k_spec_l12Body_l3 ⟨p0, x6, x7, x8, p2, r2⟩ h
          change spec_l12Body_l3 u (k_spec_l12Body_l3 + 1) p0 x6 x7 x8 p2 r2 = some r at h
          rw [spec_l12Body_l3] at h
          refine Wp.seq ?_
          refine Wp.srg [] [] ?_
          refine Runs.alln ?_
          refine Wp.fg ⟨[(0, .t (.sl 1 (p0.map (eInt .u8)))), (6, .obj 6 0), (7, .t (.int .i64 0)), (8, .t (.bool false)), (9, .obj 9 0), (14, .t (.int .i64 x6)), (16, .own 1048577), (17, .t (.int .i64 x8)), (61, .t (.bool (decide (x8 < 4))))], [(6, [.t (.int .i64 0), .t (.int .i64 0), .t (.int .i64 0), .t (.int .i64 0), .t (.int .i64 0), .nil, .t (.int .i64 0), .t (.int .i64 0), .t (.int .i64 0), .nil]), (9, [.t (.int .i64 p2), .t (.int .i64 r2.1), .t (.int .i64 0), .t (.int .i64 0), .t (.int .i64 0), .nil, .t (.int .i64 0), .t (.int .i64 0), .t (.int .i64 0), .nil])], [(1048577, .live 3 1 (x7.map (eInt .i64)))]⟩ ?_
          refine Wp.cond2 (b := decide (x8 < 4)) kr (fun hc => ?_) (fun hc => ?_)
          · have h := cond_t h hc
            refine Wp.skip (thenN ?_)
            refine Wp.seq ?_
            refine Wp.block ?_
            refine Wp.srg [] [] ?_
            refine Runs.batch 2 kr ?_
            obtain ⟨r12, e_r12, h⟩ := bind_some h
            refine Runs.callK false 67 18 [] [.t (.sl 1 (p0.map (eInt .u8))), .t (.int .i64 x6)] _ _ _ rfl rfl kr kr kr kr kr (spec_GetVar_ok u p0 x6 r12 e_r12) kr ?_
            refine Runs.alln ?_
            refine Wp.fg ⟨[(0, .t (.sl 1 (p0.map (eInt .u8)))), (6, .obj 6 0), (7, .t (.int .i64 0)), (8, .t (.bool false)), (9, .obj 9 0), (14, .t (.int .i64 x6)), (16, .own 1048577), (17, .t (.int .i64 x8)), (18, .t (.int .i64 r12.1)), (19, .t (.int .i64 r12.2.1)), (20, .t (.bool r12.2.2))], [(6, [.t (.int .i64 0), .t (.int .i64 0), .t (.int .i64 0), .t (.int .i64 0), .t (.int .i64 0), .nil, .t (.int .i64 0), .t (.int .i64 0), .t (.int .i64 0), .nil]), (9, [.t (.int .i64 p2), .t (.int .i64 r2.1), .t (.int .i64 0), .t (.int .i64 0), .t (.int .i64 0), .nil, .t (.int .i64 0), .t (.int .i64 0), .t (.int .i64 0), .nil])], [(1048577, .live 3 1 (x7.map (eInt .i64)))]⟩ ?_
            refine Wp.seq ?_
            refine Wp.seqJ (α := (List Int) × Int × (List Int) × Int × (Int × Int × Bool) × Bool × Int × (Int × Int × Bool)) (fun a => ⟨[(0, .t (.sl 1 (a.1.map (eInt .u8)))), (6, .obj 6 0), (7, .t (.int .i64 0)), (8, .t (.bool false)), (9, .obj 9 0), (14, .t (.int .i64 a.2.1)), (16, .own 1048577), (17, .t (.int .i64 a.2.2.2.1)), (18, .t (.int .i64 a.2.2.2.2.1.1)), (19, .t (.int .i64 a.2.2.2.2.1.2.1)), (76, .t (.bool a.2.2.2.2.2.1))], [(6, [.t (.int .i64 0), .t (.int .i64 0), .t (.int .i64 0), .t (.int .i64 0), .t (.int .i64 0), .nil, .t (.int .i64 0), .t (.int .i64 0), .t (.int .i64 0), .nil]), (9, [.t (.int .i64 a.2.2.2.2.2.2.1), .t (.int .i64 a.2.2.2.2.2.2.2.1), .t (.int .i64 0), .t (.int .i64 0), .t (.int .i64 0), .nil, .t (.int .i64 0), .t (.int .i64 0), .t (.int .i64 0), .nil])], [(1048577, .live 3 1 (a.2.2.1.map (eInt .i64)))]⟩) (fun a => spec_l12Body_j4 u (fun z0 z1 z2 z3 z4 z5 => spec_l12Body_l3 u k_spec_l12Body_l3 z0 z1 z2 z3 z4 z5) a.1 a.2.1 a.2.2.1 a.2.2.2.1 a.2.2.2.2.1 a.2.2.2.2.2.1 a.2.2.2.2.2.2.1 a.2.2.2.2.2.2.2 = some r) ?_ ?_
            · rintro ⟨p0, x6, x7, x8, r12, x13, p2, r2⟩ h
              change spec_l12Body_j4 u (fun z0 z1 z2 z3 z4 z5 => spec_l12Body_l3 u k_spec_l12Body_l3 z0 z1 z2 z3 z4 z5) p0 x6 x7 x8 r12 x13 p2 r2 = some r at h
              unfold spec_l12Body_j4 at h
              refine Wp.cond2 (b := x13) kr (fun hc => ?_) (fun hc => ?_)
              · have h := cond_t h hc
                refine Wp.srg [] [] ?_
                refine Runs.alln ?_
                refine Wp.fg ⟨[(0, .t (.sl 1 (p0.map (eInt .u8)))), (6, .obj 6 0), (7, .t (.int .i64 0)), (8, .t (.bool false)), (9, .obj 9 0), (14, .t (.int .i64 x6)), (16, .own 1048577), (17, .t (.int .i64 x8)), (18, .t (.int .i64 r12.1)), (19, .t (.int .i64 r12.2.1))], [(6, [.t (.int .i64 p2), .t (.int .i64 r2.1), .t (.int .i64 0), .t (.int .i64 0), .t (.int .i64 0), .nil, .t (.int .i64 0), .t (.int .i64 0), .t (.int .i64 0), .nil]), (9, [.t (.int .i64 p2), .t (.int .i64 r2.1), .t (.int .i64 0), .t (.int .i64 0), .t (.int .i64 0), .nil, .t (.int .i64 0), .t (.int .i64 0), .t (.int .i64 0), .nil])], [(1048577, .live 3 1 (x7.map (eInt .i64)))]⟩ ?_
                refine Wp.ret ?_
                refine thenR ?_
                refine blkR ?_
                refine thenR ?_
                refine thenR ?_
                refine blkR ?_
                refine thenR ?_
                refine blkR ?_
                refine thenR ?_
                obtain rfl := Option.some.inj h
                exact RetK [.agg [.t (.int .i64 p2), .t (.int .i64 r2.1), .t (.int .i64 0), .t (.int .i64 0), .t (.int .i64 0), .nil, .t (.int .i64 0), .t (.int .i64 0), .t (.int .i64 0), .nil], .t (.int .i64 0), .t (.bool false)] (.tup [.agg [.t (.int .i64 p2), .t (.int .i64 r2.1), .t (.int .i64 0), .t (.int .i64 0), .t (.int .i64 0), .nil, .t (.int .i64 0), .t (.int .i64 0), .t (.int .i64 0), .nil], .one (.t (.int .i64 0)), .one (.t (.bool false))]) [] kr kr (.tup (.cons (.agg (.cons (.refl _) (.cons (.refl _) (.cons (.refl _) (.cons (.refl _) (.cons (.refl _) (.cons (.nilO _ _) (.cons (.refl _) (.cons (.refl _) (.cons (.refl _) (.cons (.nilO _ _) .nil))))))))))) (.cons (.refl _) (.cons (.refl _) .nil)))) .nil
              have h := cond_f h hc
              refine Wp.skip (thenN ?_)
              refine Wp.srg [] [] ?_
              refine Runs.batch 3 kr ?_
              obtain ⟨_, e_14, h⟩ := bind_some h
              refine Runs.appT (y := .own 5242880) (eInt .i64) 81 1 3 1 8 1048577 x7 ([r12.1]) rfl rfl rfl rfl kr kr kr kr kr kr (.inl rfl) kr (of_decide_eq_true (chk_some e_14)) kr kr ?_
              refine Runs.alln ?_
              refine Wp.fg ⟨[(0, .t (.sl 1 (p0.map (eInt .u8)))), (6, .obj 6 0), (7, .t (.int .i64 0)), (8, .t (.bool false)), (9, .obj 9 0), (14, .t (.int .i64 x6)), (16, .own 5308416), (17, .t (.int .i64 x8)), (19, .t (.int .i64 r12.2.1))], [(6, [.t (.int .i64 0), .t (.int .i64 0), .t (.int .i64 0), .t (.int .i64 0), .t (.int .i64 0), .nil, .t (.int .i64 0), .t (.int .i64 0), .t (.int .i64 0), .nil]), (9, [.t (.int .i64 p2), .t (.int .i64 r2.1), .t (.int .i64 0), .t (.int .i64 0), .t (.int .i64 0), .nil, .t (.int .i64 0), .t (.int .i64 0), .t (.int .i64 0), .nil])], [(5308416, .live 3 1 ((x7 ++ ([r12.1])).map (eInt .i64)))]⟩ ?_
              refine Wp.rg [] [] ?_
              refine Runs.all kr ?_
              refine blkN ?_
              refine thenN ?_
              refine Wp.rg [] [] ?_
              refine Runs.alln ?_
              exact ⟨(p0, r12.2.1, x7 ++ ([r12.1]), bAdd .i64 x8 1, p2, r2), h, Le.of (mo := []) (mr := [(1048577, 5308416)]) kr kr kr kr⟩
            · refine Wp.rg [] [] ?_
              refine Runs.batch 3 kr ?_
              rcases tf (!r12.2.2) with hc | hc
              · have h := cond_t h hc
                refine Runs.known 73 (v := true) kr hc ?_
                refine Runs.alln ?_
                exact ⟨(p0, x6, x7, x8, r12, true, p2, r2), h, Le.of (mo := []) (mr := []) kr kr kr kr⟩
              have h := cond_f h hc
              refine Runs.known 73 (v := false) kr hc ?_
              refine Runs.alln ?_
              exact ⟨(p0, x6, x7, x8, r12, decide (r12.1 ≥ 1048576), p2, r2), h, Le.of (mo := []) (mr := []) kr kr kr kr⟩
          have h := cond_f h hc
          refine Wp.exit ?_
          refine thenE ?_
          refine thenE ?_
          refine blkE ?_
          refine thenN ?_
          exact ⟨(x6, x7, p2, r2), h, Le.of (mo := []) (mr := []) kr kr kr kr⟩
    have h := cond_f h hc
    refine Wp.srg [] [] ?_
    refine Runs.alln ?_
    refine Wp.fg ⟨[(0, .t (.sl 1 (p0.map (eInt .u8)))), (6, .obj 6 0), (7, .t (.int .i64 0)), (8, .t (.bool false)), (9, .obj 9 0), (14, .t (.int .i64 r2.2.1)), (101, .t (.bool (p2 == 3)))], [(6, [.t (.int .i64 0), .t (.int .i64 0), .t (.int .i64 0), .t (.int .i64 0), .t (.int .i64 0), .nil, .t (.int .i64 0), .t (.int .i64 0), .t (.int .i64 0), .nil]), (9, [.t (.int .i64 p2), .t (.int .i64 r2.1), .t (.int .i64 0), .t (.int .i64 0), .t (.int .i64 0), .nil, .t (.int .i64 0), .t (.int .i64 0), .t (.int .i64 0), .nil])], []⟩ ?_
    refine Wp.cond2 (b := p2 == 3) kr (fun hc => ?_) (fun hc => ?_)
    · have h := cond_t h hc
      refine Wp.srg [] [] ?_
      refine Runs.batch 2 kr ?_
      obtain ⟨r13, e_r13, h⟩ := bind_some h
      refine Runs.callK false 107 18 [] [.t (.sl 1 (p0.map (eInt .u8))), .t (.int .i64 r2.2.1)] _ _ _ rfl rfl kr kr kr kr kr (spec_GetVar_ok u p0 r2.2.1 r13 e_r13) kr ?_
      refine Runs.alln ?_
      refine Wp.fg ⟨[(0, .t (.sl 1 (p0.map (eInt .u8)))), (6, .obj 6 0), (7, .t (.int .i64 0)), (8, .t (.bool false)), (9, .obj 9 0), (14, .t (.int .i64 r2.2.1)), (21, .t (.int .i64 r13.1)), (22, .t (.int .i64 r13.2.1)), (23, .t (.bool r13.2.2))], [(6, [.t (.int .i64 0), .t (.int .i64 0), .t (.int .i64 0), .t (.int .i64 0), .t (.int .i64 0), .nil, .t (.int .i64 0), .t (.int .i64 0), .t (.int .i64 0), .nil]), (9, [.t (.int .i64 p2), .t (.int .i64 r2.1), .t (.int .i64 0), .t (.int .i64 0), .t (.int .i64 0), .nil, .t (.int .i64 0), .t (.int .i64 0), .t (.int .i64 0), .nil])], []⟩ ?_
      refine Wp.srg [] [] ?_
      refine Runs.batch 2 kr ?_
      obtain ⟨r14, e_r14, h⟩ := bind_some h
      refine Runs.callK false 114 31 [] [.t (.sl 1 (p0.map (eInt .u8))), .t (.int .i64 r13.2.1), .t (.int .i64 6)] _ _ _ rfl rfl kr kr kr kr kr (spec_GetPart_ok u p0 r13.2.1 6 r14 e_r14) kr ?_
      refine Runs.alln ?_
      refine Wp.fg ⟨[(6, .obj 6 0), (7, .t (.int .i64 0)), (8, .t (.bool false)), (9, .obj 9 0), (14, .t (.int .i64 r2.2.1)), (21, .t (.int .i64 r13.1)), (23, .t (.bool r13.2.2)), (24, .own 7471104), (25, .t (.int .i64 r14.2.1)), (26, .t (.bool r14.2.2))], [(6, [.t (.int .i64 0), .t (.int .i64 0), .t (.int .i64 0), .t (.int .i64 0), .t (.int .i64 0), .nil, .t (.int .i64 0), .t (.int .i64 0), .t (.int .i64 0), .nil]), (9, [.t (.int .i64 p2), .t (.int .i64 r2.1), .t (.int .i64 0), .t (.int .i64 0), .t (.int .i64 0), .nil, .t (.int .i64 0), .t (.int .i64 0), .t (.int .i64 0), .nil])], [(7471104, .live 5 1 (r14.1.map (eInt .u8)))]⟩ ?_
      refine Wp.srg [] [] ?_
      refine Runs.alln ?_
      refine Wp.fg ⟨[(6, .obj 6 0), (7, .t (.int .i64 0)), (8, .t (.bool false)), (9, .obj 9 0), (14, .t (.int .i64 r2.2.1)), (23, .t (.bool r13.2.2)), (24, .own 7471104), (25, .t (.int .i64 r14.2.1)), (26, .t (.bool r14.2.2))], [(6, [.t (.int .i64 0), .t (.int .i64 0), .t (.int .i64 0), .t (.int .i64 0), .t (.int .i64 0), .nil, .t (.int .i64 0), .t (.int .i64 0), .t (.int .i64 0), .nil]), (9, [.t (.int .i64 p2), .t (.int .i64 r2.1), .t (.int .i64 0), .t (.int .i64 0), .t (.int .i64 0), .nil, .t (.int .i64 0), .t (.int .i64 0), .t (.int .i64 r13.1), .nil])], [(7471104, .live 5 1 (r14.1.map (eInt .u8)))]⟩ ?_
      refine Wp.srg [] [] ?_
      refine Runs.alln ?_
      refine Wp.fg ⟨[(6, .obj 6 0), (7, .t (.int .i64 0)), (8, .t (.bool false)), (9, .obj 9 0), (14, .t (.int .i64 r2.2.1)), (23, .t (.bool r13.2.2)), (25, .t (.int .i64 r14.2.1)), (26, .t (.bool r14.2.2))], [(6, [.t (.int .i64 0), .t (.int .i64 0), .t (.int .i64 0), .t (.int .i64 0), .t (.int .i64 0), .nil, .t (.int .i64 0), .t (.int .i64 0), .t (.int .i64 0), .nil]), (9, [.t (.int .i64 p2), .t (.int .i64 r2.1), .t (.int .i64 0), .t (.int .i64 0), .t (.int .i64 0), .nil, .t (.int .i64 0), .t (.int .i64 0), .t (.int .i64 r13.1), .own 7471104])], [(7471104, .live 5 1 (r14.1.map (eInt .u8)))]⟩ ?_
      refine Wp.srg [] [] ?_
      refine Runs.batch 4 kr ?_
      rcases tf (r13.2.2) with hc | hc
      · have h := cond_t h hc
        refine Runs.known 125 (v := true) kr hc ?_
        refine Runs.alln ?_
        refine Wp.fg ⟨[(6, .obj 6 0), (7, .t (.int .i64 r14.2.1)), (8, .t (.bool r14.2.2)), (9, .obj 9 0), (14, .t (.int .i64 r2.2.1))], [(6, [.t (.int .i64 p2), .t (.int .i64 r2.1), .t (.int .i64 0), .t (.int .i64 0), .t (.int .i64 0), .nil, .t (.int .i64 0), .t (.int .i64 0), .t (.int .i64 r13.1), .own 7471104]), (9, [.t (.int .i64 p2), .t (.int .i64 r2.1), .t (.int .i64 0), .t (.int .i64 0), .t (.int .i64 0), .nil, .t (.int .i64 0), .t (.int .i64 0), .t (.int .i64 r13.1), .own 7471104])], [(7471104, .live 5 1 (r14.1.map (eInt .u8)))]⟩ ?_
        refine Wp.ret ?_
        refine blkR ?_
        refine thenR ?_
        obtain rfl := Option.some.inj h
        exact RetK [.agg [.t (.int .i64 p2), .t (.int .i64 r2.1), .t (.int .i64 0), .t (.int .i64 0), .t (.int .i64 0), .nil, .t (.int .i64 0), .t (.int .i64 0), .t (.int .i64 r13.1), .own 7471104], .t (.int .i64 r14.2.1), .t (.bool r14.2.2)] (.tup [.agg [.t (.int .i64 p2), .t (.int .i64 r2.1), .t (.int .i64 0), .t (.int .i64 0), .t (.int .i64 0), .nil, .t (.int .i64 0), .t (.int .i64 0), .t (.int .i64 r13.1), .ow 5 1 (r14.1.map (eInt .u8))], .one (.t (.int .i64 r14.2.1)), .one (.t (.bool r14.2.2))]) [] kr kr (.tup (.cons (.agg (.cons (.refl _) (.cons (.refl _) (.cons (.refl _) (.cons (.refl _) (.cons (.refl _) (.cons (.nilO _ _) (.cons (.refl _) (.cons (.refl _) (.cons (.refl _) (.cons (.refl _) .nil))))))))))) (.cons (.refl _) (.cons (.refl _) .nil)))) .nil
      have h := cond_f h hc
      refine Runs.known 125 (v := false) kr hc ?_
      refine Runs.alln ?_
      refine Wp.fg ⟨[(6, .obj 6 0), (7, .t (.int .i64 r14.2.1)), (8, .t (.bool false)), (9, .obj 9 0), (14, .t (.int .i64 r2.2.1))], [(6, [.t (.int .i64 p2), .t (.int .i64 r2.1), .t (.int .i64 0), .t (.int .i64 0), .t (.int .i64 0), .nil, .t (.int .i64 0), .t (.int .i64 0), .t (.int .i64 r13.1), .own 7471104]), (9, [.t (.int .i64 p2), .t (.int .i64 r2.1), .t (.int .i64 0), .t (.int .i64 0), .t (.int .i64 0), .nil, .t (.int .i64 0), .t (.int .i64 0), .t (.int .i64 r13.1), .own 7471104])], [(7471104, .live 5 1 (r14.1.map (eInt .u8)))]⟩ ?_
      refine Wp.ret ?_
      refine blkR ?_
      refine thenR ?_
      obtain rfl := Option.some.inj h
      exact RetK [.agg [.t (.int .i64 p2), .t (.int .i64 r2.1), .t (.int .i64 0), .t (.int .i64 0), .t (.int .i64 0), .nil, .t (.int .i64 0), .t (.int .i64 0), .t (.int .i64 r13.1), .own 7471104], .t (.int .i64 r14.2.1), .t (.bool false)] (.tup [.agg [.t (.int .i64 p2), .t (.int .i64 r2.1), .t (.int .i64 0), .t (.int .i64 0), .t (.int .i64 0), .nil, .t (.int .i64 0), .t (.int .i64 0), .t (.int .i64 r13.1), .ow 5 1 (r14.1.map (eInt .u8))], .one (.t (.int .i64 r14.2.1)), .one (.t (.bool false))]) [] kr kr (.tup (.cons (.agg (.cons (.refl _) (.cons (.refl _) (.cons (.refl _) (.cons (.refl _) (.cons (.refl _) (.cons (.nilO _ _) (.cons (.refl _) (.cons (.refl _) (.cons (.refl _) (.cons (.refl _) .nil))))))))))) (.cons (.refl _) (.cons (.refl _) .nil)))) .nil
    have h := cond_f h hc
    refine Wp.skip ?_
    refine blkN ?_
    refine thenN ?_
    exact ⟨(r2.2.1, p2, r2, 0, 0), h, Le.of (mo := []) (mr := []) kr kr kr kr⟩
theorem spec_l6SameSums_ok (u : Nat) (p0 : List Sum) (p1 : List Sum) (r : Bool) (h : spec_l6SameSums u p0 p1 = some r) : CallOK Tryd.prog 59 [.one (.t (.sl 2 (p0.map Sum.enc))), .one (.t (.sl 2 (p1.map Sum.enc)))] (.one (.t (.bool r))) [] := by
  unfold spec_l6SameSums at h
  refine CallOK.of_bodyK (fn := Tryd.f59) (m := false) [.t (.sl 2 (p0.map Sum.enc)), .t (.sl 2 (p1.map Sum.enc))] kr rfl kr kr kr kr kr ?_
  refine Wp.srg [] [] ?_
  refine Runs.alln ?_
  refine Wp.fg ⟨[(0, .t (.sl 2 (p0.map Sum.enc))), (1, .t (.sl 2 (p1.map Sum.enc))), (4, .t (.bool false))], [], []⟩ ?_
  refine Wp.seq ?_
  refine Wp.srg [] [] ?_
  refine Runs.batch 1 kr ?_
  refine Runs.lenT (y := .t (.sl 2 (p0.map Sum.enc))) (e := 76) Sum.enc p0 2 rfl rfl rfl kr kr kr kr kr ?_
  refine Runs.batch 1 kr ?_
  refine Runs.lenT (y := .t (.sl 2 (p1.map Sum.enc))) (e := 76) Sum.enc p1 2 rfl rfl rfl kr kr kr kr kr ?_
  refine Runs.alln ?_
  refine Wp.fg ⟨[(0, .t (.sl 2 (p0.map Sum.enc))), (1, .t (.sl 2 (p1.map Sum.enc))), (4, .t (.bool false)), (10, .t (.bool (((p0.length : Int)) != ((p1.length : Int)))))], [], []⟩ ?_
  refine Wp.cond2 (b := ((p0.length : Int)) != ((p1.length : Int))) kr (fun hc => ?_) (fun hc => ?_)
  · have h := cond_t h hc
    refine Wp.srg [] [] ?_
    refine Runs.alln ?_
    refine Wp.fg ⟨[(0, .t (.sl 2 (p0.map Sum.enc))), (1, .t (.sl 2 (p1.map Sum.enc))), (4, .t (.bool false))], [], []⟩ ?_
    refine Wp.ret ?_
    refine thenR ?_
    obtain rfl := Option.some.inj h
    exact RetK [.t (.bool false)] _ [] kr kr (.refl _) .nil
  have h := cond_f h hc
  refine Wp.skip (thenN ?_)
  refine Wp.seqJ (α := Unit) (fun a => ⟨[(4, .t (.bool false))], [], []⟩) (fun a => spec_l6SameSums_j1 u = some r) ?_ ?_
  · rintro ⟨⟩ h
    change spec_l6SameSums_j1 u = some r at h
    unfold spec_l6SameSums_j1 at h
    refine Wp.srg [] [] ?_
    refine Runs.alln ?_
    refine Wp.fg ⟨[(4, .t (.bool true))], [], []⟩ ?_
    refine Wp.ret ?_
    obtain rfl := Option.some.inj h
    exact RetK [.t (.bool true)] _ [] kr kr (.refl _) .nil
  · refine Wp.srg [] [] ?_
    refine Runs.alln ?_
    refine Wp.fg ⟨[(0, .t (.sl 2 (p0.map Sum.enc))), (1, .t (.sl 2 (p1.map Sum.enc))), (4, .t (.bool false)), (5, .t (.int .i64 0))], [], []⟩ ?_
    refine Wp.block ?_
    refine Wp.loopF (α := (List Sum) × (List Sum) × Int) (fun a => ⟨[(0, .t (.sl 2 (a.1.map Sum.enc))), (1, .t (.sl 2 (a.2.1.map Sum.enc))), (4, .t (.bool false)), (5, .t (.int .i64 a.2.2))], [], []⟩) (fun k_spec_l6SameSums_l2 a => spec_l6SameSums_l2 u k_spec_l6SameSums_l2 a.1 a.2.1 a.2.2 = some r) ?_ ?_ u (p0, p1, 0) h (Le.of (mo := []) (mr := []) kr kr kr kr)
    · intro a h; unfold spec_l6SameSums_l2 at h; cases h
    · rintro k_spec_l6SameSums_l2 ⟨p0, p1, x2⟩ h
      change spec_l6SameSums_l2 u (k_spec_l6SameSums_l2 + 1) p0 p1 x2 = some r at h
      rw [spec_l6SameSums_l2] at h
      refine Wp.seq ?_
      refine Wp.srg [] [] ?_
      refine Runs.batch 2 kr ?_
      refine Runs.lenT (y := .t (.sl 2 (p0.map Sum.enc))) (e := 76) Sum.enc p0 2 rfl rfl rfl kr kr kr kr kr ?_
      refine Runs.alln ?_
      refine Wp.fg ⟨[(0, .t (.sl 2 (p0.map Sum.enc))), (1, .t (.sl 2 (p1.map Sum.enc))), (4, .t (.bool false)), (5, .t (.int .i64 x2)), (14, .t (.bool (decide (x2 < ((p0.length : Int))))))], [], []⟩ ?_
      refine Wp.cond2 (b := decide (x2 < ((p0.length : Int)))) kr (fun hc => ?_) (fun hc => ?_)
      · have h := cond_t h hc
        refine Wp.skip (thenN ?_)
        refine Wp.seq ?_
        refine Wp.block ?_
        refine Wp.seq ?_
        refine Wp.regionA (pOf []) (rhoOf [(0, .frz), (1, .frz), (5, .frz), (17, .frz), (18, .frz), (19, .frz), (20, .frz), (21, .frz), (22, .frz), (23, .frz), (24, .frz)]) kr kr ?_
        refine Runs.batch 2 kr ?_
        obtain ⟨y4, e_y4, h⟩ := bind_some h
        refine Runs.idxT (e := 76) (kk := .i64) (sz := 2) Sum.enc p0 x2 rfl kr kr kr kr kr kr e_y4 ?_
        refine Runs.batch 3 kr ?_
        obtain ⟨y5, e_y5, h⟩ := bind_some h
        refine Runs.idxT (e := 76) (kk := .i64) (sz := 2) Sum.enc p1 x2 rfl kr kr kr kr kr kr e_y5 ?_
        refine Runs.alln ?_
        refine Wp.fg ⟨[(0, .t (.sl 2 (p0.map Sum.enc))), (1, .t (.sl 2 (p1.map Sum.enc))), (4, .t (.bool false)), (5, .t (.int .i64 x2)), (25, .t (.bool (!([y4.fW, y4.fS] == [y5.fW, y5.fS]))))], [], []⟩ ?_
        refine Wp.cond2 (b := !([y4.fW, y4.fS] == [y5.fW, y5.fS])) kr (fun hc => ?_) (fun hc => ?_)
        · have h := cond_t h hc
          refine Wp.srg [] [] ?_
          refine Runs.alln ?_
          refine Wp.fg ⟨[(0, .t (.sl 2 (p0.map Sum.enc))), (1, .t (.sl 2 (p1.map Sum.enc))), (4, .t (.bool false)), (5, .t (.int .i64 x2))], [], []⟩ ?_
          refine Wp.ret ?_
          refine blkR ?_
          refine thenR ?_
          refine thenR ?_
          refine blkR ?_
          refine thenR ?_
          obtain rfl := Option.some.inj h
          exact RetK [.t (.bool false)] _ [] kr kr (.refl _) .nil
        have h := cond_f h hc
        refine Wp.skip ?_
        refine blkN ?_
        refine thenN ?_
        refine Wp.rg [] [] ?_
        refine Runs.alln ?_
        exact ⟨(p0, p1, bAdd .i64 x2 1), h, Le.of (mo := []) (mr := []) kr kr kr kr⟩
      have h := cond_f h hc
      refine Wp.exit ?_
      refine thenE ?_
      refine thenE ?_
      refine blkE ?_
      refine thenN ?_
      exact ⟨(), h, Le.of (mo := []) (mr := []) kr kr kr kr⟩
theorem spec_SameMan_ok (u : Nat) (p0 : Manifest) (p1 : Manifest) (r : Bool) (h : spec_SameMan u p0 p1 = some r) : CallOK Tryd.prog 32 [.agg [.t (.int .i64 p0.fGen), .t (.int .i64 p0.fSize), .t (.int .i64 p0.fLen), .t (.sl 2 (p0.fSums.map Sum.enc))], .agg [.t (.int .i64 p1.fGen), .t (.int .i64 p1.fSize), .t (.int .i64 p1.fLen), .t (.sl 2 (p1.fSums.map Sum.enc))]] (.one (.t (.bool r))) [] := by
  unfold spec_SameMan at h
  refine CallOK.of_bodyK (fn := Tryd.f32) (m := false) [.agg ((Manifest.enc p0).map .t), .agg ((Manifest.enc p1).map .t)] kr rfl kr kr kr kr kr ?_
  refine Wp.srg [] [] ?_
  refine Runs.alln ?_
  refine Wp.fg ⟨[(2, .obj 2 0), (3, .obj 3 0), (4, .t (.bool false))], [(2, ((Manifest.enc p0).map .t)), (3, ((Manifest.enc p1).map .t))], []⟩ ?_
  refine Wp.srg [] [] ?_
  refine Runs.batch 6 kr ?_
  rcases tf (p0.fGen == p1.fGen) with hc | hc
  · have h := cond_t h hc
    refine Runs.known 10 (v := true) kr hc ?_
    refine Runs.batch 7 kr ?_
    rcases tf (p0.fSize == p1.fSize) with hc | hc
    · have h := cond_t h hc
      refine Runs.known 17 (v := true) kr hc ?_
      refine Runs.batch 7 kr ?_
      rcases tf (p0.fLen == p1.fLen) with hc | hc
      · have h := cond_t h hc
        refine Runs.known 24 (v := true) kr hc ?_
        refine Runs.batch 4 kr ?_
        obtain ⟨r1, e_r1, h⟩ := bind_some h
        refine Runs.callK false 29 59 [] [.t (.sl 2 (p0.fSums.map Sum.enc)), .t (.sl 2 (p1.fSums.map Sum.enc))] _ _ _ rfl rfl kr kr kr kr kr (spec_l6SameSums_ok u p0.fSums p1.fSums r1 e_r1) kr ?_
        refine Runs.alln ?_
        refine Wp.fg ⟨[(4, .t (.bool r1))], [], []⟩ ?_
        refine Wp.ret ?_
        obtain rfl := Option.some.inj h
        exact RetK [.t (.bool r1)] _ [] kr kr (.refl _) .nil
      have h := cond_f h hc
      refine Runs.known 24 (v := false) kr hc ?_
      refine Runs.alln ?_
      refine Wp.fg ⟨[(4, .t (.bool false))], [], []⟩ ?_
      refine Wp.ret ?_
      obtain rfl := Option.some.inj h
      exact RetK [.t (.bool false)] _ [] kr kr (.refl _) .nil
    have h := cond_f h hc
    refine Runs.known 17 (v := false) kr hc ?_
    refine Runs.alln ?_
    refine Wp.fg ⟨[(4, .t (.bool false))], [], []⟩ ?_
    refine Wp.ret ?_
    obtain rfl := Option.some.inj h
    exact RetK [.t (.bool false)] _ [] kr kr (.refl _) .nil
  have h := cond_f h hc
  refine Runs.known 10 (v := false) kr hc ?_
  refine Runs.alln ?_
  refine Wp.fg ⟨[(4, .t (.bool false))], [], []⟩ ?_
  refine Wp.ret ?_
  obtain rfl := Option.some.inj h
  exact RetK [.t (.bool false)] _ [] kr kr (.refl _) .nil
theorem spec_SetOk_ok (u : Nat) (p0 : Int) (r : Bool) (h : spec_SetOk u p0 = some r) : CallOK Tryd.prog 35 [.one (.t (.int .i64 p0))] (.one (.t (.bool r))) [] := by
  unfold spec_SetOk at h
  refine CallOK.of_bodyK (fn := Tryd.f35) (m := false) [.t (.int .i64 p0)] kr rfl kr kr kr kr kr ?_
  refine Wp.srg [] [] ?_
  refine Runs.alln ?_
  refine Wp.fg ⟨[(0, .t (.int .i64 p0)), (2, .t (.bool false))], [], []⟩ ?_
  refine Wp.srg [] [] ?_
  refine Runs.batch 1 kr ?_
  obtain ⟨r1, e_r1, h⟩ := bind_some h
  refine Runs.callK false 4 34 [] [.t (.int .i64 p0), .t (.int .i64 0), .t (.int .i64 1099511627775)] _ _ _ rfl rfl kr kr kr kr kr (spec_l1In_ok u p0 0 1099511627775 r1 e_r1) kr ?_
  refine Runs.alln ?_
  refine Wp.fg ⟨[(2, .t (.bool r1))], [], []⟩ ?_
  refine Wp.ret ?_
  obtain rfl := Option.some.inj h
  exact RetK [.t (.bool r1)] _ [] kr kr (.refl _) .nil
theorem spec_MsgOk_ok (u : Nat) (p0 : Msg) (r : Bool) (h : spec_MsgOk u p0 = some r) : CallOK Tryd.prog 20 [.agg [.t (.int .i64 p0.fKind), .t (.int .i64 p0.fGen), .t (.int .i64 p0.fMan.fGen), .t (.int .i64 p0.fMan.fSize), .t (.int .i64 p0.fMan.fLen), .t (.sl 2 (p0.fMan.fSums.map Sum.enc)), .t (.int .i64 p0.fWant), .t (.int .i64 p0.fDone), .t (.int .i64 p0.fI), .t (.sl 1 (p0.fB.map (eInt .u8)))]] (.one (.t (.bool r))) [] := by
  unfold spec_MsgOk at h
  refine CallOK.of_bodyK (fn := Tryd.f20) (m := false) [.agg ((Msg.enc p0).map .t)] kr rfl kr kr kr kr kr ?_
  refine Wp.srg [] [] ?_
  refine Runs.alln ?_
  refine Wp.fg ⟨[(1, .obj 1 0), (2, .t (.bool false))], [(1, ((Msg.enc p0).map .t))], []⟩ ?_
  refine Wp.srg [] [] ?_
  refine Runs.batch 3 kr ?_
  obtain ⟨r1, e_r1, h⟩ := bind_some h
  refine Runs.callK false 8 32 [] [.agg ((Manifest.enc p0.fMan).map .t), .agg [.t (.int .i64 0), .t (.int .i64 0), .t (.int .i64 0), .nil]] [.agg ((Manifest.enc p0.fMan).map .t), .agg [.t (.int .i64 0), .t (.int .i64 0), .t (.int .i64 0), .t (.sl 0 [])]] (.one (.t (.bool r1))) [] rfl rfl kr kr kr kr kr ((spec_SameMan_ok u p0.fMan ((Manifest.mk 0 0 0 ([]))) r1 e_r1).le (.cons (.refl _) (.cons (.agg (.cons (.refl _) (.cons (.refl _) (.cons (.refl _) (.cons (.sz _ _) .nil))))) .nil))) kr ?_
  refine Runs.alln ?_
  refine Wp.fg ⟨[(1, .obj 1 0), (2, .t (.bool false)), (3, .t (.bool r1))], [(1, ((Msg.enc p0).map .t))], []⟩ ?_
  refine Wp.seqJ (α := Bool × Bool × Msg) (fun a => ⟨[(1, .obj 1 0), (2, .t (.bool false)), (3, .t (.bool a.1)), (4, .t (.bool a.2.1))], [(1, ((Msg.enc a.2.2).map .t))], []⟩) (fun a => spec_MsgOk_j1 u a.1 a.2.1 a.2.2 = some r) ?_ ?_
  · rintro ⟨r1, x2, p0⟩ h
    change spec_MsgOk_j1 u r1 x2 p0 = some r at h
    unfold spec_MsgOk_j1 at h
    refine Wp.seq ?_
    refine Wp.srg [] [] ?_
    refine Runs.alln ?_
    refine Wp.fg ⟨[(1, .obj 1 0), (2, .t (.bool false)), (3, .t (.bool r1)), (4, .t (.bool x2)), (29, .t (.int .i64 p0.fKind))], [(1, ((Msg.enc p0).map .t))], []⟩ ?_
    refine Wp.block ?_
    refine Wp.srg [] [] ?_
    refine Runs.alln ?_
    refine Wp.fg ⟨[(1, .obj 1 0), (2, .t (.bool false)), (3, .t (.bool r1)), (4, .t (.bool x2)), (29, .t (.int .i64 p0.fKind)), (30, .t (.bool (p0.fKind == 1)))], [(1, ((Msg.enc p0).map .t))], []⟩ ?_
    refine Wp.cond2 (b := p0.fKind == 1) kr (fun hc => ?_) (fun hc => ?_)
    · have h := cond_t h hc
      refine Wp.srg [] [] ?_
      refine Runs.batch 4 kr ?_
      rcases tf (p0.fGen == 0) with hc | hc
      · have h := cond_t h hc
        refine Runs.known 35 (v := true) kr hc ?_
        refine Runs.batch 6 kr ?_
        rcases tf (p0.fMan.fGen != 0) with hc | hc
        · have h := cond_t h hc
          refine Runs.known 41 (v := true) kr hc ?_
          refine Runs.batch 2 kr ?_
          obtain ⟨r3, e_r3, h⟩ := bind_some h
          refine Runs.callK false 44 33 [] [.agg ((Manifest.enc p0.fMan).map .t)] _ _ _ rfl rfl kr kr kr kr kr (spec_ManOk_ok u p0.fMan r3 e_r3) kr ?_
          refine Runs.batch 2 kr ?_
          rcases tf (r3) with hc | hc
          · have h := cond_t h hc
            refine Runs.known 46 (v := true) kr hc ?_
            refine Runs.alln ?_
            refine Wp.fg ⟨[(1, .obj 1 0), (2, .t (.bool x2)), (3, .t (.bool r1)), (4, .t (.bool x2))], [(1, ((Msg.enc p0).map .t))], []⟩ ?_
            refine Wp.ret ?_
            refine blkR ?_
            refine thenR ?_
            obtain rfl := Option.some.inj h
            exact RetK [.t (.bool x2)] _ [] kr kr (.refl _) .nil
          have h := cond_f h hc
          refine Runs.known 46 (v := false) kr hc ?_
          refine Runs.alln ?_
          refine Wp.fg ⟨[(1, .obj 1 0), (2, .t (.bool false)), (3, .t (.bool r1)), (4, .t (.bool x2))], [(1, ((Msg.enc p0).map .t))], []⟩ ?_
          refine Wp.ret ?_
          refine blkR ?_
          refine thenR ?_
          obtain rfl := Option.some.inj h
          exact RetK [.t (.bool false)] _ [] kr kr (.refl _) .nil
        have h := cond_f h hc
        refine Runs.known 41 (v := false) kr hc ?_
        refine Runs.alln ?_
        refine Wp.fg ⟨[(1, .obj 1 0), (2, .t (.bool false)), (3, .t (.bool r1)), (4, .t (.bool x2))], [(1, ((Msg.enc p0).map .t))], []⟩ ?_
        refine Wp.ret ?_
        refine blkR ?_
        refine thenR ?_
        obtain rfl := Option.some.inj h
        exact RetK [.t (.bool false)] _ [] kr kr (.refl _) .nil
      have h := cond_f h hc
      refine Runs.known 35 (v := false) kr hc ?_
      refine Runs.alln ?_
      refine Wp.fg ⟨[(1, .obj 1 0), (2, .t (.bool false)), (3, .t (.bool r1)), (4, .t (.bool x2))], [(1, ((Msg.enc p0).map .t))], []⟩ ?_
      refine Wp.ret ?_
      refine blkR ?_
      refine thenR ?_
      obtain rfl := Option.some.inj h
      exact RetK [.t (.bool false)] _ [] kr kr (.refl _) .nil
    have h := cond_f h hc
    refine Wp.srg [] [] ?_
    refine Runs.alln ?_
    refine Wp.fg ⟨[(1, .obj 1 0), (2, .t (.bool false)), (3, .t (.bool r1)), (4, .t (.bool x2)), (29, .t (.int .i64 p0.fKind)), (49, .t (.bool (p0.fKind == 2)))], [(1, ((Msg.enc p0).map .t))], []⟩ ?_
    refine Wp.cond2 (b := p0.fKind == 2) kr (fun hc => ?_) (fun hc => ?_)
    · have h := cond_t h hc
      refine Wp.srg [] [] ?_
      refine Runs.batch 2 kr ?_
      obtain ⟨r4, e_r4, h⟩ := bind_some h
      refine Runs.callK false 53 34 [] [.t (.int .i64 p0.fGen), .t (.int .i64 0), .t (.int .i64 1000000)] _ _ _ rfl rfl kr kr kr kr kr (spec_l1In_ok u p0.fGen 0 1000000 r4 e_r4) kr ?_
      refine Runs.batch 1 kr ?_
      rcases tf (r4) with hc | hc
      · have h := cond_t h hc
        refine Runs.known 54 (v := true) kr hc ?_
        refine Runs.batch 3 kr ?_
        rcases tf (r1) with hc | hc
        · have h := cond_t h hc
          refine Runs.known 57 (v := true) kr hc ?_
          refine Runs.batch 2 kr ?_
          obtain ⟨r5, e_r5, h⟩ := bind_some h
          refine Runs.callK false 60 35 [] [.t (.int .i64 p0.fWant)] _ _ _ rfl rfl kr kr kr kr kr (spec_SetOk_ok u p0.fWant r5 e_r5) kr ?_
          refine Runs.batch 2 kr ?_
          rcases tf (r5) with hc | hc
          · have h := cond_t h hc
            refine Runs.known 62 (v := true) kr hc ?_
            refine Runs.batch 2 kr ?_
            obtain ⟨r6, e_r6, h⟩ := bind_some h
            refine Runs.callK false 65 35 [] [.t (.int .i64 p0.fDone)] _ _ _ rfl rfl kr kr kr kr kr (spec_SetOk_ok u p0.fDone r6 e_r6) kr ?_
            refine Runs.batch 2 kr ?_
            rcases tf (r6) with hc | hc
            · have h := cond_t h hc
              refine Runs.known 67 (v := true) kr hc ?_
              refine Runs.batch 5 kr ?_
              rcases tf (p0.fI == 0) with hc | hc
              · have h := cond_t h hc
                refine Runs.known 72 (v := true) kr hc ?_
                refine Runs.batch 2 kr ?_
                refine Runs.lenT (y := .t (.sl 1 (p0.fB.map (eInt .u8)))) (e := 5) (eInt .u8) p0.fB 1 rfl rfl rfl kr kr kr kr kr ?_
                refine Runs.alln ?_
                refine Wp.fg ⟨[(1, .obj 1 0), (2, .t (.bool (((p0.fB.length : Int)) == 0))), (3, .t (.bool r1)), (4, .t (.bool x2))], [(1, ((Msg.enc p0).map .t))], []⟩ ?_
                refine Wp.ret ?_
                refine blkR ?_
                refine thenR ?_
                obtain rfl := Option.some.inj h
                exact RetK [.t (.bool (((p0.fB.length : Int)) == 0))] _ [] kr kr (.refl _) .nil
              have h := cond_f h hc
              refine Runs.known 72 (v := false) kr hc ?_
              refine Runs.alln ?_
              refine Wp.fg ⟨[(1, .obj 1 0), (2, .t (.bool false)), (3, .t (.bool r1)), (4, .t (.bool x2))], [(1, ((Msg.enc p0).map .t))], []⟩ ?_
              refine Wp.ret ?_
              refine blkR ?_
              refine thenR ?_
              obtain rfl := Option.some.inj h
              exact RetK [.t (.bool false)] _ [] kr kr (.refl _) .nil
            have h := cond_f h hc
            refine Runs.known 67 (v := false) kr hc ?_
            refine Runs.alln ?_
            refine Wp.fg ⟨[(1, .obj 1 0), (2, .t (.bool false)), (3, .t (.bool r1)), (4, .t (.bool x2))], [(1, ((Msg.enc p0).map .t))], []⟩ ?_
            refine Wp.ret ?_
            refine blkR ?_
            refine thenR ?_
            obtain rfl := Option.some.inj h
            exact RetK [.t (.bool false)] _ [] kr kr (.refl _) .nil
          have h := cond_f h hc
          refine Runs.known 62 (v := false) kr hc ?_
          refine Runs.alln ?_
          refine Wp.fg ⟨[(1, .obj 1 0), (2, .t (.bool false)), (3, .t (.bool r1)), (4, .t (.bool x2))], [(1, ((Msg.enc p0).map .t))], []⟩ ?_
          refine Wp.ret ?_
          refine blkR ?_
          refine thenR ?_
          obtain rfl := Option.some.inj h
          exact RetK [.t (.bool false)] _ [] kr kr (.refl _) .nil
        have h := cond_f h hc
        refine Runs.known 57 (v := false) kr hc ?_
        refine Runs.alln ?_
        refine Wp.fg ⟨[(1, .obj 1 0), (2, .t (.bool false)), (3, .t (.bool r1)), (4, .t (.bool x2))], [(1, ((Msg.enc p0).map .t))], []⟩ ?_
        refine Wp.ret ?_
        refine blkR ?_
        refine thenR ?_
        obtain rfl := Option.some.inj h
        exact RetK [.t (.bool false)] _ [] kr kr (.refl _) .nil
      have h := cond_f h hc
      refine Runs.known 54 (v := false) kr hc ?_
      refine Runs.alln ?_
      refine Wp.fg ⟨[(1, .obj 1 0), (2, .t (.bool false)), (3, .t (.bool r1)), (4, .t (.bool x2))], [(1, ((Msg.enc p0).map .t))], []⟩ ?_
      refine Wp.ret ?_
      refine blkR ?_
      refine thenR ?_
      obtain rfl := Option.some.inj h
      exact RetK [.t (.bool false)] _ [] kr kr (.refl _) .nil
    have h := cond_f h hc
    refine Wp.srg [] [] ?_
    refine Runs.alln ?_
    refine Wp.fg ⟨[(1, .obj 1 0), (2, .t (.bool false)), (3, .t (.bool r1)), (4, .t (.bool x2)), (78, .t (.bool (p0.fKind == 3)))], [(1, ((Msg.enc p0).map .t))], []⟩ ?_
    refine Wp.cond2 (b := p0.fKind == 3) kr (fun hc => ?_) (fun hc => ?_)
    · have h := cond_t h hc
      refine Wp.srg [] [] ?_
      refine Runs.batch 2 kr ?_
      obtain ⟨r7, e_r7, h⟩ := bind_some h
      refine Runs.callK false 82 34 [] [.t (.int .i64 p0.fGen), .t (.int .i64 1), .t (.int .i64 1000000)] _ _ _ rfl rfl kr kr kr kr kr (spec_l1In_ok u p0.fGen 1 1000000 r7 e_r7) kr ?_
      refine Runs.batch 1 kr ?_
      rcases tf (r7) with hc | hc
      · have h := cond_t h hc
        refine Runs.known 83 (v := true) kr hc ?_
        refine Runs.batch 3 kr ?_
        rcases tf (r1) with hc | hc
        · have h := cond_t h hc
          refine Runs.known 86 (v := true) kr hc ?_
          refine Runs.batch 5 kr ?_
          rcases tf (p0.fWant == 0) with hc | hc
          · have h := cond_t h hc
            refine Runs.known 91 (v := true) kr hc ?_
            refine Runs.batch 5 kr ?_
            rcases tf (p0.fDone == 0) with hc | hc
            · have h := cond_t h hc
              refine Runs.known 96 (v := true) kr hc ?_
              refine Runs.batch 2 kr ?_
              obtain ⟨r8, e_r8, h⟩ := bind_some h
              refine Runs.callK false 99 34 [] [.t (.int .i64 p0.fI), .t (.int .i64 0), .t (.int .i64 39)] _ _ _ rfl rfl kr kr kr kr kr (spec_l1In_ok u p0.fI 0 39 r8 e_r8) kr ?_
              refine Runs.batch 2 kr ?_
              rcases tf (r8) with hc | hc
              · have h := cond_t h hc
                refine Runs.known 101 (v := true) kr hc ?_
                refine Runs.batch 2 kr ?_
                refine Runs.lenT (y := .t (.sl 1 (p0.fB.map (eInt .u8)))) (e := 5) (eInt .u8) p0.fB 1 rfl rfl rfl kr kr kr kr kr ?_
                obtain ⟨r9, e_r9, h⟩ := bind_some h
                refine Runs.callK false 105 34 [] [.t (.int .i64 ((p0.fB.length : Int))), .t (.int .i64 1), .t (.int .i64 6)] _ _ _ rfl rfl kr kr kr kr kr (spec_l1In_ok u ((p0.fB.length : Int)) 1 6 r9 e_r9) kr ?_
                refine Runs.alln ?_
                refine Wp.fg ⟨[(1, .obj 1 0), (2, .t (.bool r9)), (3, .t (.bool r1)), (4, .t (.bool x2))], [(1, ((Msg.enc p0).map .t))], []⟩ ?_
                refine Wp.ret ?_
                refine blkR ?_
                refine thenR ?_
                obtain rfl := Option.some.inj h
                exact RetK [.t (.bool r9)] _ [] kr kr (.refl _) .nil
              have h := cond_f h hc
              refine Runs.known 101 (v := false) kr hc ?_
              refine Runs.alln ?_
              refine Wp.fg ⟨[(1, .obj 1 0), (2, .t (.bool false)), (3, .t (.bool r1)), (4, .t (.bool x2))], [(1, ((Msg.enc p0).map .t))], []⟩ ?_
              refine Wp.ret ?_
              refine blkR ?_
              refine thenR ?_
              obtain rfl := Option.some.inj h
              exact RetK [.t (.bool false)] _ [] kr kr (.refl _) .nil
            have h := cond_f h hc
            refine Runs.known 96 (v := false) kr hc ?_
            refine Runs.alln ?_
            refine Wp.fg ⟨[(1, .obj 1 0), (2, .t (.bool false)), (3, .t (.bool r1)), (4, .t (.bool x2))], [(1, ((Msg.enc p0).map .t))], []⟩ ?_
            refine Wp.ret ?_
            refine blkR ?_
            refine thenR ?_
            obtain rfl := Option.some.inj h
            exact RetK [.t (.bool false)] _ [] kr kr (.refl _) .nil
          have h := cond_f h hc
          refine Runs.known 91 (v := false) kr hc ?_
          refine Runs.alln ?_
          refine Wp.fg ⟨[(1, .obj 1 0), (2, .t (.bool false)), (3, .t (.bool r1)), (4, .t (.bool x2))], [(1, ((Msg.enc p0).map .t))], []⟩ ?_
          refine Wp.ret ?_
          refine blkR ?_
          refine thenR ?_
          obtain rfl := Option.some.inj h
          exact RetK [.t (.bool false)] _ [] kr kr (.refl _) .nil
        have h := cond_f h hc
        refine Runs.known 86 (v := false) kr hc ?_
        refine Runs.alln ?_
        refine Wp.fg ⟨[(1, .obj 1 0), (2, .t (.bool false)), (3, .t (.bool r1)), (4, .t (.bool x2))], [(1, ((Msg.enc p0).map .t))], []⟩ ?_
        refine Wp.ret ?_
        refine blkR ?_
        refine thenR ?_
        obtain rfl := Option.some.inj h
        exact RetK [.t (.bool false)] _ [] kr kr (.refl _) .nil
      have h := cond_f h hc
      refine Runs.known 83 (v := false) kr hc ?_
      refine Runs.alln ?_
      refine Wp.fg ⟨[(1, .obj 1 0), (2, .t (.bool false)), (3, .t (.bool r1)), (4, .t (.bool x2))], [(1, ((Msg.enc p0).map .t))], []⟩ ?_
      refine Wp.ret ?_
      refine blkR ?_
      refine thenR ?_
      obtain rfl := Option.some.inj h
      exact RetK [.t (.bool false)] _ [] kr kr (.refl _) .nil
    have h := cond_f h hc
    refine Wp.skip ?_
    refine blkN ?_
    refine thenN ?_
    refine Wp.srg [] [] ?_
    refine Runs.batch 4 kr ?_
    rcases tf (p0.fKind == 4) with hc | hc
    · have h := cond_t h hc
      refine Runs.known 110 (v := true) kr hc ?_
      refine Runs.batch 2 kr ?_
      obtain ⟨r10, e_r10, h⟩ := bind_some h
      refine Runs.callK false 113 34 [] [.t (.int .i64 p0.fGen), .t (.int .i64 0), .t (.int .i64 1000000)] _ _ _ rfl rfl kr kr kr kr kr (spec_l1In_ok u p0.fGen 0 1000000 r10 e_r10) kr ?_
      refine Runs.batch 2 kr ?_
      rcases tf (r10) with hc | hc
      · have h := cond_t h hc
        refine Runs.known 115 (v := true) kr hc ?_
        refine Runs.batch 3 kr ?_
        rcases tf (r1) with hc | hc
        · have h := cond_t h hc
          refine Runs.known 118 (v := true) kr hc ?_
          refine Runs.alln ?_
          refine Wp.fg ⟨[(2, .t (.bool x2))], [], []⟩ ?_
          refine Wp.ret ?_
          obtain rfl := Option.some.inj h
          exact RetK [.t (.bool x2)] _ [] kr kr (.refl _) .nil
        have h := cond_f h hc
        refine Runs.known 118 (v := false) kr hc ?_
        refine Runs.alln ?_
        refine Wp.fg ⟨[(2, .t (.bool false))], [], []⟩ ?_
        refine Wp.ret ?_
        obtain rfl := Option.some.inj h
        exact RetK [.t (.bool false)] _ [] kr kr (.refl _) .nil
      have h := cond_f h hc
      refine Runs.known 115 (v := false) kr hc ?_
      refine Runs.alln ?_
      refine Wp.fg ⟨[(2, .t (.bool false))], [], []⟩ ?_
      refine Wp.ret ?_
      obtain rfl := Option.some.inj h
      exact RetK [.t (.bool false)] _ [] kr kr (.refl _) .nil
    have h := cond_f h hc
    refine Runs.known 110 (v := false) kr hc ?_
    refine Runs.alln ?_
    refine Wp.fg ⟨[(2, .t (.bool false))], [], []⟩ ?_
    refine Wp.ret ?_
    obtain rfl := Option.some.inj h
    exact RetK [.t (.bool false)] _ [] kr kr (.refl _) .nil
  · refine Wp.rg [] [] ?_
    refine Runs.batch 4 kr ?_
    rcases tf (p0.fWant == 0) with hc | hc
    · have h := cond_t h hc
      refine Runs.known 12 (v := true) kr hc ?_
      refine Runs.batch 5 kr ?_
      rcases tf (p0.fDone == 0) with hc | hc
      · have h := cond_t h hc
        refine Runs.known 17 (v := true) kr hc ?_
        refine Runs.batch 5 kr ?_
        rcases tf (p0.fI == 0) with hc | hc
        · have h := cond_t h hc
          refine Runs.known 22 (v := true) kr hc ?_
          refine Runs.batch 2 kr ?_
          refine Runs.lenT (y := .t (.sl 1 (p0.fB.map (eInt .u8)))) (e := 5) (eInt .u8) p0.fB 1 rfl rfl rfl kr kr kr kr kr ?_
          refine Runs.alln ?_
          exact ⟨(r1, ((p0.fB.length : Int)) == 0, p0), h, Le.of (mo := []) (mr := []) kr kr kr kr⟩
        have h := cond_f h hc
        refine Runs.known 22 (v := false) kr hc ?_
        refine Runs.alln ?_
        exact ⟨(r1, false, p0), h, Le.of (mo := []) (mr := []) kr kr kr kr⟩
      have h := cond_f h hc
      refine Runs.known 17 (v := false) kr hc ?_
      refine Runs.alln ?_
      exact ⟨(r1, false, p0), h, Le.of (mo := []) (mr := []) kr kr kr kr⟩
    have h := cond_f h hc
    refine Runs.known 12 (v := false) kr hc ?_
    refine Runs.alln ?_
    exact ⟨(r1, false, p0), h, Le.of (mo := []) (mr := []) kr kr kr kr⟩
theorem spec_GetMsg_ok (u : Nat) (p0 : List Int) (r : Msg × Bool) (h : spec_GetMsg u p0 = some r) : CallOK Tryd.prog 11 [.one (.t (.sl 1 (p0.map (eInt .u8))))] (.tup [.agg [.t (.int .i64 r.1.fKind), .t (.int .i64 r.1.fGen), .t (.int .i64 r.1.fMan.fGen), .t (.int .i64 r.1.fMan.fSize), .t (.int .i64 r.1.fMan.fLen), .ow 76 2 (r.1.fMan.fSums.map Sum.enc), .t (.int .i64 r.1.fWant), .t (.int .i64 r.1.fDone), .t (.int .i64 r.1.fI), .ow 5 1 (r.1.fB.map (eInt .u8))], .one (.t (.bool r.2))]) [] := by
  unfold spec_GetMsg at h
  refine CallOK.of_bodyK (fn := Tryd.f11) (m := true) [.t (.sl 1 (p0.map (eInt .u8)))] kr rfl kr kr kr kr kr ?_
  refine Wp.srg [] [] ?_
  refine Runs.alln ?_
  refine Wp.fg ⟨[(0, .t (.sl 1 (p0.map (eInt .u8)))), (2, .obj 2 0), (3, .t (.bool false))], [(2, [.t (.int .i64 0), .t (.int .i64 0), .t (.int .i64 0), .t (.int .i64 0), .t (.int .i64 0), .nil, .t (.int .i64 0), .t (.int .i64 0), .t (.int .i64 0), .nil])], []⟩ ?_
  refine Wp.srg [] [] ?_
  refine Runs.batch 1 kr ?_
  obtain ⟨r1, e_r1, h⟩ := bind_some h
  refine Runs.callK false 15 18 [] [.t (.sl 1 (p0.map (eInt .u8))), .t (.int .i64 0)] _ _ _ rfl rfl kr kr kr kr kr (spec_GetVar_ok u p0 0 r1 e_r1) kr ?_
  refine Runs.alln ?_
  refine Wp.fg ⟨[(0, .t (.sl 1 (p0.map (eInt .u8)))), (2, .obj 2 0), (3, .t (.bool false)), (4, .t (.int .i64 r1.1)), (5, .t (.int .i64 r1.2.1)), (6, .t (.bool r1.2.2))], [(2, [.t (.int .i64 0), .t (.int .i64 0), .t (.int .i64 0), .t (.int .i64 0), .t (.int .i64 0), .nil, .t (.int .i64 0), .t (.int .i64 0), .t (.int .i64 0), .nil])], []⟩ ?_
  refine Wp.seq ?_
  refine Wp.seqJ (α := (List Int) × (Int × Int × Bool) × Bool) (fun a => ⟨[(0, .t (.sl 1 (a.1.map (eInt .u8)))), (2, .obj 2 0), (3, .t (.bool false)), (4, .t (.int .i64 a.2.1.1)), (5, .t (.int .i64 a.2.1.2.1)), (25, .t (.bool a.2.2))], [(2, [.t (.int .i64 0), .t (.int .i64 0), .t (.int .i64 0), .t (.int .i64 0), .t (.int .i64 0), .nil, .t (.int .i64 0), .t (.int .i64 0), .t (.int .i64 0), .nil])], []⟩) (fun a => spec_GetMsg_j1 u a.1 a.2.1 a.2.2 = some r) ?_ ?_
  · rintro ⟨p0, r1, x2⟩ h
    change spec_GetMsg_j1 u p0 r1 x2 = some r at h
    unfold spec_GetMsg_j1 at h
    refine Wp.cond2 (b := x2) kr (fun hc => ?_) (fun hc => ?_)
    · have h := cond_t h hc
      refine Wp.srg [] [] ?_
      refine Runs.alln ?_
      refine Wp.fg ⟨[(0, .t (.sl 1 (p0.map (eInt .u8)))), (2, .obj 2 0), (3, .t (.bool false)), (4, .t (.int .i64 r1.1)), (5, .t (.int .i64 r1.2.1))], [(2, [.t (.int .i64 0), .t (.int .i64 0), .t (.int .i64 0), .t (.int .i64 0), .t (.int .i64 0), .nil, .t (.int .i64 0), .t (.int .i64 0), .t (.int .i64 0), .nil])], []⟩ ?_
      refine Wp.ret ?_
      refine thenR ?_
      obtain rfl := Option.some.inj h
      exact RetK [.agg [.t (.int .i64 0), .t (.int .i64 0), .t (.int .i64 0), .t (.int .i64 0), .t (.int .i64 0), .nil, .t (.int .i64 0), .t (.int .i64 0), .t (.int .i64 0), .nil], .t (.bool false)] (.tup [.agg [.t (.int .i64 0), .t (.int .i64 0), .t (.int .i64 0), .t (.int .i64 0), .t (.int .i64 0), .nil, .t (.int .i64 0), .t (.int .i64 0), .t (.int .i64 0), .nil], .one (.t (.bool false))]) [] kr kr (.tup (.cons (.agg (.cons (.refl _) (.cons (.refl _) (.cons (.refl _) (.cons (.refl _) (.cons (.refl _) (.cons (.nilO _ _) (.cons (.refl _) (.cons (.refl _) (.cons (.refl _) (.cons (.nilO _ _) .nil))))))))))) (.cons (.refl _) .nil))) .nil
    have h := cond_f h hc
    refine Wp.skip (thenN ?_)
    refine Wp.srg [] [] ?_
    refine Runs.batch 3 kr ?_
    obtain ⟨r3, e_r3, h⟩ := bind_some h
    refine Runs.callK false 31 19 [] [.t (.sl 1 (p0.map (eInt .u8))), .t (.int .i64 r1.2.1), .t (.int .i64 r1.1)] _ _ _ rfl rfl kr kr kr kr kr (spec_l12Body_ok u p0 r1.2.1 r1.1 r3 e_r3) kr ?_
    refine Runs.alln ?_
    refine Wp.fg ⟨[(0, .t (.sl 1 (p0.map (eInt .u8)))), (2, .obj 2 0), (3, .t (.bool false)), (7, .obj 7 0), (8, .t (.int .i64 r3.2.1)), (9, .t (.bool r3.2.2))], [(2, [.t (.int .i64 0), .t (.int .i64 0), .t (.int .i64 0), .t (.int .i64 0), .t (.int .i64 0), .nil, .t (.int .i64 0), .t (.int .i64 0), .t (.int .i64 0), .nil]), (7, [.t (.int .i64 r3.1.fKind), .t (.int .i64 r3.1.fGen), .t (.int .i64 r3.1.fMan.fGen), .t (.int .i64 r3.1.fMan.fSize), .t (.int .i64 r3.1.fMan.fLen), .own 2031621, .t (.int .i64 r3.1.fWant), .t (.int .i64 r3.1.fDone), .t (.int .i64 r3.1.fI), .own 2031625])], [(2031621, .live 76 2 (r3.1.fMan.fSums.map Sum.enc)), (2031625, .live 5 1 (r3.1.fB.map (eInt .u8)))]⟩ ?_
    refine Wp.seq ?_
    refine Wp.seqJ (α := (List Int) × (Msg × Int × Bool) × Bool) (fun a => ⟨[(0, .t (.sl 1 (a.1.map (eInt .u8)))), (2, .obj 2 0), (3, .t (.bool false)), (7, .obj 7 0), (8, .t (.int .i64 a.2.1.2.1)), (41, .t (.bool a.2.2))], [(2, [.t (.int .i64 0), .t (.int .i64 0), .t (.int .i64 0), .t (.int .i64 0), .t (.int .i64 0), .nil, .t (.int .i64 0), .t (.int .i64 0), .t (.int .i64 0), .nil]), (7, [.t (.int .i64 a.2.1.1.fKind), .t (.int .i64 a.2.1.1.fGen), .t (.int .i64 a.2.1.1.fMan.fGen), .t (.int .i64 a.2.1.1.fMan.fSize), .t (.int .i64 a.2.1.1.fMan.fLen), .own 459269, .t (.int .i64 a.2.1.1.fWant), .t (.int .i64 a.2.1.1.fDone), .t (.int .i64 a.2.1.1.fI), .own 459273])], [(459269, .live 76 2 (a.2.1.1.fMan.fSums.map Sum.enc)), (459273, .live 5 1 (a.2.1.1.fB.map (eInt .u8)))]⟩) (fun a => spec_GetMsg_j2 u a.1 a.2.1 a.2.2 = some r) ?_ ?_
    · rintro ⟨p0, r3, x5⟩ h
      change spec_GetMsg_j2 u p0 r3 x5 = some r at h
      unfold spec_GetMsg_j2 at h
      refine Wp.cond2 (b := x5) kr (fun hc => ?_) (fun hc => ?_)
      · have h := cond_t h hc
        refine Wp.srg [] [] ?_
        refine Runs.alln ?_
        refine Wp.fg ⟨[(0, .t (.sl 1 (p0.map (eInt .u8)))), (2, .obj 2 0), (3, .t (.bool false)), (7, .obj 7 0), (8, .t (.int .i64 r3.2.1))], [(2, [.t (.int .i64 0), .t (.int .i64 0), .t (.int .i64 0), .t (.int .i64 0), .t (.int .i64 0), .nil, .t (.int .i64 0), .t (.int .i64 0), .t (.int .i64 0), .nil]), (7, [.t (.int .i64 r3.1.fKind), .t (.int .i64 r3.1.fGen), .t (.int .i64 r3.1.fMan.fGen), .t (.int .i64 r3.1.fMan.fSize), .t (.int .i64 r3.1.fMan.fLen), .own 459269, .t (.int .i64 r3.1.fWant), .t (.int .i64 r3.1.fDone), .t (.int .i64 r3.1.fI), .own 459273])], [(459269, .live 76 2 (r3.1.fMan.fSums.map Sum.enc)), (459273, .live 5 1 (r3.1.fB.map (eInt .u8)))]⟩ ?_
        refine Wp.ret ?_
        refine thenR ?_
        obtain rfl := Option.some.inj h
        exact RetK [.agg [.t (.int .i64 0), .t (.int .i64 0), .t (.int .i64 0), .t (.int .i64 0), .t (.int .i64 0), .nil, .t (.int .i64 0), .t (.int .i64 0), .t (.int .i64 0), .nil], .t (.bool false)] (.tup [.agg [.t (.int .i64 0), .t (.int .i64 0), .t (.int .i64 0), .t (.int .i64 0), .t (.int .i64 0), .nil, .t (.int .i64 0), .t (.int .i64 0), .t (.int .i64 0), .nil], .one (.t (.bool false))]) [] kr kr (.tup (.cons (.agg (.cons (.refl _) (.cons (.refl _) (.cons (.refl _) (.cons (.refl _) (.cons (.refl _) (.cons (.nilO _ _) (.cons (.refl _) (.cons (.refl _) (.cons (.refl _) (.cons (.nilO _ _) .nil))))))))))) (.cons (.refl _) .nil))) .nil
      have h := cond_f h hc
      refine Wp.skip (thenN ?_)
      refine Wp.srg [] [] ?_
      refine Runs.batch 2 kr ?_
      obtain ⟨r6, e_r6, h⟩ := bind_some h
      refine Runs.callK false 46 18 [] [.t (.sl 1 (p0.map (eInt .u8))), .t (.int .i64 r3.2.1)] _ _ _ rfl rfl kr kr kr kr kr (spec_GetVar_ok u p0 r3.2.1 r6 e_r6) kr ?_
      refine Runs.alln ?_
      refine Wp.fg ⟨[(0, .t (.sl 1 (p0.map (eInt .u8)))), (2, .obj 2 0), (3, .t (.bool false)), (7, .obj 7 0), (8, .t (.int .i64 r3.2.1)), (10, .t (.int .i64 r6.1)), (11, .t (.int .i64 r6.2.1)), (12, .t (.bool r6.2.2))], [(2, [.t (.int .i64 0), .t (.int .i64 0), .t (.int .i64 0), .t (.int .i64 0), .t (.int .i64 0), .nil, .t (.int .i64 0), .t (.int .i64 0), .t (.int .i64 0), .nil]), (7, [.t (.int .i64 r3.1.fKind), .t (.int .i64 r3.1.fGen), .t (.int .i64 r3.1.fMan.fGen), .t (.int .i64 r3.1.fMan.fSize), .t (.int .i64 r3.1.fMan.fLen), .own 459269, .t (.int .i64 r3.1.fWant), .t (.int .i64 r3.1.fDone), .t (.int .i64 r3.1.fI), .own 459273])], [(459269, .live 76 2 (r3.1.fMan.fSums.map Sum.enc)), (459273, .live 5 1 (r3.1.fB.map (eInt .u8)))]⟩ ?_
      refine Wp.seq ?_
      refine Wp.seqJ (α := Bool × (Msg × Int × Bool)) (fun a => ⟨[(2, .obj 2 0), (3, .t (.bool false)), (7, .obj 7 0), (65, .t (.bool a.1))], [(2, [.t (.int .i64 0), .t (.int .i64 0), .t (.int .i64 0), .t (.int .i64 0), .t (.int .i64 0), .nil, .t (.int .i64 0), .t (.int .i64 0), .t (.int .i64 0), .nil]), (7, [.t (.int .i64 a.2.1.fKind), .t (.int .i64 a.2.1.fGen), .t (.int .i64 a.2.1.fMan.fGen), .t (.int .i64 a.2.1.fMan.fSize), .t (.int .i64 a.2.1.fMan.fLen), .own 459269, .t (.int .i64 a.2.1.fWant), .t (.int .i64 a.2.1.fDone), .t (.int .i64 a.2.1.fI), .own 459273])], [(459269, .live 76 2 (a.2.1.fMan.fSums.map Sum.enc)), (459273, .live 5 1 (a.2.1.fB.map (eInt .u8)))]⟩) (fun a => spec_GetMsg_j3 u a.1 a.2 = some r) ?_ ?_
      · rintro ⟨x9, r3⟩ h
        change spec_GetMsg_j3 u x9 r3 = some r at h
        unfold spec_GetMsg_j3 at h
        refine Wp.cond2 (b := x9) kr (fun hc => ?_) (fun hc => ?_)
        · have h := cond_t h hc
          refine Wp.srg [] [] ?_
          refine Runs.alln ?_
          refine Wp.fg ⟨[(2, .obj 2 0), (3, .t (.bool false)), (7, .obj 7 0)], [(2, [.t (.int .i64 0), .t (.int .i64 0), .t (.int .i64 0), .t (.int .i64 0), .t (.int .i64 0), .nil, .t (.int .i64 0), .t (.int .i64 0), .t (.int .i64 0), .nil]), (7, [.t (.int .i64 r3.1.fKind), .t (.int .i64 r3.1.fGen), .t (.int .i64 r3.1.fMan.fGen), .t (.int .i64 r3.1.fMan.fSize), .t (.int .i64 r3.1.fMan.fLen), .own 459269, .t (.int .i64 r3.1.fWant), .t (.int .i64 r3.1.fDone), .t (.int .i64 r3.1.fI), .own 459273])], [(459269, .live 76 2 (r3.1.fMan.fSums.map Sum.enc)), (459273, .live 5 1 (r3.1.fB.map (eInt .u8)))]⟩ ?_
          refine Wp.ret ?_
          refine thenR ?_
          obtain rfl := Option.some.inj h
          exact RetK [.agg [.t (.int .i64 0), .t (.int .i64 0), .t (.int .i64 0), .t (.int .i64 0), .t (.int .i64 0), .nil, .t (.int .i64 0), .t (.int .i64 0), .t (.int .i64 0), .nil], .t (.bool false)] (.tup [.agg [.t (.int .i64 0), .t (.int .i64 0), .t (.int .i64 0), .t (.int .i64 0), .t (.int .i64 0), .nil, .t (.int .i64 0), .t (.int .i64 0), .t (.int .i64 0), .nil], .one (.t (.bool false))]) [] kr kr (.tup (.cons (.agg (.cons (.refl _) (.cons (.refl _) (.cons (.refl _) (.cons (.refl _) (.cons (.refl _) (.cons (.nilO _ _) (.cons (.refl _) (.cons (.refl _) (.cons (.refl _) (.cons (.nilO _ _) .nil))))))))))) (.cons (.refl _) .nil))) .nil
        have h := cond_f h hc
        refine Wp.skip (thenN ?_)
        refine Wp.srg [] [] ?_
        refine Runs.alln ?_
        refine Wp.fg ⟨[(2, .obj 2 0), (3, .t (.bool true))], [(2, [.t (.int .i64 r3.1.fKind), .t (.int .i64 r3.1.fGen), .t (.int .i64 r3.1.fMan.fGen), .t (.int .i64 r3.1.fMan.fSize), .t (.int .i64 r3.1.fMan.fLen), .own 459269, .t (.int .i64 r3.1.fWant), .t (.int .i64 r3.1.fDone), .t (.int .i64 r3.1.fI), .own 459273])], [(459269, .live 76 2 (r3.1.fMan.fSums.map Sum.enc)), (459273, .live 5 1 (r3.1.fB.map (eInt .u8)))]⟩ ?_
        refine Wp.ret ?_
        obtain rfl := Option.some.inj h
        exact RetK [.agg [.t (.int .i64 r3.1.fKind), .t (.int .i64 r3.1.fGen), .t (.int .i64 r3.1.fMan.fGen), .t (.int .i64 r3.1.fMan.fSize), .t (.int .i64 r3.1.fMan.fLen), .own 459269, .t (.int .i64 r3.1.fWant), .t (.int .i64 r3.1.fDone), .t (.int .i64 r3.1.fI), .own 459273], .t (.bool true)] _ [] kr kr (.refl _) .nil
      · refine Wp.rg [] [] ?_
        refine Runs.batch 3 kr ?_
        rcases tf (!r6.2.2) with hc | hc
        · have h := cond_t h hc
          refine Runs.known 52 (v := true) kr hc ?_
          refine Runs.alln ?_
          exact ⟨(true, r3), h, Le.of (mo := []) (mr := []) kr kr kr kr⟩
        have h := cond_f h hc
        refine Runs.known 52 (v := false) kr hc ?_
        refine Runs.batch 2 kr ?_
        refine Runs.lenT (y := .t (.sl 1 (p0.map (eInt .u8)))) (e := 5) (eInt .u8) p0 1 rfl rfl rfl kr kr kr kr kr ?_
        refine Runs.batch 3 kr ?_
        rcases tf (r6.2.1 != ((p0.length : Int))) with hc | hc
        · have h := cond_t h hc
          refine Runs.known 58 (v := true) kr hc ?_
          refine Runs.alln ?_
          exact ⟨(true, r3), h, Le.of (mo := []) (mr := []) kr kr kr kr⟩
        have h := cond_f h hc
        refine Runs.known 58 (v := false) kr hc ?_
        refine Runs.batch 3 kr ?_
        obtain ⟨_, e_7, h⟩ := bind_some h
        refine Runs.subsl (e := 5) (ax := .t (.sl 1 (p0.map (eInt .u8)))) (alo := none) (ahi := (some (.t (.int .i64 r3.2.1)))) (eInt .u8) p0 1 0 r3.2.1 rfl kr kr kr kr kr kr kr kr kr kr kr (chk_some e_7) ?_
        obtain ⟨r8, e_r8, h⟩ := bind_some h
        refine Runs.callK false 63 21 [] [.t (.sl 1 (((p0.take (Int.toNat r3.2.1)).drop (Int.toNat 0)).map (eInt .u8)))] _ _ _ rfl rfl kr kr kr kr kr (spec_WeakOf_ok u ((p0.take (Int.toNat r3.2.1)).drop (Int.toNat 0)) r8 e_r8) kr ?_
        refine Runs.alln ?_
        exact ⟨(r6.1 != r8, r3), h, Le.of (mo := []) (mr := []) kr kr kr kr⟩
    · refine Wp.rg [] [] ?_
      refine Runs.batch 3 kr ?_
      rcases tf (!r3.2.2) with hc | hc
      · have h := cond_t h hc
        refine Runs.known 37 (v := true) kr hc ?_
        refine Runs.alln ?_
        exact ⟨(p0, r3, true), h, Le.of (mo := []) (mr := [(459269, 2031621), (459273, 2031625)]) kr kr kr kr⟩
      have h := cond_f h hc
      refine Runs.known 37 (v := false) kr hc ?_
      refine Runs.batch 1 kr ?_
      obtain ⟨r4, e_r4, h⟩ := bind_some h
      refine Runs.callBK 39 20 [] [.agg [.t (.int .i64 r3.1.fKind), .t (.int .i64 r3.1.fGen), .t (.int .i64 r3.1.fMan.fGen), .t (.int .i64 r3.1.fMan.fSize), .t (.int .i64 r3.1.fMan.fLen), .own 2031621, .t (.int .i64 r3.1.fWant), .t (.int .i64 r3.1.fDone), .t (.int .i64 r3.1.fI), .own 2031625]] [.agg ((Msg.enc r3.1).map .t)] (.one (.t (.bool r4))) rfl rfl kr kr kr kr kr (spec_MsgOk_ok u r3.1 r4 e_r4) (by simp [V.plain, V.plains, C.plain, T.sc]) kr ?_
      refine Runs.alln ?_
      exact ⟨(p0, r3, !r4), h, Le.of (mo := []) (mr := [(459269, 2031621), (459273, 2031625)]) kr kr kr kr⟩
  · refine Wp.rg [] [] ?_
    refine Runs.batch 3 kr ?_
    rcases tf (!r1.2.2) with hc | hc
    · have h := cond_t h hc
      refine Runs.known 21 (v := true) kr hc ?_
      refine Runs.alln ?_
      exact ⟨(p0, r1, true), h, Le.of (mo := []) (mr := []) kr kr kr kr⟩
    have h := cond_f h hc
    refine Runs.known 21 (v := false) kr hc ?_
    refine Runs.batch 1 kr ?_
    refine Runs.lenT (y := .t (.sl 1 (p0.map (eInt .u8)))) (e := 5) (eInt .u8) p0 1 rfl rfl rfl kr kr kr kr kr ?_
    refine Runs.alln ?_
    exact ⟨(p0, r1, decide (((p0.length : Int)) > 400)), h, Le.of (mo := []) (mr := []) kr kr kr kr⟩
theorem spec_InSet_ok (u : Nat) (p0 : Int) (p1 : Int) (r : Bool) (h : spec_InSet u p0 p1 = some r) : CallOK Tryd.prog 36 [.one (.t (.int .i64 p0)), .one (.t (.int .i64 p1))] (.one (.t (.bool r))) [] := by
  unfold spec_InSet at h
  refine CallOK.of_bodyK (fn := Tryd.f36) (m := false) [.t (.int .i64 p0), .t (.int .i64 p1)] kr rfl kr kr kr kr kr ?_
  refine Wp.srg [] [] ?_
  refine Runs.alln ?_
  refine Wp.fg ⟨[(0, .t (.int .i64 p0)), (1, .t (.int .i64 p1)), (4, .t (.bool false))], [], []⟩ ?_
  refine Wp.srg [] [] ?_
  refine Runs.batch 1 kr ?_
  obtain ⟨r1, e_r1, h⟩ := bind_some h
  refine Runs.callK false 6 35 [] [.t (.int .i64 p0)] _ _ _ rfl rfl kr kr kr kr kr (spec_SetOk_ok u p0 r1 e_r1) kr ?_
  refine Runs.batch 1 kr ?_
  rcases tf (r1) with hc | hc
  · have h := cond_t h hc
    refine Runs.known 7 (v := true) kr hc ?_
    refine Runs.batch 1 kr ?_
    obtain ⟨r2, e_r2, h⟩ := bind_some h
    refine Runs.callK false 9 34 [] [.t (.int .i64 p1), .t (.int .i64 0), .t (.int .i64 39)] _ _ _ rfl rfl kr kr kr kr kr (spec_l1In_ok u p1 0 39 r2 e_r2) kr ?_
    refine Runs.batch 2 kr ?_
    rcases tf (r2) with hc | hc
    · have h := cond_t h hc
      refine Runs.known 11 (v := true) kr hc ?_
      refine Runs.batch 2 kr ?_
      obtain ⟨_, e_3, h⟩ := bind_some h
      refine Runs.num .shr (.int .i64 p0) (.int .i64 p1) (.int .i64 (bShr .i64 p0 p1)) rfl kr kr kr kr (bin_shr _ _ _ _ _ (chk_some e_3)) ?_
      refine Runs.alln ?_
      refine Wp.fg ⟨[(4, .t (.bool ((bAnd .i64 (bShr .i64 p0 p1) 1) == 1)))], [], []⟩ ?_
      refine Wp.ret ?_
      obtain rfl := Option.some.inj h
      exact RetK [.t (.bool ((bAnd .i64 (bShr .i64 p0 p1) 1) == 1))] _ [] kr kr (.refl _) .nil
    have h := cond_f h hc
    refine Runs.known 11 (v := false) kr hc ?_
    refine Runs.alln ?_
    refine Wp.fg ⟨[(4, .t (.bool false))], [], []⟩ ?_
    refine Wp.ret ?_
    obtain rfl := Option.some.inj h
    exact RetK [.t (.bool false)] _ [] kr kr (.refl _) .nil
  have h := cond_f h hc
  refine Runs.known 7 (v := false) kr hc ?_
  refine Runs.alln ?_
  refine Wp.fg ⟨[(4, .t (.bool false))], [], []⟩ ?_
  refine Wp.ret ?_
  obtain rfl := Option.some.inj h
  exact RetK [.t (.bool false)] _ [] kr kr (.refl _) .nil
theorem spec_CountSet_ok (u : Nat) (p0 : Int) (r : Int) (h : spec_CountSet u p0 = some r) : CallOK Tryd.prog 22 [.one (.t (.int .i64 p0))] (.one (.t (.int .i64 r))) [] := by
  unfold spec_CountSet at h
  refine CallOK.of_bodyK (fn := Tryd.f22) (m := false) [.t (.int .i64 p0)] kr rfl kr kr kr kr kr ?_
  refine Wp.srg [] [] ?_
  refine Runs.alln ?_
  refine Wp.fg ⟨[(0, .t (.int .i64 p0)), (2, .t (.int .i64 0))], [], []⟩ ?_
  refine Wp.srg [] [] ?_
  refine Runs.alln ?_
  refine Wp.fg ⟨[(0, .t (.int .i64 p0)), (2, .t (.int .i64 0)), (3, .t (.int .i64 0))], [], []⟩ ?_
  refine Wp.seqJ (α := Int) (fun a => ⟨[(2, .t (.int .i64 0)), (3, .t (.int .i64 a))], [], []⟩) (fun a => spec_CountSet_j1 u a = some r) ?_ ?_
  · rintro x9 h
    change spec_CountSet_j1 u x9 = some r at h
    unfold spec_CountSet_j1 at h
    refine Wp.srg [] [] ?_
    refine Runs.alln ?_
    refine Wp.fg ⟨[(2, .t (.int .i64 x9))], [], []⟩ ?_
    refine Wp.ret ?_
    obtain rfl := Option.some.inj h
    exact RetK [.t (.int .i64 x9)] _ [] kr kr (.refl _) .nil
  · refine Wp.srg [] [] ?_
    refine Runs.alln ?_
    refine Wp.fg ⟨[(0, .t (.int .i64 p0)), (2, .t (.int .i64 0)), (3, .t (.int .i64 0)), (4, .t (.int .i64 0))], [], []⟩ ?_
    refine Wp.block ?_
    refine Wp.loopF (α := Int × Int × Int) (fun a => ⟨[(0, .t (.int .i64 a.1)), (2, .t (.int .i64 0)), (3, .t (.int .i64 a.2.1)), (4, .t (.int .i64 a.2.2))], [], []⟩) (fun k_spec_CountSet_l2 a => spec_CountSet_l2 u k_spec_CountSet_l2 a.1 a.2.1 a.2.2 = some r) ?_ ?_ u (p0, 0, 0) h (Le.of (mo := []) (mr := []) kr kr kr kr)
    · intro a h; unfold spec_CountSet_l2 at h; cases h
    · rintro k_spec_CountSet_l2 ⟨p0, x3, x4⟩ h
      change spec_CountSet_l2 u (k_spec_CountSet_l2 + 1) p0 x3 x4 = some r at h
      rw [spec_CountSet_l2] at h
      refine Wp.seq ?_
      refine Wp.srg [] [] ?_
      refine Runs.alln ?_
      refine Wp.fg ⟨[(0, .t (.int .i64 p0)), (2, .t (.int .i64 0)), (3, .t (.int .i64 x3)), (4, .t (.int .i64 x4)), (6, .t (.bool (decide (x4 < 40))))], [], []⟩ ?_
      refine Wp.cond2 (b := decide (x4 < 40)) kr (fun hc => ?_) (fun hc => ?_)
      · have h := cond_t h hc
        refine Wp.skip (thenN ?_)
        refine Wp.seqJ (α := Int × Int × Int) (fun a => ⟨[(0, .t (.int .i64 a.1)), (2, .t (.int .i64 0)), (3, .t (.int .i64 a.2.1)), (4, .t (.int .i64 a.2.2))], [], []⟩) (fun a => spec_CountSet_j3 u (fun z0 z1 z2 => spec_CountSet_l2 u k_spec_CountSet_l2 z0 z1 z2) a.1 a.2.1 a.2.2 = some r) ?_ ?_
        · rintro ⟨p0, x8, x4⟩ h
          change spec_CountSet_j3 u (fun z0 z1 z2 => spec_CountSet_l2 u k_spec_CountSet_l2 z0 z1 z2) p0 x8 x4 = some r at h
          unfold spec_CountSet_j3 at h
          refine Wp.rg [] [] ?_
          refine Runs.alln ?_
          exact ⟨(p0, x8, bAdd .i64 x4 1), h, Le.of (mo := []) (mr := []) kr kr kr kr⟩
        · refine Wp.block ?_
          refine Wp.srg [] [] ?_
          refine Runs.batch 2 kr ?_
          obtain ⟨r7, e_r7, h⟩ := bind_some h
          refine Runs.callK false 11 36 [] [.t (.int .i64 p0), .t (.int .i64 x4)] _ _ _ rfl rfl kr kr kr kr kr (spec_InSet_ok u p0 x4 r7 e_r7) kr ?_
          refine Runs.done ?_
          refine thenN ?_
          refine Wp.fg ⟨[(0, .t (.int .i64 p0)), (2, .t (.int .i64 0)), (3, .t (.int .i64 x3)), (4, .t (.int .i64 x4)), (11, .t (.bool r7))], [], []⟩ ?_
          refine Wp.cond2 (b := r7) kr (fun hc => ?_) (fun hc => ?_)
          · have h := cond_t h hc
            refine Wp.rg [] [] ?_
            refine Runs.all kr ?_
            refine blkN ?_
            refine thenN ?_
            exact ⟨(p0, bAdd .i64 x3 1, x4), h, Le.of (mo := []) (mr := []) kr kr kr kr⟩
          have h := cond_f h hc
          refine Wp.skip ?_
          refine blkN ?_
          refine thenN ?_
          exact ⟨(p0, x3, x4), h, Le.of (mo := []) (mr := []) kr kr kr kr⟩
      have h := cond_f h hc
      refine Wp.exit ?_
      refine thenE ?_
      refine thenE ?_
      refine blkE ?_
      refine thenN ?_
      exact ⟨x3, h, Le.of (mo := []) (mr := []) kr kr kr kr⟩
theorem spec_MsgText_ok (u : Nat) (p0 : Msg) (r : ByteArray) (h : spec_MsgText u p0 = some r) : CallOK Tryd.prog 12 [.agg [.t (.int .i64 p0.fKind), .t (.int .i64 p0.fGen), .t (.int .i64 p0.fMan.fGen), .t (.int .i64 p0.fMan.fSize), .t (.int .i64 p0.fMan.fLen), .t (.sl 2 (p0.fMan.fSums.map Sum.enc)), .t (.int .i64 p0.fWant), .t (.int .i64 p0.fDone), .t (.int .i64 p0.fI), .t (.sl 1 (p0.fB.map (eInt .u8)))]] (.one (.t (.str r))) [] := by
  unfold spec_MsgText at h
  refine CallOK.of_bodyK (fn := Tryd.f12) (m := false) [.agg ((Msg.enc p0).map .t)] kr rfl kr kr kr kr kr ?_
  refine Wp.srg [] [] ?_
  refine Runs.alln ?_
  refine Wp.fg ⟨[(1, .obj 1 0), (2, .t (.str ((ByteArray.mk #[]))))], [(1, ((Msg.enc p0).map .t))], []⟩ ?_
  refine Wp.seq ?_
  refine Wp.srg [] [] ?_
  refine Runs.batch 1 kr ?_
  obtain ⟨r1, e_r1, h⟩ := bind_some h
  refine Runs.callK false 4 20 [] [.agg ((Msg.enc p0).map .t)] _ _ _ rfl rfl kr kr kr kr kr (spec_MsgOk_ok u p0 r1 e_r1) kr ?_
  refine Runs.alln ?_
  refine Wp.fg ⟨[(1, .obj 1 0), (2, .t (.str ((ByteArray.mk #[])))), (5, .t (.bool (!r1)))], [(1, ((Msg.enc p0).map .t))], []⟩ ?_
  refine Wp.cond2 (b := !r1) kr (fun hc => ?_) (fun hc => ?_)
  · have h := cond_t h hc
    refine Wp.srg [] [] ?_
    refine Runs.alln ?_
    refine Wp.fg ⟨[(1, .obj 1 0), (2, .t (.str ((ByteArray.mk #[]))))], [(1, ((Msg.enc p0).map .t))], []⟩ ?_
    refine Wp.ret ?_
    refine thenR ?_
    obtain rfl := Option.some.inj h
    exact RetK [.t (.str ((ByteArray.mk #[])))] _ [] kr kr (.refl _) .nil
  have h := cond_f h hc
  refine Wp.skip (thenN ?_)
  refine Wp.seq ?_
  refine Wp.srg [] [] ?_
  refine Runs.alln ?_
  refine Wp.fg ⟨[(1, .obj 1 0), (2, .t (.str ((ByteArray.mk #[])))), (7, .t (.int .i64 p0.fKind))], [(1, ((Msg.enc p0).map .t))], []⟩ ?_
  refine Wp.block ?_
  refine Wp.srg [] [] ?_
  refine Runs.alln ?_
  refine Wp.fg ⟨[(1, .obj 1 0), (2, .t (.str ((ByteArray.mk #[])))), (7, .t (.int .i64 p0.fKind)), (8, .t (.bool (p0.fKind == 1)))], [(1, ((Msg.enc p0).map .t))], []⟩ ?_
  refine Wp.cond2 (b := p0.fKind == 1) kr (fun hc => ?_) (fun hc => ?_)
  · have h := cond_t h hc
    refine Wp.srg [] [] ?_
    refine Runs.batch 3 kr ?_
    obtain ⟨r2, e_r2, h⟩ := bind_some h
    refine Runs.callK false 13 10 [] [.t (.int .i64 p0.fMan.fGen)] _ _ _ rfl rfl kr kr kr kr kr (spec_NumText_ok u p0.fMan.fGen r2 e_r2) kr ?_
    obtain ⟨_, e_3, h⟩ := bind_some h
    refine Runs.cat ((ByteArray.mk #[109, 97, 110, 32])) r2 rfl kr kr kr kr (of_decide_eq_true (chk_some e_3)) ?_
    refine Runs.alln ?_
    refine Wp.fg ⟨[(1, .obj 1 0), (2, .t (.str (((ByteArray.mk #[109, 97, 110, 32])) ++ r2)))], [(1, ((Msg.enc p0).map .t))], []⟩ ?_
    refine Wp.ret ?_
    refine blkR ?_
    refine thenR ?_
    obtain rfl := Option.some.inj h
    exact RetK [.t (.str (((ByteArray.mk #[109, 97, 110, 32])) ++ r2))] _ [] kr kr (.refl _) .nil
  have h := cond_f h hc
  refine Wp.srg [] [] ?_
  refine Runs.alln ?_
  refine Wp.fg ⟨[(1, .obj 1 0), (2, .t (.str ((ByteArray.mk #[])))), (7, .t (.int .i64 p0.fKind)), (15, .t (.bool (p0.fKind == 2)))], [(1, ((Msg.enc p0).map .t))], []⟩ ?_
  refine Wp.cond2 (b := p0.fKind == 2) kr (fun hc => ?_) (fun hc => ?_)
  · have h := cond_t h hc
    refine Wp.seq ?_
    refine Wp.regionA (pOf []) (rhoOf [(1, .obj 1), (17, .obj 1), (18, .frz), (19, .frz), (20, .frz), (21, .frz), (22, .obj 1), (23, .frz), (24, .frz), (25, .frz), (26, .frz), (27, .frz), (28, .obj 1), (29, .frz), (30, .frz), (31, .frz), (32, .frz)]) kr kr ?_
    refine Runs.batch 2 kr ?_
    obtain ⟨r4, e_r4, h⟩ := bind_some h
    refine Runs.callK false 19 10 [] [.t (.int .i64 p0.fGen)] _ _ _ rfl rfl kr kr kr kr kr (spec_NumText_ok u p0.fGen r4 e_r4) kr ?_
    obtain ⟨_, e_5, h⟩ := bind_some h
    refine Runs.cat ((ByteArray.mk #[119, 97, 110, 116, 32])) r4 rfl kr kr kr kr (of_decide_eq_true (chk_some e_5)) ?_
    obtain ⟨_, e_6, h⟩ := bind_some h
    refine Runs.cat (((ByteArray.mk #[119, 97, 110, 116, 32])) ++ r4) ((ByteArray.mk #[32])) rfl kr kr kr kr (of_decide_eq_true (chk_some e_6)) ?_
    refine Runs.batch 2 kr ?_
    obtain ⟨r7, e_r7, h⟩ := bind_some h
    refine Runs.callK false 24 22 [] [.t (.int .i64 p0.fWant)] _ _ _ rfl rfl kr kr kr kr kr (spec_CountSet_ok u p0.fWant r7 e_r7) kr ?_
    obtain ⟨r8, e_r8, h⟩ := bind_some h
    refine Runs.callK false 25 10 [] [.t (.int .i64 r7)] _ _ _ rfl rfl kr kr kr kr kr (spec_NumText_ok u r7 r8 e_r8) kr ?_
    obtain ⟨_, e_9, h⟩ := bind_some h
    refine Runs.cat ((((ByteArray.mk #[119, 97, 110, 116, 32])) ++ r4) ++ ((ByteArray.mk #[32]))) r8 rfl kr kr kr kr (of_decide_eq_true (chk_some e_9)) ?_
    obtain ⟨_, e_10, h⟩ := bind_some h
    refine Runs.cat (((((ByteArray.mk #[119, 97, 110, 116, 32])) ++ r4) ++ ((ByteArray.mk #[32]))) ++ r8) ((ByteArray.mk #[32])) rfl kr kr kr kr (of_decide_eq_true (chk_some e_10)) ?_
    refine Runs.batch 2 kr ?_
    obtain ⟨r11, e_r11, h⟩ := bind_some h
    refine Runs.callK false 30 22 [] [.t (.int .i64 p0.fDone)] _ _ _ rfl rfl kr kr kr kr kr (spec_CountSet_ok u p0.fDone r11 e_r11) kr ?_
    obtain ⟨r12, e_r12, h⟩ := bind_some h
    refine Runs.callK false 31 10 [] [.t (.int .i64 r11)] _ _ _ rfl rfl kr kr kr kr kr (spec_NumText_ok u r11 r12 e_r12) kr ?_
    obtain ⟨_, e_13, h⟩ := bind_some h
    refine Runs.cat ((((((ByteArray.mk #[119, 97, 110, 116, 32])) ++ r4) ++ ((ByteArray.mk #[32]))) ++ r8) ++ ((ByteArray.mk #[32]))) r12 rfl kr kr kr kr (of_decide_eq_true (chk_some e_13)) ?_
    refine Runs.alln ?_
    refine Wp.fg ⟨[(1, .obj 1 0), (2, .t (.str (((((((ByteArray.mk #[119, 97, 110, 116, 32])) ++ r4) ++ ((ByteArray.mk #[32]))) ++ r8) ++ ((ByteArray.mk #[32]))) ++ r12)))], [(1, ((Msg.enc p0).map .t))], []⟩ ?_
    refine Wp.ret ?_
    refine blkR ?_
    refine thenR ?_
    obtain rfl := Option.some.inj h
    exact RetK [.t (.str (((((((ByteArray.mk #[119, 97, 110, 116, 32])) ++ r4) ++ ((ByteArray.mk #[32]))) ++ r8) ++ ((ByteArray.mk #[32]))) ++ r12))] _ [] kr kr (.refl _) .nil
  have h := cond_f h hc
  refine Wp.srg [] [] ?_
  refine Runs.alln ?_
  refine Wp.fg ⟨[(1, .obj 1 0), (2, .t (.str ((ByteArray.mk #[])))), (33, .t (.bool (p0.fKind == 3)))], [(1, ((Msg.enc p0).map .t))], []⟩ ?_
  refine Wp.cond2 (b := p0.fKind == 3) kr (fun hc => ?_) (fun hc => ?_)
  · have h := cond_t h hc
    refine Wp.seq ?_
    refine Wp.regionA (pOf []) (rhoOf [(1, .obj 1), (35, .obj 1), (36, .frz), (37, .frz), (38, .frz), (39, .frz), (40, .obj 1), (41, .frz), (42, .frz), (43, .frz)]) kr kr ?_
    refine Runs.batch 2 kr ?_
    obtain ⟨r14, e_r14, h⟩ := bind_some h
    refine Runs.callK false 37 10 [] [.t (.int .i64 p0.fGen)] _ _ _ rfl rfl kr kr kr kr kr (spec_NumText_ok u p0.fGen r14 e_r14) kr ?_
    obtain ⟨_, e_15, h⟩ := bind_some h
    refine Runs.cat ((ByteArray.mk #[112, 97, 114, 116, 32])) r14 rfl kr kr kr kr (of_decide_eq_true (chk_some e_15)) ?_
    obtain ⟨_, e_16, h⟩ := bind_some h
    refine Runs.cat (((ByteArray.mk #[112, 97, 114, 116, 32])) ++ r14) ((ByteArray.mk #[32])) rfl kr kr kr kr (of_decide_eq_true (chk_some e_16)) ?_
    refine Runs.batch 2 kr ?_
    obtain ⟨r17, e_r17, h⟩ := bind_some h
    refine Runs.callK false 42 10 [] [.t (.int .i64 p0.fI)] _ _ _ rfl rfl kr kr kr kr kr (spec_NumText_ok u p0.fI r17 e_r17) kr ?_
    obtain ⟨_, e_18, h⟩ := bind_some h
    refine Runs.cat ((((ByteArray.mk #[112, 97, 114, 116, 32])) ++ r14) ++ ((ByteArray.mk #[32]))) r17 rfl kr kr kr kr (of_decide_eq_true (chk_some e_18)) ?_
    refine Runs.alln ?_
    refine Wp.fg ⟨[(1, .obj 1 0), (2, .t (.str (((((ByteArray.mk #[112, 97, 114, 116, 32])) ++ r14) ++ ((ByteArray.mk #[32]))) ++ r17)))], [(1, ((Msg.enc p0).map .t))], []⟩ ?_
    refine Wp.ret ?_
    refine blkR ?_
    refine thenR ?_
    obtain rfl := Option.some.inj h
    exact RetK [.t (.str (((((ByteArray.mk #[112, 97, 114, 116, 32])) ++ r14) ++ ((ByteArray.mk #[32]))) ++ r17))] _ [] kr kr (.refl _) .nil
  have h := cond_f h hc
  refine Wp.skip ?_
  refine blkN ?_
  refine thenN ?_
  refine Wp.srg [] [] ?_
  refine Runs.batch 2 kr ?_
  obtain ⟨r19, e_r19, h⟩ := bind_some h
  refine Runs.callK false 46 10 [] [.t (.int .i64 p0.fGen)] _ _ _ rfl rfl kr kr kr kr kr (spec_NumText_ok u p0.fGen r19 e_r19) kr ?_
  obtain ⟨_, e_20, h⟩ := bind_some h
  refine Runs.cat ((ByteArray.mk #[98, 101, 97, 116, 32])) r19 rfl kr kr kr kr (of_decide_eq_true (chk_some e_20)) ?_
  refine Runs.alln ?_
  refine Wp.fg ⟨[(2, .t (.str (((ByteArray.mk #[98, 101, 97, 116, 32])) ++ r19)))], [], []⟩ ?_
  refine Wp.ret ?_
  obtain rfl := Option.some.inj h
  exact RetK [.t (.str (((ByteArray.mk #[98, 101, 97, 116, 32])) ++ r19))] _ [] kr kr (.refl _) .nil
theorem spec_PacketText_ok (u : Nat) (p0 : Packet) (r : ByteArray) (h : spec_PacketText u p0 = some r) : CallOK Tryd.prog 5 [.agg [.t (.int .i64 p0.fFrom), .t (.int .i64 p0.fTo), .t (.sl 1 (p0.fB.map (eInt .u8)))]] (.one (.t (.str r))) [] := by
  unfold spec_PacketText at h
  refine CallOK.of_bodyK (fn := Tryd.f5) (m := false) [.agg ((Packet.enc p0).map .t)] kr rfl kr kr kr kr kr ?_
  refine Wp.srg [] [] ?_
  refine Runs.alln ?_
  refine Wp.fg ⟨[(1, .obj 1 0), (2, .t (.str ((ByteArray.mk #[]))))], [(1, ((Packet.enc p0).map .t))], []⟩ ?_
  refine Wp.seq ?_
  refine Wp.regionA (pOf []) (rhoOf [(1, .obj 1), (6, .obj 1), (7, .frz), (8, .frz), (9, .frz), (10, .obj 1), (11, .frz), (12, .frz), (13, .frz), (14, .frz)]) kr kr ?_
  refine Runs.batch 2 kr ?_
  obtain ⟨r1, e_r1, h⟩ := bind_some h
  refine Runs.callK false 8 10 [] [.t (.int .i64 p0.fFrom)] _ _ _ rfl rfl kr kr kr kr kr (spec_NumText_ok u p0.fFrom r1 e_r1) kr ?_
  obtain ⟨_, e_2, h⟩ := bind_some h
  refine Runs.cat r1 ((ByteArray.mk #[62])) rfl kr kr kr kr (of_decide_eq_true (chk_some e_2)) ?_
  refine Runs.batch 2 kr ?_
  obtain ⟨r3, e_r3, h⟩ := bind_some h
  refine Runs.callK false 12 10 [] [.t (.int .i64 p0.fTo)] _ _ _ rfl rfl kr kr kr kr kr (spec_NumText_ok u p0.fTo r3 e_r3) kr ?_
  obtain ⟨_, e_4, h⟩ := bind_some h
  refine Runs.cat (r1 ++ ((ByteArray.mk #[62]))) r3 rfl kr kr kr kr (of_decide_eq_true (chk_some e_4)) ?_
  obtain ⟨_, e_5, h⟩ := bind_some h
  refine Runs.cat ((r1 ++ ((ByteArray.mk #[62]))) ++ r3) ((ByteArray.mk #[32])) rfl kr kr kr kr (of_decide_eq_true (chk_some e_5)) ?_
  refine Runs.alln ?_
  refine Wp.fg ⟨[(1, .obj 1 0), (2, .t (.str ((ByteArray.mk #[])))), (3, .t (.str (((r1 ++ ((ByteArray.mk #[62]))) ++ r3) ++ ((ByteArray.mk #[32])))))], [(1, ((Packet.enc p0).map .t))], []⟩ ?_
  refine Wp.srg [] [] ?_
  refine Runs.batch 2 kr ?_
  obtain ⟨r6, e_r6, h⟩ := bind_some h
  refine Runs.callK false 18 11 [] [.t (.sl 1 (p0.fB.map (eInt .u8)))] _ _ _ rfl rfl kr kr kr kr kr (spec_GetMsg_ok u p0.fB r6 e_r6) kr ?_
  refine Runs.alln ?_
  refine Wp.fg ⟨[(2, .t (.str ((ByteArray.mk #[])))), (3, .t (.str (((r1 ++ ((ByteArray.mk #[62]))) ++ r3) ++ ((ByteArray.mk #[32]))))), (4, .obj 4 0), (5, .t (.bool r6.2))], [(4, [.t (.int .i64 r6.1.fKind), .t (.int .i64 r6.1.fGen), .t (.int .i64 r6.1.fMan.fGen), .t (.int .i64 r6.1.fMan.fSize), .t (.int .i64 r6.1.fMan.fLen), .own 1179653, .t (.int .i64 r6.1.fWant), .t (.int .i64 r6.1.fDone), .t (.int .i64 r6.1.fI), .own 1179657])], [(1179653, .live 76 2 (r6.1.fMan.fSums.map Sum.enc)), (1179657, .live 5 1 (r6.1.fB.map (eInt .u8)))]⟩ ?_
  refine Wp.seq ?_
  refine Wp.srg [] [] ?_
  refine Runs.alln ?_
  refine Wp.fg ⟨[(2, .t (.str ((ByteArray.mk #[])))), (3, .t (.str (((r1 ++ ((ByteArray.mk #[62]))) ++ r3) ++ ((ByteArray.mk #[32]))))), (4, .obj 4 0), (22, .t (.bool (!r6.2)))], [(4, [.t (.int .i64 r6.1.fKind), .t (.int .i64 r6.1.fGen), .t (.int .i64 r6.1.fMan.fGen), .t (.int .i64 r6.1.fMan.fSize), .t (.int .i64 r6.1.fMan.fLen), .own 1179653, .t (.int .i64 r6.1.fWant), .t (.int .i64 r6.1.fDone), .t (.int .i64 r6.1.fI), .own 1179657])], [(1179653, .live 76 2 (r6.1.fMan.fSums.map Sum.enc)), (1179657, .live 5 1 (r6.1.fB.map (eInt .u8)))]⟩ ?_
  refine Wp.cond2 (b := !r6.2) kr (fun hc => ?_) (fun hc => ?_)
  · have h := cond_t h hc
    refine Wp.srg [] [] ?_
    refine Runs.batch 1 kr ?_
    obtain ⟨_, e_7, h⟩ := bind_some h
    refine Runs.cat (((r1 ++ ((ByteArray.mk #[62]))) ++ r3) ++ ((ByteArray.mk #[32]))) ((ByteArray.mk #[63])) rfl kr kr kr kr (of_decide_eq_true (chk_some e_7)) ?_
    refine Runs.alln ?_
    refine Wp.fg ⟨[(2, .t (.str ((((r1 ++ ((ByteArray.mk #[62]))) ++ r3) ++ ((ByteArray.mk #[32]))) ++ ((ByteArray.mk #[63]))))), (3, .t (.str (((r1 ++ ((ByteArray.mk #[62]))) ++ r3) ++ ((ByteArray.mk #[32]))))), (4, .obj 4 0)], [(4, [.t (.int .i64 r6.1.fKind), .t (.int .i64 r6.1.fGen), .t (.int .i64 r6.1.fMan.fGen), .t (.int .i64 r6.1.fMan.fSize), .t (.int .i64 r6.1.fMan.fLen), .own 1179653, .t (.int .i64 r6.1.fWant), .t (.int .i64 r6.1.fDone), .t (.int .i64 r6.1.fI), .own 1179657])], [(1179653, .live 76 2 (r6.1.fMan.fSums.map Sum.enc)), (1179657, .live 5 1 (r6.1.fB.map (eInt .u8)))]⟩ ?_
    refine Wp.ret ?_
    refine thenR ?_
    obtain rfl := Option.some.inj h
    exact RetK [.t (.str ((((r1 ++ ((ByteArray.mk #[62]))) ++ r3) ++ ((ByteArray.mk #[32]))) ++ ((ByteArray.mk #[63]))))] _ [] kr kr (.refl _) .nil
  have h := cond_f h hc
  refine Wp.skip (thenN ?_)
  refine Wp.srg [] [] ?_
  refine Runs.batch 2 kr ?_
  obtain ⟨r8, e_r8, h⟩ := bind_some h
  refine Runs.callBK 27 12 [] [.agg [.t (.int .i64 r6.1.fKind), .t (.int .i64 r6.1.fGen), .t (.int .i64 r6.1.fMan.fGen), .t (.int .i64 r6.1.fMan.fSize), .t (.int .i64 r6.1.fMan.fLen), .own 1179653, .t (.int .i64 r6.1.fWant), .t (.int .i64 r6.1.fDone), .t (.int .i64 r6.1.fI), .own 1179657]] [.agg ((Msg.enc r6.1).map .t)] (.one (.t (.str r8))) rfl rfl kr kr kr kr kr (spec_MsgText_ok u r6.1 r8 e_r8) (by simp [V.plain, V.plains, C.plain, T.sc]) kr ?_
  obtain ⟨_, e_9, h⟩ := bind_some h
  refine Runs.cat (((r1 ++ ((ByteArray.mk #[62]))) ++ r3) ++ ((ByteArray.mk #[32]))) r8 rfl kr kr kr kr (of_decide_eq_true (chk_some e_9)) ?_
  refine Runs.alln ?_
  refine Wp.fg ⟨[(2, .t (.str ((((r1 ++ ((ByteArray.mk #[62]))) ++ r3) ++ ((ByteArray.mk #[32]))) ++ r8)))], [], []⟩ ?_
  refine Wp.ret ?_
  obtain rfl := Option.some.inj h
  exact RetK [.t (.str ((((r1 ++ ((ByteArray.mk #[62]))) ++ r3) ++ ((ByteArray.mk #[32]))) ++ r8))] _ [] kr kr (.refl _) .nil
theorem impl_within_ok (u : Nat) (p0 : Int) (p1 : Int) (p2 : Int) (r : Bool) (h : impl_within u p0 p1 p2 = some r) : CallOK Tryd.prog 45 [.one (.t (.int .i64 p0)), .one (.t (.int .i64 p1)), .one (.t (.int .i64 p2))] (.one (.t (.bool r))) [] := by
  unfold impl_within at h
  refine CallOK.of_bodyK (fn := Tryd.f45) (m := false) [.t (.int .i64 p0), .t (.int .i64 p1), .t (.int .i64 p2)] kr rfl kr kr kr kr kr ?_
  refine Wp.srg [] [] ?_
  refine Runs.alln ?_
  refine Wp.fg ⟨[(0, .t (.int .i64 p0)), (1, .t (.int .i64 p1)), (2, .t (.int .i64 p2)), (6, .t (.bool false))], [], []⟩ ?_
  refine Wp.srg [] [] ?_
  refine Runs.batch 4 kr ?_
  rcases tf (decide (p0 ≥ p1)) with hc | hc
  · have h := cond_t h hc
    refine Runs.known 10 (v := true) kr hc ?_
    refine Runs.alln ?_
    refine Wp.fg ⟨[(6, .t (.bool (decide (p0 ≤ p2))))], [], []⟩ ?_
    refine Wp.ret ?_
    obtain rfl := Option.some.inj h
    exact RetK [.t (.bool (decide (p0 ≤ p2)))] _ [] kr kr (.refl _) .nil
  have h := cond_f h hc
  refine Runs.known 10 (v := false) kr hc ?_
  refine Runs.alln ?_
  refine Wp.fg ⟨[(6, .t (.bool false))], [], []⟩ ?_
  refine Wp.ret ?_
  obtain rfl := Option.some.inj h
  exact RetK [.t (.bool false)] _ [] kr kr (.refl _) .nil
theorem impl_readVar_ok (u : Nat) (p0 : List Int) (p1 : Int) (p2 : Int) (r : Int × Int × Bool) (h : impl_readVar u p0 p1 p2 = some r) : CallOK Tryd.prog 37 [.one (.t (.sl 1 (p0.map (eInt .u8)))), .one (.t (.int .i64 p1)), .one (.t (.int .i64 p2))] (.tup [.one (.t (.int .i64 r.1)), .one (.t (.int .i64 r.2.1)), .one (.t (.bool r.2.2))]) [] := by
  unfold impl_readVar at h
  refine CallOK.of_bodyK (fn := Tryd.f37) (m := false) [.t (.sl 1 (p0.map (eInt .u8))), .t (.int .i64 p1), .t (.int .i64 p2)] kr rfl kr kr kr kr kr ?_
  refine Wp.srg [] [] ?_
  refine Runs.alln ?_
  refine Wp.fg ⟨[(0, .t (.sl 1 (p0.map (eInt .u8)))), (1, .t (.int .i64 p1)), (2, .t (.int .i64 p2)), (6, .t (.int .i64 0)), (7, .t (.int .i64 0)), (8, .t (.bool false))], [], []⟩ ?_
  refine Wp.srg [] [] ?_
  refine Runs.alln ?_
  refine Wp.fg ⟨[(0, .t (.sl 1 (p0.map (eInt .u8)))), (1, .t (.int .i64 p1)), (2, .t (.int .i64 p2)), (6, .t (.int .i64 0)), (7, .t (.int .i64 0)), (8, .t (.bool false)), (9, .t (.int .i64 0))], [], []⟩ ?_
  refine Wp.seqJ (α := Unit) (fun a => ⟨[(6, .t (.int .i64 0)), (7, .t (.int .i64 0)), (8, .t (.bool false))], [], []⟩) (fun a => impl_readVar_j1 u = some r) ?_ ?_
  · rintro ⟨⟩ h
    change impl_readVar_j1 u = some r at h
    unfold impl_readVar_j1 at h
    refine Wp.srg [] [] ?_
    refine Runs.alln ?_
    refine Wp.fg ⟨[(6, .t (.int .i64 0)), (7, .t (.int .i64 0)), (8, .t (.bool false))], [], []⟩ ?_
    refine Wp.ret ?_
    obtain rfl := Option.some.inj h
    exact RetK [.t (.int .i64 0), .t (.int .i64 0), .t (.bool false)] _ [] kr kr (.refl _) .nil
  · refine Wp.srg [] [] ?_
    refine Runs.alln ?_
    refine Wp.fg ⟨[(0, .t (.sl 1 (p0.map (eInt .u8)))), (1, .t (.int .i64 p1)), (6, .t (.int .i64 0)), (7, .t (.int .i64 0)), (8, .t (.bool false)), (9, .t (.int .i64 0)), (12, .t (.int .i64 p2)), (13, .t (.int .i64 0))], [], []⟩ ?_
    refine Wp.block ?_
    refine Wp.loopF (α := (List Int) × Int × Int × Int × Int) (fun a => ⟨[(0, .t (.sl 1 (a.1.map (eInt .u8)))), (1, .t (.int .i64 a.2.1)), (6, .t (.int .i64 0)), (7, .t (.int .i64 0)), (8, .t (.bool false)), (9, .t (.int .i64 a.2.2.1)), (12, .t (.int .i64 a.2.2.2.1)), (13, .t (.int .i64 a.2.2.2.2))], [], []⟩) (fun k_impl_readVar_l2 a => impl_readVar_l2 u k_impl_readVar_l2 a.1 a.2.1 a.2.2.1 a.2.2.2.1 a.2.2.2.2 = some r) ?_ ?_ u (p0, p1, 0, p2, 0) h (Le.of (mo := []) (mr := []) kr kr kr kr)
    · intro a h; unfold impl_readVar_l2 at h; cases h
    · rintro k_impl_readVar_l2 ⟨p0, p1, x3, p2, x4⟩ h
      change impl_readVar_l2 u (k_impl_readVar_l2 + 1) p0 p1 x3 p2 x4 = some r at h
      rw [impl_readVar_l2] at h
      refine Wp.srg [] [] ?_
      refine Runs.alln ?_
      refine Wp.fg ⟨[(0, .t (.sl 1 (p0.map (eInt .u8)))), (1, .t (.int .i64 p1)), (6, .t (.int .i64 0)), (7, .t (.int .i64 0)), (8, .t (.bool false)), (9, .t (.int .i64 x3)), (12, .t (.int .i64 p2)), (13, .t (.int .i64 x4)), (14, .t (.bool (decide (x4 < p2))))], [], []⟩ ?_
      refine Wp.seq ?_
      refine Wp.cond2 (b := decide (x4 < p2)) kr (fun hc => ?_) (fun hc => ?_)
      · have h := cond_t h hc
        refine Wp.skip (thenN ?_)
        refine Wp.seq ?_
        refine Wp.block ?_
        refine Wp.srg [] [] ?_
        refine Runs.alln ?_
        refine Wp.fg ⟨[(0, .t (.sl 1 (p0.map (eInt .u8)))), (1, .t (.int .i64 p1)), (6, .t (.int .i64 0)), (7, .t (.int .i64 0)), (8, .t (.bool false)), (9, .t (.int .i64 x3)), (10, .t (.int .i64 x4)), (12, .t (.int .i64 p2)), (13, .t (.int .i64 x4))], [], []⟩ ?_
        refine Wp.seq ?_
        refine Wp.srg [] [] ?_
        refine Runs.batch 2 kr ?_
        refine Runs.lenT (y := .t (.sl 1 (p0.map (eInt .u8)))) (e := 5) (eInt .u8) p0 1 rfl rfl rfl kr kr kr kr kr ?_
        refine Runs.batch 3 kr ?_
        obtain ⟨r7, e_r7, h⟩ := bind_some h
        refine Runs.callK false 22 45 [] [.t (.int .i64 p1), .t (.int .i64 0), .t (.int .i64 (bSub .i64 (bSub .i64 ((p0.length : Int)) 1) x4))] _ _ _ rfl rfl kr kr kr kr kr (impl_within_ok u p1 0 (bSub .i64 (bSub .i64 ((p0.length : Int)) 1) x4) r7 e_r7) kr ?_
        refine Runs.alln ?_
        refine Wp.fg ⟨[(0, .t (.sl 1 (p0.map (eInt .u8)))), (1, .t (.int .i64 p1)), (6, .t (.int .i64 0)), (7, .t (.int .i64 0)), (8, .t (.bool false)), (9, .t (.int .i64 x3)), (10, .t (.int .i64 x4)), (12, .t (.int .i64 p2)), (13, .t (.int .i64 x4)), (23, .t (.bool (!r7)))], [], []⟩ ?_
        refine Wp.cond2 (b := !r7) kr (fun hc => ?_) (fun hc => ?_)
        · have h := cond_t h hc
          refine Wp.srg [] [] ?_
          refine Runs.alln ?_
          refine Wp.fg ⟨[(0, .t (.sl 1 (p0.map (eInt .u8)))), (1, .t (.int .i64 p1)), (6, .t (.int .i64 0)), (7, .t (.int .i64 0)), (8, .t (.bool false)), (9, .t (.int .i64 x3)), (10, .t (.int .i64 x4)), (12, .t (.int .i64 p2)), (13, .t (.int .i64 x4))], [], []⟩ ?_
          refine Wp.ret ?_
          refine thenR ?_
          refine blkR ?_
          refine thenR ?_
          refine thenR ?_
          refine blkR ?_
          refine thenR ?_
          obtain rfl := Option.some.inj h
          exact RetK [.t (.int .i64 0), .t (.int .i64 0), .t (.bool false)] _ [] kr kr (.refl _) .nil
        have h := cond_f h hc
        refine Wp.skip (thenN ?_)
        refine Wp.srg [] [] ?_
        refine Runs.batch 4 kr ?_
        obtain ⟨y8, e_y8, h⟩ := bind_some h
        refine Runs.idxT (e := 5) (kk := .i64) (sz := 1) (eInt .u8) p0 (bAdd .i64 p1 x4) rfl kr kr kr kr kr kr e_y8 ?_
        refine Runs.alln ?_
        refine Wp.fg ⟨[(0, .t (.sl 1 (p0.map (eInt .u8)))), (1, .t (.int .i64 p1)), (6, .t (.int .i64 0)), (7, .t (.int .i64 0)), (8, .t (.bool false)), (9, .t (.int .i64 x3)), (10, .t (.int .i64 x4)), (11, .t (.int .i64 (IntKind.wrap .i64 y8))), (12, .t (.int .i64 p2)), (13, .t (.int .i64 x4))], [], []⟩ ?_
        refine Wp.srg [] [] ?_
        refine Runs.batch 5 kr ?_
        obtain ⟨_, e_9, h⟩ := bind_some h
        refine Runs.num .shl (.int .i64 (bAnd .i64 (IntKind.wrap .i64 y8) 127)) (.int .i64 (bMul .i64 7 x4)) (.int .i64 (bShl .i64 (bAnd .i64 (IntKind.wrap .i64 y8) 127) (bMul .i64 7 x4))) rfl kr kr kr kr (bin_shl _ _ _ _ _ (chk_some e_9)) ?_
        refine Runs.alln ?_
        refine Wp.fg ⟨[(0, .t (.sl 1 (p0.map (eInt .u8)))), (1, .t (.int .i64 p1)), (6, .t (.int .i64 0)), (7, .t (.int .i64 0)), (8, .t (.bool false)), (9, .t (.int .i64 (bOr .i64 x3 (bShl .i64 (bAnd .i64 (IntKind.wrap .i64 y8) 127) (bMul .i64 7 x4))))), (10, .t (.int .i64 x4)), (11, .t (.int .i64 (IntKind.wrap .i64 y8))), (12, .t (.int .i64 p2)), (13, .t (.int .i64 x4))], [], []⟩ ?_
        refine Wp.srg [] [] ?_
        refine Runs.alln ?_
        refine Wp.fg ⟨[(0, .t (.sl 1 (p0.map (eInt .u8)))), (1, .t (.int .i64 p1)), (6, .t (.int .i64 0)), (7, .t (.int .i64 0)), (8, .t (.bool false)), (9, .t (.int .i64 (bOr .i64 x3 (bShl .i64 (bAnd .i64 (IntKind.wrap .i64 y8) 127) (bMul .i64 7 x4))))), (10, .t (.int .i64 x4)), (11, .t (.int .i64 (IntKind.wrap .i64 y8))), (12, .t (.int .i64 p2)), (13, .t (.int .i64 x4)), (39, .t (.bool (decide ((IntKind.wrap .i64 y8) < 128))))], [], []⟩ ?_
        refine Wp.cond2 (b := decide ((IntKind.wrap .i64 y8) < 128)) kr (fun hc => ?_) (fun hc => ?_)
        · have h := cond_t h hc
          refine Wp.srg [] [] ?_
          refine Runs.batch 8 kr ?_
          rcases tf (x4 == 0) with hc | hc
          · have h := cond_t h hc
            refine Runs.known 47 (v := true) kr hc ?_
            refine Runs.alln ?_
            refine Wp.fg ⟨[(0, .t (.sl 1 (p0.map (eInt .u8)))), (1, .t (.int .i64 p1)), (6, .t (.int .i64 (bOr .i64 x3 (bShl .i64 (bAnd .i64 (IntKind.wrap .i64 y8) 127) (bMul .i64 7 x4))))), (7, .t (.int .i64 (bAdd .i64 (bAdd .i64 p1 x4) 1))), (8, .t (.bool true)), (9, .t (.int .i64 (bOr .i64 x3 (bShl .i64 (bAnd .i64 (IntKind.wrap .i64 y8) 127) (bMul .i64 7 x4))))), (12, .t (.int .i64 p2)), (13, .t (.int .i64 x4))], [], []⟩ ?_
            refine Wp.ret ?_
            refine blkR ?_
            refine thenR ?_
            refine thenR ?_
            refine blkR ?_
            refine thenR ?_
            obtain rfl := Option.some.inj h
            exact RetK [.t (.int .i64 (bOr .i64 x3 (bShl .i64 (bAnd .i64 (IntKind.wrap .i64 y8) 127) (bMul .i64 7 x4)))), .t (.int .i64 (bAdd .i64 (bAdd .i64 p1 x4) 1)), .t (.bool true)] _ [] kr kr (.refl _) .nil
          have h := cond_f h hc
          refine Runs.known 47 (v := false) kr hc ?_
          refine Runs.alln ?_
          refine Wp.fg ⟨[(0, .t (.sl 1 (p0.map (eInt .u8)))), (1, .t (.int .i64 p1)), (6, .t (.int .i64 (bOr .i64 x3 (bShl .i64 (bAnd .i64 (IntKind.wrap .i64 y8) 127) (bMul .i64 7 x4))))), (7, .t (.int .i64 (bAdd .i64 (bAdd .i64 p1 x4) 1))), (8, .t (.bool (decide ((IntKind.wrap .i64 y8) > 0)))), (9, .t (.int .i64 (bOr .i64 x3 (bShl .i64 (bAnd .i64 (IntKind.wrap .i64 y8) 127) (bMul .i64 7 x4))))), (12, .t (.int .i64 p2)), (13, .t (.int .i64 x4)), (48, .t (.int .i64 (IntKind.wrap .i64 y8))), (49, .t (.bool (decide ((IntKind.wrap .i64 y8) > 0))))], [], []⟩ ?_
          refine Wp.ret ?_
          refine blkR ?_
          refine thenR ?_
          refine thenR ?_
          refine blkR ?_
          refine thenR ?_
          obtain rfl := Option.some.inj h
          exact RetK [.t (.int .i64 (bOr .i64 x3 (bShl .i64 (bAnd .i64 (IntKind.wrap .i64 y8) 127) (bMul .i64 7 x4)))), .t (.int .i64 (bAdd .i64 (bAdd .i64 p1 x4) 1)), .t (.bool (decide ((IntKind.wrap .i64 y8) > 0)))] _ [] kr kr (.refl _) .nil
        have h := cond_f h hc
        refine Wp.skip ?_
        refine blkN ?_
        refine thenN ?_
        refine Wp.rg [] [] ?_
        refine Runs.alln ?_
        exact ⟨(p0, p1, bOr .i64 x3 (bShl .i64 (bAnd .i64 (IntKind.wrap .i64 y8) 127) (bMul .i64 7 x4)), p2, bAdd .i64 x4 1), h, Le.of (mo := []) (mr := []) kr kr kr kr⟩
      have h := cond_f h hc
      refine Wp.exit ?_
      refine thenE ?_
      refine thenE ?_
      refine blkE ?_
      refine thenN ?_
      exact ⟨(), h, Le.of (mo := []) (mr := []) kr kr kr kr⟩
theorem impl_GetVar_ok (u : Nat) (p0 : List Int) (p1 : Int) (r : Int × Int × Bool) (h : impl_GetVar u p0 p1 = some r) : CallOK Tryd.prog 23 [.one (.t (.sl 1 (p0.map (eInt .u8)))), .one (.t (.int .i64 p1))] (.tup [.one (.t (.int .i64 r.1)), .one (.t (.int .i64 r.2.1)), .one (.t (.bool r.2.2))]) [] := by
  unfold impl_GetVar at h
  refine CallOK.of_bodyK (fn := Tryd.f23) (m := false) [.t (.sl 1 (p0.map (eInt .u8))), .t (.int .i64 p1)] kr rfl kr kr kr kr kr ?_
  refine Wp.srg [] [] ?_
  refine Runs.alln ?_
  refine Wp.fg ⟨[(0, .t (.sl 1 (p0.map (eInt .u8)))), (1, .t (.int .i64 p1)), (4, .t (.int .i64 0)), (5, .t (.int .i64 0)), (6, .t (.bool false))], [], []⟩ ?_
  refine Wp.srg [] [] ?_
  refine Runs.batch 2 kr ?_
  obtain ⟨r1, e_r1, h⟩ := bind_some h
  refine Runs.callK false 13 37 [] [.t (.sl 1 (p0.map (eInt .u8))), .t (.int .i64 p1), .t (.int .i64 6)] _ _ _ rfl rfl kr kr kr kr kr (impl_readVar_ok u p0 p1 6 r1 e_r1) kr ?_
  refine Runs.alln ?_
  refine Wp.fg ⟨[(4, .t (.int .i64 0)), (5, .t (.int .i64 0)), (6, .t (.bool false)), (7, .t (.int .i64 r1.1)), (8, .t (.int .i64 r1.2.1)), (9, .t (.bool r1.2.2))], [], []⟩ ?_
  refine Wp.seq ?_
  refine Wp.seqJ (α := (Int × Int × Bool) × Bool) (fun a => ⟨[(4, .t (.int .i64 0)), (5, .t (.int .i64 0)), (6, .t (.bool false)), (7, .t (.int .i64 a.1.1)), (8, .t (.int .i64 a.1.2.1)), (22, .t (.bool a.2))], [], []⟩) (fun a => impl_GetVar_j1 u a.1 a.2 = some r) ?_ ?_
  · rintro ⟨r1, x2⟩ h
    change impl_GetVar_j1 u r1 x2 = some r at h
    unfold impl_GetVar_j1 at h
    refine Wp.cond2 (b := x2) kr (fun hc => ?_) (fun hc => ?_)
    · have h := cond_t h hc
      refine Wp.srg [] [] ?_
      refine Runs.alln ?_
      refine Wp.fg ⟨[(4, .t (.int .i64 0)), (5, .t (.int .i64 0)), (6, .t (.bool false)), (7, .t (.int .i64 r1.1)), (8, .t (.int .i64 r1.2.1))], [], []⟩ ?_
      refine Wp.ret ?_
      refine thenR ?_
      obtain rfl := Option.some.inj h
      exact RetK [.t (.int .i64 0), .t (.int .i64 0), .t (.bool false)] _ [] kr kr (.refl _) .nil
    have h := cond_f h hc
    refine Wp.skip (thenN ?_)
    refine Wp.srg [] [] ?_
    refine Runs.alln ?_
    refine Wp.fg ⟨[(4, .t (.int .i64 r1.1)), (5, .t (.int .i64 r1.2.1)), (6, .t (.bool true))], [], []⟩ ?_
    refine Wp.ret ?_
    obtain rfl := Option.some.inj h
    exact RetK [.t (.int .i64 r1.1), .t (.int .i64 r1.2.1), .t (.bool true)] _ [] kr kr (.refl _) .nil
  · refine Wp.rg [] [] ?_
    refine Runs.batch 3 kr ?_
    rcases tf (!r1.2.2) with hc | hc
    · have h := cond_t h hc
      refine Runs.known 19 (v := true) kr hc ?_
      refine Runs.alln ?_
      exact ⟨(r1, true), h, Le.of (mo := []) (mr := []) kr kr kr kr⟩
    have h := cond_f h hc
    refine Runs.known 19 (v := false) kr hc ?_
    refine Runs.alln ?_
    exact ⟨(r1, decide (r1.1 > 1000000000000)), h, Le.of (mo := []) (mr := []) kr kr kr kr⟩
theorem impl_readVars_ok (u : Nat) (p0 : List Int) (p1 : Int) (p2 : Int) (r : (List Int) × Int × Bool) (h : impl_readVars u p0 p1 p2 = some r) : CallOK Tryd.prog 39 [.one (.t (.sl 1 (p0.map (eInt .u8)))), .one (.t (.int .i64 p1)), .one (.t (.int .i64 p2))] (.tup [.one (.ow 3 1 (r.1.map (eInt .i64))), .one (.t (.int .i64 r.2.1)), .one (.t (.bool r.2.2))]) [] := by
  unfold impl_readVars at h
  refine CallOK.of_bodyK (fn := Tryd.f39) (m := true) [.t (.sl 1 (p0.map (eInt .u8))), .t (.int .i64 p1), .t (.int .i64 p2)] kr rfl kr kr kr kr kr ?_
  refine Wp.srg [] [] ?_
  refine Runs.alln ?_
  refine Wp.fg ⟨[(0, .t (.sl 1 (p0.map (eInt .u8)))), (1, .t (.int .i64 p1)), (2, .t (.int .i64 p2)), (6, .nil), (7, .t (.int .i64 0)), (8, .t (.bool false))], [], []⟩ ?_
  refine Wp.srg [] [] ?_
  refine Runs.alln ?_
  refine Wp.fg ⟨[(0, .t (.sl 1 (p0.map (eInt .u8)))), (1, .t (.int .i64 p1)), (2, .t (.int .i64 p2)), (6, .nil), (7, .t (.int .i64 0)), (8, .t (.bool false)), (9, .own 851968)], [], [(851968, .live 3 1 ((([] : List Int)).map (eInt .i64)))]⟩ ?_
  refine Wp.seqJ (α := Int × (List Int)) (fun a => ⟨[(1, .t (.int .i64 a.1)), (6, .nil), (7, .t (.int .i64 0)), (8, .t (.bool false)), (9, .own 589825)], [], [(589825, .live 3 1 (a.2.map (eInt .i64)))]⟩) (fun a => impl_readVars_j1 u a.1 a.2 = some r) ?_ ?_
  · rintro ⟨x11, x12⟩ h
    change impl_readVars_j1 u x11 x12 = some r at h
    unfold impl_readVars_j1 at h
    refine Wp.srg [] [] ?_
    refine Runs.alln ?_
    refine Wp.fg ⟨[(6, .own 589825), (7, .t (.int .i64 x11)), (8, .t (.bool true))], [], [(589825, .live 3 1 (x12.map (eInt .i64)))]⟩ ?_
    refine Wp.ret ?_
    obtain rfl := Option.some.inj h
    exact RetK [.own 589825, .t (.int .i64 x11), .t (.bool true)] _ [] kr kr (.refl _) .nil
  · refine Wp.srg [] [] ?_
    refine Runs.alln ?_
    refine Wp.fg ⟨[(0, .t (.sl 1 (p0.map (eInt .u8)))), (1, .t (.int .i64 p1)), (6, .nil), (7, .t (.int .i64 0)), (8, .t (.bool false)), (9, .own 851968), (14, .t (.int .i64 p2)), (15, .t (.int .i64 0))], [], [(851968, .live 3 1 ((([] : List Int)).map (eInt .i64)))]⟩ ?_
    refine Wp.block ?_
    refine Wp.loopF (α := (List Int) × Int × (List Int) × Int × Int) (fun a => ⟨[(0, .t (.sl 1 (a.1.map (eInt .u8)))), (1, .t (.int .i64 a.2.1)), (6, .nil), (7, .t (.int .i64 0)), (8, .t (.bool false)), (9, .own 589825), (14, .t (.int .i64 a.2.2.2.1)), (15, .t (.int .i64 a.2.2.2.2))], [], [(589825, .live 3 1 (a.2.2.1.map (eInt .i64)))]⟩) (fun k_impl_readVars_l2 a => impl_readVars_l2 u k_impl_readVars_l2 a.1 a.2.1 a.2.2.1 a.2.2.2.1 a.2.2.2.2 = some r) ?_ ?_ u (p0, p1, ([] : List Int), p2, 0) h (Le.of (mo := []) (mr := [(589825, 851968)]) kr kr kr kr)
    · intro a h; unfold impl_readVars_l2 at h; cases h
    · rintro k_impl_readVars_l2 ⟨p0, x4, x5, p2, x6⟩ h
      change impl_readVars_l2 u (k_impl_readVars_l2 + 1) p0 x4 x5 p2 x6 = some r at h
      rw [impl_readVars_l2] at h
      refine Wp.srg [] [] ?_
      refine Runs.alln ?_
      refine Wp.fg ⟨[(0, .t (.sl 1 (p0.map (eInt .u8)))), (1, .t (.int .i64 x4)), (6, .nil), (7, .t (.int .i64 0)), (8, .t (.bool false)), (9, .own 589825), (14, .t (.int .i64 p2)), (15, .t (.int .i64 x6)), (16, .t (.bool (decide (x6 < p2))))], [], [(589825, .live 3 1 (x5.map (eInt .i64)))]⟩ ?_
      refine Wp.seq ?_
      refine Wp.cond2 (b := decide (x6 < p2)) kr (fun hc => ?_) (fun hc => ?_)
      · have h := cond_t h hc
        refine Wp.skip (thenN ?_)
        refine Wp.seq ?_
        refine Wp.block ?_
        refine Wp.srg [] [] ?_
        refine Runs.batch 2 kr ?_
        obtain ⟨r10, e_r10, h⟩ := bind_some h
        refine Runs.callK false 20 23 [] [.t (.sl 1 (p0.map (eInt .u8))), .t (.int .i64 x4)] _ _ _ rfl rfl kr kr kr kr kr (impl_GetVar_ok u p0 x4 r10 e_r10) kr ?_
        refine Runs.alln ?_
        refine Wp.fg ⟨[(0, .t (.sl 1 (p0.map (eInt .u8)))), (1, .t (.int .i64 x4)), (6, .nil), (7, .t (.int .i64 0)), (8, .t (.bool false)), (9, .own 589825), (10, .t (.int .i64 r10.1)), (11, .t (.int .i64 r10.2.1)), (12, .t (.bool r10.2.2)), (14, .t (.int .i64 p2)), (15, .t (.int .i64 x6))], [], [(589825, .live 3 1 (x5.map (eInt .i64)))]⟩ ?_
        refine Wp.seq ?_
        refine Wp.srg [] [] ?_
        refine Runs.alln ?_
        refine Wp.fg ⟨[(0, .t (.sl 1 (p0.map (eInt .u8)))), (1, .t (.int .i64 x4)), (6, .nil), (7, .t (.int .i64 0)), (8, .t (.bool false)), (9, .own 589825), (10, .t (.int .i64 r10.1)), (11, .t (.int .i64 r10.2.1)), (14, .t (.int .i64 p2)), (15, .t (.int .i64 x6)), (25, .t (.bool (!r10.2.2)))], [], [(589825, .live 3 1 (x5.map (eInt .i64)))]⟩ ?_
        refine Wp.cond2 (b := !r10.2.2) kr (fun hc => ?_) (fun hc => ?_)
        · have h := cond_t h hc
          refine Wp.srg [] [] ?_
          refine Runs.alln ?_
          refine Wp.fg ⟨[(0, .t (.sl 1 (p0.map (eInt .u8)))), (1, .t (.int .i64 x4)), (6, .nil), (7, .t (.int .i64 0)), (8, .t (.bool false)), (9, .own 589825), (10, .t (.int .i64 r10.1)), (11, .t (.int .i64 r10.2.1)), (14, .t (.int .i64 p2)), (15, .t (.int .i64 x6))], [], [(589825, .live 3 1 (x5.map (eInt .i64)))]⟩ ?_
          refine Wp.ret ?_
          refine thenR ?_
          refine blkR ?_
          refine thenR ?_
          refine thenR ?_
          refine blkR ?_
          refine thenR ?_
          obtain rfl := Option.some.inj h
          exact RetK [.nil, .t (.int .i64 0), .t (.bool false)] (.tup [.one (.nil), .one (.t (.int .i64 0)), .one (.t (.bool false))]) [] kr kr (.tup (.cons (.one (.nilO _ _)) (.cons (.refl _) (.cons (.refl _) .nil)))) .nil
        have h := cond_f h hc
        refine Wp.skip (thenN ?_)
        refine Wp.srg [] [] ?_
        refine Runs.batch 3 kr ?_
        obtain ⟨_, e_11, h⟩ := bind_some h
        refine Runs.appT (y := .own 1835008) (eInt .i64) 29 1 3 1 8 589825 x5 ([r10.1]) rfl rfl rfl rfl kr kr kr kr kr kr (.inl rfl) kr (of_decide_eq_true (chk_some e_11)) kr kr ?_
        refine Runs.alln ?_
        refine Wp.fg ⟨[(0, .t (.sl 1 (p0.map (eInt .u8)))), (1, .t (.int .i64 x4)), (6, .nil), (7, .t (.int .i64 0)), (8, .t (.bool false)), (9, .own 1900544), (11, .t (.int .i64 r10.2.1)), (14, .t (.int .i64 p2)), (15, .t (.int .i64 x6))], [], [(1900544, .live 3 1 ((x5 ++ ([r10.1])).map (eInt .i64)))]⟩ ?_
        refine Wp.rg [] [] ?_
        refine Runs.all kr ?_
        refine blkN ?_
        refine thenN ?_
        refine Wp.rg [] [] ?_
        refine Runs.alln ?_
        exact ⟨(p0, r10.2.1, x5 ++ ([r10.1]), p2, bAdd .i64 x6 1), h, Le.of (mo := []) (mr := [(589825, 1900544)]) kr kr kr kr⟩
      have h := cond_f h hc
      refine Wp.exit ?_
      refine thenE ?_
      refine thenE ?_
      refine blkE ?_
      refine thenN ?_
      exact ⟨(x4, x5), h, Le.of (mo := []) (mr := []) kr kr kr kr⟩
theorem impl_SizeOk_ok (u : Nat) (p0 : Int) (p1 : Int) (r : Bool) (h : impl_SizeOk u p0 p1 = some r) : CallOK Tryd.prog 67 [.one (.t (.int .i64 p0)), .one (.t (.int .i64 p1))] (.one (.t (.bool r))) [] := by
  unfold impl_SizeOk at h
  refine CallOK.of_bodyK (fn := Tryd.f67) (m := false) [.t (.int .i64 p0), .t (.int .i64 p1)] kr rfl kr kr kr kr kr ?_
  refine Wp.srg [] [] ?_
  refine Runs.alln ?_
  refine Wp.fg ⟨[(0, .t (.int .i64 p0)), (1, .t (.int .i64 p1)), (4, .t (.bool false))], [], []⟩ ?_
  refine Wp.srg [] [] ?_
  refine Runs.batch 1 kr ?_
  obtain ⟨r1, e_r1, h⟩ := bind_some h
  refine Runs.callK false 6 45 [] [.t (.int .i64 p0), .t (.int .i64 2), .t (.int .i64 6)] _ _ _ rfl rfl kr kr kr kr kr (impl_within_ok u p0 2 6 r1 e_r1) kr ?_
  refine Runs.batch 1 kr ?_
  rcases tf (r1) with hc | hc
  · have h := cond_t h hc
    refine Runs.known 7 (v := true) kr hc ?_
    refine Runs.batch 3 kr ?_
    obtain ⟨r2, e_r2, h⟩ := bind_some h
    refine Runs.callK false 11 45 [] [.t (.int .i64 p1), .t (.int .i64 0), .t (.int .i64 (bMul .i64 40 p0))] _ _ _ rfl rfl kr kr kr kr kr (impl_within_ok u p1 0 (bMul .i64 40 p0) r2 e_r2) kr ?_
    refine Runs.alln ?_
    refine Wp.fg ⟨[(4, .t (.bool r2))], [], []⟩ ?_
    refine Wp.ret ?_
    obtain rfl := Option.some.inj h
    exact RetK [.t (.bool r2)] _ [] kr kr (.refl _) .nil
  have h := cond_f h hc
  refine Runs.known 7 (v := false) kr hc ?_
  refine Runs.alln ?_
  refine Wp.fg ⟨[(4, .t (.bool false))], [], []⟩ ?_
  refine Wp.ret ?_
  obtain rfl := Option.some.inj h
  exact RetK [.t (.bool false)] _ [] kr kr (.refl _) .nil
theorem impl_CeilDiv_ok (u : Nat) (p0 : Int) (p1 : Int) (r : Int) (h : impl_CeilDiv u p0 p1 = some r) : CallOK Tryd.prog 75 [.one (.t (.int .i64 p0)), .one (.t (.int .i64 p1))] (.one (.t (.int .i64 r))) [] := by
  unfold impl_CeilDiv at h
  refine CallOK.of_bodyK (fn := Tryd.f75) (m := false) [.t (.int .i64 p0), .t (.int .i64 p1)] kr rfl kr kr kr kr kr ?_
  refine Wp.srg [] [] ?_
  refine Runs.alln ?_
  refine Wp.fg ⟨[(0, .t (.int .i64 p0)), (1, .t (.int .i64 p1)), (4, .t (.int .i64 0))], [], []⟩ ?_
  refine Wp.seq ?_
  refine Wp.seqJ (α := Int × Int × Bool) (fun a => ⟨[(0, .t (.int .i64 a.1)), (1, .t (.int .i64 a.2.1)), (4, .t (.int .i64 0)), (12, .t (.bool a.2.2))], [], []⟩) (fun a => impl_CeilDiv_j1 u a.1 a.2.1 a.2.2 = some r) ?_ ?_
  · rintro ⟨p0, p1, x3⟩ h
    change impl_CeilDiv_j1 u p0 p1 x3 = some r at h
    unfold impl_CeilDiv_j1 at h
    refine Wp.cond2 (b := x3) kr (fun hc => ?_) (fun hc => ?_)
    · have h := cond_t h hc
      refine Wp.srg [] [] ?_
      refine Runs.alln ?_
      refine Wp.fg ⟨[(0, .t (.int .i64 p0)), (1, .t (.int .i64 p1)), (4, .t (.int .i64 0))], [], []⟩ ?_
      refine Wp.ret ?_
      refine thenR ?_
      obtain rfl := Option.some.inj h
      exact RetK [.t (.int .i64 0)] _ [] kr kr (.refl _) .nil
    have h := cond_f h hc
    refine Wp.skip (thenN ?_)
    refine Wp.srg [] [] ?_
    refine Runs.batch 5 kr ?_
    obtain ⟨_, e_4, h⟩ := bind_some h
    refine Runs.num .quo (.int .i64 (bSub .i64 (bAdd .i64 p0 p1) 1)) (.int .i64 p1) (.int .i64 (bQuo .i64 (bSub .i64 (bAdd .i64 p0 p1) 1) p1)) rfl kr kr kr kr (bin_quo _ _ _ _ (by simpa using chk_some e_4)) ?_
    refine Runs.alln ?_
    refine Wp.fg ⟨[(4, .t (.int .i64 (bQuo .i64 (bSub .i64 (bAdd .i64 p0 p1) 1) p1)))], [], []⟩ ?_
    refine Wp.ret ?_
    obtain rfl := Option.some.inj h
    exact RetK [.t (.int .i64 (bQuo .i64 (bSub .i64 (bAdd .i64 p0 p1) 1) p1))] _ [] kr kr (.refl _) .nil
  · refine Wp.rg [] [] ?_
    refine Runs.batch 1 kr ?_
    obtain ⟨r1, e_r1, h⟩ := bind_some h
    refine Runs.callK false 6 45 [] [.t (.int .i64 p0), .t (.int .i64 0), .t (.int .i64 1000000000000)] _ _ _ rfl rfl kr kr kr kr kr (impl_within_ok u p0 0 1000000000000 r1 e_r1) kr ?_
    refine Runs.batch 2 kr ?_
    rcases tf (!r1) with hc | hc
    · have h := cond_t h hc
      refine Runs.known 8 (v := true) kr hc ?_
      refine Runs.alln ?_
      exact ⟨(p0, p1, true), h, Le.of (mo := []) (mr := []) kr kr kr kr⟩
    have h := cond_f h hc
    refine Runs.known 8 (v := false) kr hc ?_
    refine Runs.batch 1 kr ?_
    obtain ⟨r2, e_r2, h⟩ := bind_some h
    refine Runs.callK false 10 45 [] [.t (.int .i64 p1), .t (.int .i64 1), .t (.int .i64 1000000000000)] _ _ _ rfl rfl kr kr kr kr kr (impl_within_ok u p1 1 1000000000000 r2 e_r2) kr ?_
    refine Runs.alln ?_
    exact ⟨(p0, p1, !r2), h, Le.of (mo := []) (mr := []) kr kr kr kr⟩
theorem impl_Blocks_ok (u : Nat) (p0 : Int) (p1 : Int) (r : Int) (h : impl_Blocks u p0 p1 = some r) : CallOK Tryd.prog 62 [.one (.t (.int .i64 p0)), .one (.t (.int .i64 p1))] (.one (.t (.int .i64 r))) [] := by
  unfold impl_Blocks at h
  refine CallOK.of_bodyK (fn := Tryd.f62) (m := false) [.t (.int .i64 p0), .t (.int .i64 p1)] kr rfl kr kr kr kr kr ?_
  refine Wp.srg [] [] ?_
  refine Runs.alln ?_
  refine Wp.fg ⟨[(0, .t (.int .i64 p0)), (1, .t (.int .i64 p1)), (4, .t (.int .i64 0))], [], []⟩ ?_
  refine Wp.seq ?_
  refine Wp.srg [] [] ?_
  refine Runs.batch 2 kr ?_
  obtain ⟨r1, e_r1, h⟩ := bind_some h
  refine Runs.callK false 7 67 [] [.t (.int .i64 p0), .t (.int .i64 p1)] _ _ _ rfl rfl kr kr kr kr kr (impl_SizeOk_ok u p0 p1 r1 e_r1) kr ?_
  refine Runs.alln ?_
  refine Wp.fg ⟨[(0, .t (.int .i64 p0)), (1, .t (.int .i64 p1)), (4, .t (.int .i64 0)), (8, .t (.bool (!r1)))], [], []⟩ ?_
  refine Wp.cond2 (b := !r1) kr (fun hc => ?_) (fun hc => ?_)
  · have h := cond_t h hc
    refine Wp.srg [] [] ?_
    refine Runs.alln ?_
    refine Wp.fg ⟨[(0, .t (.int .i64 p0)), (1, .t (.int .i64 p1)), (4, .t (.int .i64 0))], [], []⟩ ?_
    refine Wp.ret ?_
    refine thenR ?_
    obtain rfl := Option.some.inj h
    exact RetK [.t (.int .i64 0)] _ [] kr kr (.refl _) .nil
  have h := cond_f h hc
  refine Wp.skip (thenN ?_)
  refine Wp.srg [] [] ?_
  refine Runs.batch 2 kr ?_
  obtain ⟨r2, e_r2, h⟩ := bind_some h
  refine Runs.callK false 11 75 [] [.t (.int .i64 p1), .t (.int .i64 p0)] _ _ _ rfl rfl kr kr kr kr kr (impl_CeilDiv_ok u p1 p0 r2 e_r2) kr ?_
  refine Runs.alln ?_
  refine Wp.fg ⟨[(4, .t (.int .i64 r2))], [], []⟩ ?_
  refine Wp.ret ?_
  obtain rfl := Option.some.inj h
  exact RetK [.t (.int .i64 r2)] _ [] kr kr (.refl _) .nil
theorem impl_BytesOf_ok (u : Nat) (p0 : Int) (r : (List Int) × Bool) (h : impl_BytesOf u p0 = some r) : CallOK Tryd.prog 63 [.one (.t (.int .i64 p0))] (.tup [.one (.ow 5 1 (r.1.map (eInt .u8))), .one (.t (.bool r.2))]) [] := by
  unfold impl_BytesOf at h
  refine CallOK.of_bodyK (fn := Tryd.f63) (m := true) [.t (.int .i64 p0)] kr rfl kr kr kr kr kr ?_
  refine Wp.srg [] [] ?_
  refine Runs.alln ?_
  refine Wp.fg ⟨[(0, .t (.int .i64 p0)), (2, .nil), (3, .t (.bool false))], [], []⟩ ?_
  refine Wp.srg [] [] ?_
  refine Runs.alln ?_
  refine Wp.fg ⟨[(0, .t (.int .i64 p0)), (2, .nil), (3, .t (.bool false)), (4, .t (.int .i64 0))], [], []⟩ ?_
  refine Wp.seqJ (α := Int × Int) (fun a => ⟨[(0, .t (.int .i64 a.1)), (2, .nil), (3, .t (.bool false)), (4, .t (.int .i64 a.2))], [], []⟩) (fun a => impl_BytesOf_j1 u a.1 a.2 = some r) ?_ ?_
  · rintro ⟨p0, x5⟩ h
    change impl_BytesOf_j1 u p0 x5 = some r at h
    unfold impl_BytesOf_j1 at h
    refine Wp.seq ?_
    refine Wp.seqJ (α := Int × Int × Bool) (fun a => ⟨[(0, .t (.int .i64 a.1)), (2, .nil), (3, .t (.bool false)), (4, .t (.int .i64 a.2.1)), (26, .t (.bool a.2.2))], [], []⟩) (fun a => impl_BytesOf_j2 u a.1 a.2.1 a.2.2 = some r) ?_ ?_
    · rintro ⟨p0, x5, x6⟩ h
      change impl_BytesOf_j2 u p0 x5 x6 = some r at h
      unfold impl_BytesOf_j2 at h
      refine Wp.cond2 (b := x6) kr (fun hc => ?_) (fun hc => ?_)
      · have h := cond_t h hc
        refine Wp.srg [] [] ?_
        refine Runs.alln ?_
        refine Wp.fg ⟨[(0, .t (.int .i64 p0)), (2, .nil), (3, .t (.bool false)), (4, .t (.int .i64 x5))], [], []⟩ ?_
        refine Wp.ret ?_
        refine thenR ?_
        obtain rfl := Option.some.inj h
        exact RetK [.nil, .t (.bool false)] (.tup [.one (.nil), .one (.t (.bool false))]) [] kr kr (.tup (.cons (.one (.nilO _ _)) (.cons (.refl _) .nil))) .nil
      have h := cond_f h hc
      refine Wp.skip (thenN ?_)
      refine Wp.srg [] [] ?_
      refine Runs.batch 1 kr ?_
      obtain ⟨_, e_7, h⟩ := bind_some h
      obtain ⟨_, e_8, h⟩ := bind_some h
      refine Runs.mkS (eInt .u8) (0 : Int) 28 5 1 1 x5 x5 rfl rfl kr kr kr kr kr kr (chk_some e_7) (of_decide_eq_true (chk_some e_8)) kr ?_
      refine Runs.alln ?_
      refine Wp.fg ⟨[(0, .t (.int .i64 p0)), (2, .nil), (3, .t (.bool false)), (4, .t (.int .i64 x5)), (5, .own 1835008)], [], [(1835008, .live 5 1 ((List.replicate (Int.toNat x5) (0 : Int)).map (eInt .u8)))]⟩ ?_
      refine Wp.seqJ (α := (List Int)) (fun a => ⟨[(2, .nil), (3, .t (.bool false)), (5, .own 327681)], [], [(327681, .live 5 1 (a.map (eInt .u8)))]⟩) (fun a => impl_BytesOf_j3 u a = some r) ?_ ?_
      · rintro x17 h
        change impl_BytesOf_j3 u x17 = some r at h
        unfold impl_BytesOf_j3 at h
        refine Wp.srg [] [] ?_
        refine Runs.alln ?_
        refine Wp.fg ⟨[(2, .own 327681), (3, .t (.bool true))], [], [(327681, .live 5 1 (x17.map (eInt .u8)))]⟩ ?_
        refine Wp.ret ?_
        obtain rfl := Option.some.inj h
        exact RetK [.own 327681, .t (.bool true)] _ [] kr kr (.refl _) .nil
      · refine Wp.srg [] [] ?_
        refine Runs.batch 1 kr ?_
        refine Runs.lenT (y := .own 1835008) (e := 5) (eInt .u8) (List.replicate (Int.toNat x5) (0 : Int)) 1 rfl rfl rfl kr kr kr kr kr ?_
        refine Runs.alln ?_
        refine Wp.fg ⟨[(0, .t (.int .i64 p0)), (2, .nil), (3, .t (.bool false)), (4, .t (.int .i64 x5)), (5, .own 1835008), (30, .t (.int .i64 (((List.replicate (Int.toNat x5) (0 : Int)).length : Int)))), (31, .t (.int .i64 0))], [], [(1835008, .live 5 1 ((List.replicate (Int.toNat x5) (0 : Int)).map (eInt .u8)))]⟩ ?_
        refine Wp.block ?_
        refine Wp.loopF (α := Int × Int × (List Int) × Int) (fun a => ⟨[(0, .t (.int .i64 a.1)), (2, .nil), (3, .t (.bool false)), (4, .t (.int .i64 a.2.1)), (5, .own 327681), (30, .t (.int .i64 (((List.replicate (Int.toNat a.2.1) (0 : Int)).length : Int)))), (31, .t (.int .i64 a.2.2.2))], [], [(327681, .live 5 1 (a.2.2.1.map (eInt .u8)))]⟩) (fun k_impl_BytesOf_l4 a => impl_BytesOf_l4 u k_impl_BytesOf_l4 a.1 a.2.1 a.2.2.1 a.2.2.2 = some r) ?_ ?_ u (p0, x5, List.replicate (Int.toNat x5) (0 : Int), 0) h (Le.of (mo := []) (mr := [(327681, 1835008)]) kr kr kr kr)
        · intro a h; unfold impl_BytesOf_l4 at h; cases h
        · rintro k_impl_BytesOf_l4 ⟨p0, x5, x11, x12⟩ h
          change impl_BytesOf_l4 u (k_impl_BytesOf_l4 + 1) p0 x5 x11 x12 = some r at h
          rw [impl_BytesOf_l4] at h
          refine Wp.srg [] [] ?_
          refine Runs.alln ?_
          refine Wp.fg ⟨[(0, .t (.int .i64 p0)), (2, .nil), (3, .t (.bool false)), (4, .t (.int .i64 x5)), (5, .own 327681), (30, .t (.int .i64 (((List.replicate (Int.toNat x5) (0 : Int)).length : Int)))), (31, .t (.int .i64 x12)), (32, .t (.bool (decide (x12 < (((List.replicate (Int.toNat x5) (0 : Int)).length : Int))))))], [], [(327681, .live 5 1 (x11.map (eInt .u8)))]⟩ ?_
          refine Wp.seq ?_
          refine Wp.cond2 (b := decide (x12 < (((List.replicate (Int.toNat x5) (0 : Int)).length : Int)))) kr (fun hc => ?_) (fun hc => ?_)
          · have h := cond_t h hc
            refine Wp.skip (thenN ?_)
            refine Wp.seq ?_
            refine Wp.block ?_
            refine Wp.srg [] [] ?_
            refine Runs.alln ?_
            refine Wp.fg ⟨[(0, .t (.int .i64 p0)), (2, .nil), (3, .t (.bool false)), (4, .t (.int .i64 x5)), (5, .own 327681), (6, .t (.int .i64 x12)), (30, .t (.int .i64 (((List.replicate (Int.toNat x5) (0 : Int)).length : Int)))), (31, .t (.int .i64 x12))], [], [(327681, .live 5 1 (x11.map (eInt .u8)))]⟩ ?_
            refine Wp.rg [] [] ?_
            refine Runs.batch 8 kr ?_
            obtain ⟨_, e_15, h⟩ := bind_some h
            refine Runs.num .shr (.int .i64 p0) (.int .i64 (bMul .i64 8 (bSub .i64 (bSub .i64 x5 1) x12))) (.int .i64 (bShr .i64 p0 (bMul .i64 8 (bSub .i64 (bSub .i64 x5 1) x12)))) rfl kr kr kr kr (bin_shr _ _ _ _ _ (chk_some e_15)) ?_
            refine Runs.batch 1 kr ?_
            obtain ⟨y16, e_y16, h⟩ := bind_some h
            refine Runs.idxO (e := 5) (e' := 5) (kk := .i64) (sz := 1) (eInt .u8) x11 x12 327681 rfl kr kr kr kr kr kr kr e_y16 ?_
            refine Runs.storeT (e := 5) (sz := 1) (m := 1) (eInt .u8) x11 327681 (Int.toNat x12) 0 (IntKind.wrap .u8 (bShr .i64 p0 (bMul .i64 8 (bSub .i64 (bSub .i64 x5 1) x12)))) (.t (.int .u8 (IntKind.wrap .u8 (bShr .i64 p0 (bMul .i64 8 (bSub .i64 (bSub .i64 x5 1) x12)))))) [.int .u8 (IntKind.wrap .u8 (bShr .i64 p0 (bMul .i64 8 (bSub .i64 (bSub .i64 x5 1) x12))))] rfl kr kr kr kr kr kr kr kr (idx_some e_y16).2 kr kr ?_
            refine Runs.done ?_
            refine blkN ?_
            refine thenN ?_
            refine Wp.rg [] [] ?_
            refine Runs.alln ?_
            exact ⟨(p0, x5, x11.set (Int.toNat x12) (IntKind.wrap .u8 (bShr .i64 p0 (bMul .i64 8 (bSub .i64 (bSub .i64 x5 1) x12)))), bAdd .i64 x12 1), h, Le.of (mo := []) (mr := []) kr kr kr kr⟩
          have h := cond_f h hc
          refine Wp.exit ?_
          refine thenE ?_
          refine thenE ?_
          refine blkE ?_
          refine thenN ?_
          exact ⟨x11, h, Le.of (mo := []) (mr := []) kr kr kr kr⟩
    · refine Wp.rg [] [] ?_
      refine Runs.batch 3 kr ?_
      rcases tf (decide (p0 < 1)) with hc | hc
      · have h := cond_t h hc
        refine Runs.known 20 (v := true) kr hc ?_
        refine Runs.alln ?_
        exact ⟨(p0, x5, true), h, Le.of (mo := []) (mr := []) kr kr kr kr⟩
      have h := cond_f h hc
      refine Runs.known 20 (v := false) kr hc ?_
      refine Runs.batch 3 kr ?_
      obtain ⟨_, e_6, h⟩ := bind_some h
      refine Runs.num .shr (.int .i64 p0) (.int .i64 (bMul .i64 8 x5)) (.int .i64 (bShr .i64 p0 (bMul .i64 8 x5))) rfl kr kr kr kr (bin_shr _ _ _ _ _ (chk_some e_6)) ?_
      refine Runs.alln ?_
      exact ⟨(p0, x5, (bShr .i64 p0 (bMul .i64 8 x5)) != 1), h, Le.of (mo := []) (mr := []) kr kr kr kr⟩
  · refine Wp.block ?_
    refine Wp.loopF (α := Int × Int) (fun a => ⟨[(0, .t (.int .i64 a.1)), (2, .nil), (3, .t (.bool false)), (4, .t (.int .i64 a.2))], [], []⟩) (fun k_impl_BytesOf_l5 a => impl_BytesOf_l5 u k_impl_BytesOf_l5 a.1 a.2 = some r) ?_ ?_ u (p0, 0) h (Le.of (mo := []) (mr := []) kr kr kr kr)
    · intro a h; unfold impl_BytesOf_l5 at h; cases h
    · rintro k_impl_BytesOf_l5 ⟨p0, x2⟩ h
      change impl_BytesOf_l5 u (k_impl_BytesOf_l5 + 1) p0 x2 = some r at h
      rw [impl_BytesOf_l5] at h
      refine Wp.seq ?_
      refine Wp.seqJ (α := Int × Int × Bool) (fun a => ⟨[(0, .t (.int .i64 a.1)), (2, .nil), (3, .t (.bool false)), (4, .t (.int .i64 a.2.1)), (15, .t (.bool a.2.2))], [], []⟩) (fun a => impl_BytesOf_j6 u (fun z0 z1 => impl_BytesOf_l5 u k_impl_BytesOf_l5 z0 z1) a.1 a.2.1 a.2.2 = some r) ?_ ?_
      · rintro ⟨p0, x2, x4⟩ h
        change impl_BytesOf_j6 u (fun z0 z1 => impl_BytesOf_l5 u k_impl_BytesOf_l5 z0 z1) p0 x2 x4 = some r at h
        unfold impl_BytesOf_j6 at h
        refine Wp.cond2 (b := x4) kr (fun hc => ?_) (fun hc => ?_)
        · have h := cond_t h hc
          refine Wp.skip (thenN ?_)
          refine Wp.block ?_
          refine Wp.rg [] [] ?_
          refine Runs.all kr ?_
          refine blkN ?_
          refine thenN ?_
          exact ⟨(p0, bAdd .i64 x2 1), h, Le.of (mo := []) (mr := []) kr kr kr kr⟩
        have h := cond_f h hc
        refine Wp.exit ?_
        refine thenE ?_
        refine thenE ?_
        refine blkE ?_
        refine thenN ?_
        exact ⟨(p0, x2), h, Le.of (mo := []) (mr := []) kr kr kr kr⟩
      · refine Wp.rg [] [] ?_
        refine Runs.batch 3 kr ?_
        rcases tf (decide (x2 < 6)) with hc | hc
        · have h := cond_t h hc
          refine Runs.known 9 (v := true) kr hc ?_
          refine Runs.batch 3 kr ?_
          obtain ⟨_, e_4, h⟩ := bind_some h
          refine Runs.num .shr (.int .i64 p0) (.int .i64 (bMul .i64 8 x2)) (.int .i64 (bShr .i64 p0 (bMul .i64 8 x2))) rfl kr kr kr kr (bin_shr _ _ _ _ _ (chk_some e_4)) ?_
          refine Runs.alln ?_
          exact ⟨(p0, x2, decide ((bShr .i64 p0 (bMul .i64 8 x2)) > 1)), h, Le.of (mo := []) (mr := []) kr kr kr kr⟩
        have h := cond_f h hc
        refine Runs.known 9 (v := false) kr hc ?_
        refine Runs.alln ?_
        exact ⟨(p0, x2, false), h, Le.of (mo := []) (mr := []) kr kr kr kr⟩
theorem impl_Wrap_ok (u : Nat) (p0 : Int) (p1 : Int) (r : Int) (h : impl_Wrap u p0 p1 = some r) : CallOK Tryd.prog 76 [.one (.t (.int .i64 p0)), .one (.t (.int .i64 p1))] (.one (.t (.int .i64 r))) [] := by
  unfold impl_Wrap at h
  refine CallOK.of_bodyK (fn := Tryd.f76) (m := false) [.t (.int .i64 p0), .t (.int .i64 p1)] kr rfl kr kr kr kr kr ?_
  refine Wp.srg [] [] ?_
  refine Runs.alln ?_
  refine Wp.fg ⟨[(0, .t (.int .i64 p0)), (1, .t (.int .i64 p1)), (4, .t (.int .i64 0))], [], []⟩ ?_
  refine Wp.seq ?_
  refine Wp.srg [] [] ?_
  refine Runs.batch 1 kr ?_
  obtain ⟨r1, e_r1, h⟩ := bind_some h
  refine Runs.callK false 6 45 [] [.t (.int .i64 p1), .t (.int .i64 1), .t (.int .i64 1000000000000)] _ _ _ rfl rfl kr kr kr kr kr (impl_within_ok u p1 1 1000000000000 r1 e_r1) kr ?_
  refine Runs.alln ?_
  refine Wp.fg ⟨[(0, .t (.int .i64 p0)), (1, .t (.int .i64 p1)), (4, .t (.int .i64 0)), (7, .t (.bool (!r1)))], [], []⟩ ?_
  refine Wp.cond2 (b := !r1) kr (fun hc => ?_) (fun hc => ?_)
  · have h := cond_t h hc
    refine Wp.srg [] [] ?_
    refine Runs.alln ?_
    refine Wp.fg ⟨[(0, .t (.int .i64 p0)), (1, .t (.int .i64 p1)), (4, .t (.int .i64 0))], [], []⟩ ?_
    refine Wp.ret ?_
    refine thenR ?_
    obtain rfl := Option.some.inj h
    exact RetK [.t (.int .i64 0)] _ [] kr kr (.refl _) .nil
  have h := cond_f h hc
  refine Wp.skip (thenN ?_)
  refine Wp.srg [] [] ?_
  refine Runs.batch 2 kr ?_
  obtain ⟨_, e_2, h⟩ := bind_some h
  refine Runs.num .rem (.int .i64 p0) (.int .i64 p1) (.int .i64 (bRem .i64 p0 p1)) rfl kr kr kr kr (bin_rem _ _ _ _ (by simpa using chk_some e_2)) ?_
  refine Runs.batch 3 kr ?_
  obtain ⟨_, e_3, h⟩ := bind_some h
  refine Runs.num .rem (.int .i64 (bAdd .i64 (bRem .i64 p0 p1) p1)) (.int .i64 p1) (.int .i64 (bRem .i64 (bAdd .i64 (bRem .i64 p0 p1) p1) p1)) rfl kr kr kr kr (bin_rem _ _ _ _ (by simpa using chk_some e_3)) ?_
  refine Runs.alln ?_
  refine Wp.fg ⟨[(4, .t (.int .i64 (bRem .i64 (bAdd .i64 (bRem .i64 p0 p1) p1) p1)))], [], []⟩ ?_
  refine Wp.ret ?_
  obtain rfl := Option.some.inj h
  exact RetK [.t (.int .i64 (bRem .i64 (bAdd .i64 (bRem .i64 p0 p1) p1) p1))] _ [] kr kr (.refl _) .nil
theorem impl_weak_ok (u : Nat) (p0 : Int) (p1 : Int) (r : Int) (h : impl_weak u p0 p1 = some r) : CallOK Tryd.prog 71 [.one (.t (.int .i64 p0)), .one (.t (.int .i64 p1))] (.one (.t (.int .i64 r))) [] := by
  unfold impl_weak at h
  refine CallOK.of_bodyK (fn := Tryd.f71) (m := false) [.t (.int .i64 p0), .t (.int .i64 p1)] kr rfl kr kr kr kr kr ?_
  refine Wp.srg [] [] ?_
  refine Runs.alln ?_
  refine Wp.fg ⟨[(0, .t (.int .i64 p0)), (1, .t (.int .i64 p1)), (4, .t (.int .i64 0))], [], []⟩ ?_
  refine Wp.srg [] [] ?_
  refine Runs.batch 1 kr ?_
  obtain ⟨r1, e_r1, h⟩ := bind_some h
  refine Runs.callK false 6 76 [] [.t (.int .i64 p0), .t (.int .i64 251)] _ _ _ rfl rfl kr kr kr kr kr (impl_Wrap_ok u p0 251 r1 e_r1) kr ?_
  refine Runs.batch 1 kr ?_
  obtain ⟨r2, e_r2, h⟩ := bind_some h
  refine Runs.callK false 8 76 [] [.t (.int .i64 p1), .t (.int .i64 251)] _ _ _ rfl rfl kr kr kr kr kr (impl_Wrap_ok u p1 251 r2 e_r2) kr ?_
  refine Runs.alln ?_
  refine Wp.fg ⟨[(4, .t (.int .i64 (bAdd .i64 r1 (bMul .i64 251 r2))))], [], []⟩ ?_
  refine Wp.ret ?_
  obtain rfl := Option.some.inj h
  exact RetK [.t (.int .i64 (bAdd .i64 r1 (bMul .i64 251 r2)))] _ [] kr kr (.refl _) .nil
theorem impl_WeakOf_ok (u : Nat) (p0 : List Int) (r : Int) (h : impl_WeakOf u p0 = some r) : CallOK Tryd.prog 52 [.one (.t (.sl 1 (p0.map (eInt .u8))))] (.one (.t (.int .i64 r))) [] := by
  unfold impl_WeakOf at h
  refine CallOK.of_bodyK (fn := Tryd.f52) (m := false) [.t (.sl 1 (p0.map (eInt .u8)))] kr rfl kr kr kr kr kr ?_
  refine Wp.srg [] [] ?_
  refine Runs.alln ?_
  refine Wp.fg ⟨[(0, .t (.sl 1 (p0.map (eInt .u8)))), (2, .t (.int .i64 0))], [], []⟩ ?_
  refine Wp.srg [] [] ?_
  refine Runs.alln ?_
  refine Wp.fg ⟨[(0, .t (.sl 1 (p0.map (eInt .u8)))), (2, .t (.int .i64 0)), (3, .t (.int .i64 0)), (4, .t (.int .i64 0))], [], []⟩ ?_
  refine Wp.seqJ (α := Int × Int) (fun a => ⟨[(2, .t (.int .i64 0)), (3, .t (.int .i64 a.1)), (4, .t (.int .i64 a.2))], [], []⟩) (fun a => impl_WeakOf_j1 u a.1 a.2 = some r) ?_ ?_
  · rintro ⟨x11, x12⟩ h
    change impl_WeakOf_j1 u x11 x12 = some r at h
    unfold impl_WeakOf_j1 at h
    refine Wp.srg [] [] ?_
    refine Runs.batch 2 kr ?_
    obtain ⟨r13, e_r13, h⟩ := bind_some h
    refine Runs.callK false 25 71 [] [.t (.int .i64 x11), .t (.int .i64 x12)] _ _ _ rfl rfl kr kr kr kr kr (impl_weak_ok u x11 x12 r13 e_r13) kr ?_
    refine Runs.alln ?_
    refine Wp.fg ⟨[(2, .t (.int .i64 r13))], [], []⟩ ?_
    refine Wp.ret ?_
    obtain rfl := Option.some.inj h
    exact RetK [.t (.int .i64 r13)] _ [] kr kr (.refl _) .nil
  · refine Wp.srg [] [] ?_
    refine Runs.batch 1 kr ?_
    refine Runs.lenT (y := .t (.sl 1 (p0.map (eInt .u8)))) (e := 5) (eInt .u8) p0 1 rfl rfl rfl kr kr kr kr kr ?_
    refine Runs.alln ?_
    refine Wp.fg ⟨[(2, .t (.int .i64 0)), (3, .t (.int .i64 0)), (4, .t (.int .i64 0)), (7, .t (.sl 1 (p0.map (eInt .u8)))), (8, .t (.int .i64 ((p0.length : Int)))), (9, .t (.int .i64 0))], [], []⟩ ?_
    refine Wp.block ?_
    refine Wp.loopF (α := Int × Int × (List Int) × Int) (fun a => ⟨[(2, .t (.int .i64 0)), (3, .t (.int .i64 a.1)), (4, .t (.int .i64 a.2.1)), (7, .t (.sl 1 (a.2.2.1.map (eInt .u8)))), (8, .t (.int .i64 ((a.2.2.1.length : Int)))), (9, .t (.int .i64 a.2.2.2))], [], []⟩) (fun k_impl_WeakOf_l2 a => impl_WeakOf_l2 u k_impl_WeakOf_l2 a.1 a.2.1 a.2.2.1 a.2.2.2 = some r) ?_ ?_ u (0, 0, p0, 0) h (Le.of (mo := []) (mr := []) kr kr kr kr)
    · intro a h; unfold impl_WeakOf_l2 at h; cases h
    · rintro k_impl_WeakOf_l2 ⟨x4, x5, p0, x6⟩ h
      change impl_WeakOf_l2 u (k_impl_WeakOf_l2 + 1) x4 x5 p0 x6 = some r at h
      rw [impl_WeakOf_l2] at h
      refine Wp.srg [] [] ?_
      refine Runs.alln ?_
      refine Wp.fg ⟨[(2, .t (.int .i64 0)), (3, .t (.int .i64 x4)), (4, .t (.int .i64 x5)), (7, .t (.sl 1 (p0.map (eInt .u8)))), (8, .t (.int .i64 ((p0.length : Int)))), (9, .t (.int .i64 x6)), (10, .t (.bool (decide (x6 < ((p0.length : Int))))))], [], []⟩ ?_
      refine Wp.seq ?_
      refine Wp.cond2 (b := decide (x6 < ((p0.length : Int)))) kr (fun hc => ?_) (fun hc => ?_)
      · have h := cond_t h hc
        refine Wp.skip (thenN ?_)
        refine Wp.seq ?_
        refine Wp.block ?_
        refine Wp.srg [] [] ?_
        obtain ⟨y10, e_y10, h⟩ := bind_some h
        refine Runs.idxT (e := 5) (kk := .i64) (sz := 1) (eInt .u8) p0 x6 rfl kr kr kr kr kr kr e_y10 ?_
        refine Runs.alln ?_
        refine Wp.fg ⟨[(2, .t (.int .i64 0)), (3, .t (.int .i64 x4)), (4, .t (.int .i64 x5)), (6, .t (.int .u8 y10)), (7, .t (.sl 1 (p0.map (eInt .u8)))), (8, .t (.int .i64 ((p0.length : Int)))), (9, .t (.int .i64 x6))], [], []⟩ ?_
        refine Wp.srg [] [] ?_
        refine Runs.alln ?_
        refine Wp.fg ⟨[(2, .t (.int .i64 0)), (3, .t (.int .i64 (bRem .i64 (bAdd .i64 x4 (IntKind.wrap .i64 y10)) 251))), (4, .t (.int .i64 x5)), (7, .t (.sl 1 (p0.map (eInt .u8)))), (8, .t (.int .i64 ((p0.length : Int)))), (9, .t (.int .i64 x6))], [], []⟩ ?_
        refine Wp.rg [] [] ?_
        refine Runs.all kr ?_
        refine blkN ?_
        refine thenN ?_
        refine Wp.rg [] [] ?_
        refine Runs.alln ?_
        exact ⟨(bRem .i64 (bAdd .i64 x4 (IntKind.wrap .i64 y10)) 251, bRem .i64 (bAdd .i64 x5 (bRem .i64 (bAdd .i64 x4 (IntKind.wrap .i64 y10)) 251)) 251, p0, bAdd .i64 x6 1), h, Le.of (mo := []) (mr := []) kr kr kr kr⟩
      have h := cond_f h hc
      refine Wp.exit ?_
      refine thenE ?_
      refine thenE ?_
      refine blkE ?_
      refine thenN ?_
      exact ⟨(x4, x5), h, Le.of (mo := []) (mr := []) kr kr kr kr⟩
theorem impl_SumOf_ok (u : Nat) (p0 : List Int) (r : Sum) (h : impl_SumOf u p0 = some r) : CallOK Tryd.prog 64 [.one (.t (.sl 1 (p0.map (eInt .u8))))] (.agg [.t (.int .i64 r.fW), .t (.int .i64 r.fS)]) [] := by
  unfold impl_SumOf at h
  refine CallOK.of_bodyK (fn := Tryd.f64) (m := false) [.t (.sl 1 (p0.map (eInt .u8)))] kr rfl kr kr kr kr kr ?_
  refine Wp.srg [] [] ?_
  refine Runs.alln ?_
  refine Wp.fg ⟨[(0, .t (.sl 1 (p0.map (eInt .u8)))), (2, .obj 2 0)], [(2, [.t (.int .i64 0), .t (.int .i64 0)])], []⟩ ?_
  refine Wp.seq ?_
  refine Wp.srg [] [] ?_
  refine Runs.batch 1 kr ?_
  refine Runs.lenT (y := .t (.sl 1 (p0.map (eInt .u8)))) (e := 5) (eInt .u8) p0 1 rfl rfl rfl kr kr kr kr kr ?_
  refine Runs.alln ?_
  refine Wp.fg ⟨[(0, .t (.sl 1 (p0.map (eInt .u8)))), (2, .obj 2 0), (8, .t (.bool (decide (((p0.length : Int)) > 6))))], [(2, [.t (.int .i64 0), .t (.int .i64 0)])], []⟩ ?_
  refine Wp.cond2 (b := decide (((p0.length : Int)) > 6)) kr (fun hc => ?_) (fun hc => ?_)
  · have h := cond_t h hc
    refine Wp.srg [] [] ?_
    refine Runs.alln ?_
    refine Wp.fg ⟨[(0, .t (.sl 1 (p0.map (eInt .u8)))), (2, .obj 2 0)], [(2, [.t (.int .i64 0), .t (.int .i64 0)])], []⟩ ?_
    refine Wp.ret ?_
    refine thenR ?_
    obtain rfl := Option.some.inj h
    exact RetK [.agg [.t (.int .i64 0), .t (.int .i64 0)]] _ [] kr kr (.refl _) .nil
  have h := cond_f h hc
  refine Wp.skip (thenN ?_)
  refine Wp.srg [] [] ?_
  refine Runs.alln ?_
  refine Wp.fg ⟨[(0, .t (.sl 1 (p0.map (eInt .u8)))), (2, .obj 2 0), (3, .t (.int .i64 1))], [(2, [.t (.int .i64 0), .t (.int .i64 0)])], []⟩ ?_
  refine Wp.seqJ (α := (List Int) × Int) (fun a => ⟨[(0, .t (.sl 1 (a.1.map (eInt .u8)))), (2, .obj 2 0), (3, .t (.int .i64 a.2))], [(2, [.t (.int .i64 0), .t (.int .i64 0)])], []⟩) (fun a => impl_SumOf_j1 u a.1 a.2 = some r) ?_ ?_
  · rintro ⟨p0, x8⟩ h
    change impl_SumOf_j1 u p0 x8 = some r at h
    unfold impl_SumOf_j1 at h
    refine Wp.srg [] [] ?_
    refine Runs.batch 1 kr ?_
    obtain ⟨r9, e_r9, h⟩ := bind_some h
    refine Runs.callK false 23 52 [] [.t (.sl 1 (p0.map (eInt .u8)))] _ _ _ rfl rfl kr kr kr kr kr (impl_WeakOf_ok u p0 r9 e_r9) kr ?_
    refine Runs.alln ?_
    refine Wp.fg ⟨[(2, .obj 2 0)], [(2, [.t (.int .i64 r9), .t (.int .i64 x8)])], []⟩ ?_
    refine Wp.ret ?_
    obtain rfl := Option.some.inj h
    exact RetK [.agg [.t (.int .i64 r9), .t (.int .i64 x8)]] _ [] kr kr (.refl _) .nil
  · refine Wp.srg [] [] ?_
    refine Runs.batch 1 kr ?_
    refine Runs.lenT (y := .t (.sl 1 (p0.map (eInt .u8)))) (e := 5) (eInt .u8) p0 1 rfl rfl rfl kr kr kr kr kr ?_
    refine Runs.alln ?_
    refine Wp.fg ⟨[(0, .t (.sl 1 (p0.map (eInt .u8)))), (2, .obj 2 0), (3, .t (.int .i64 1)), (10, .t (.sl 1 (p0.map (eInt .u8)))), (11, .t (.int .i64 ((p0.length : Int)))), (12, .t (.int .i64 0))], [(2, [.t (.int .i64 0), .t (.int .i64 0)])], []⟩ ?_
    refine Wp.block ?_
    refine Wp.loopF (α := (List Int) × Int × Int) (fun a => ⟨[(0, .t (.sl 1 (a.1.map (eInt .u8)))), (2, .obj 2 0), (3, .t (.int .i64 a.2.1)), (10, .t (.sl 1 (a.1.map (eInt .u8)))), (11, .t (.int .i64 ((a.1.length : Int)))), (12, .t (.int .i64 a.2.2))], [(2, [.t (.int .i64 0), .t (.int .i64 0)])], []⟩) (fun k_impl_SumOf_l2 a => impl_SumOf_l2 u k_impl_SumOf_l2 a.1 a.2.1 a.2.2 = some r) ?_ ?_ u (p0, 1, 0) h (Le.of (mo := []) (mr := []) kr kr kr kr)
    · intro a h; unfold impl_SumOf_l2 at h; cases h
    · rintro k_impl_SumOf_l2 ⟨p0, x3, x4⟩ h
      change impl_SumOf_l2 u (k_impl_SumOf_l2 + 1) p0 x3 x4 = some r at h
      rw [impl_SumOf_l2] at h
      refine Wp.srg [] [] ?_
      refine Runs.alln ?_
      refine Wp.fg ⟨[(0, .t (.sl 1 (p0.map (eInt .u8)))), (2, .obj 2 0), (3, .t (.int .i64 x3)), (10, .t (.sl 1 (p0.map (eInt .u8)))), (11, .t (.int .i64 ((p0.length : Int)))), (12, .t (.int .i64 x4)), (13, .t (.bool (decide (x4 < ((p0.length : Int))))))], [(2, [.t (.int .i64 0), .t (.int .i64 0)])], []⟩ ?_
      refine Wp.seq ?_
      refine Wp.cond2 (b := decide (x4 < ((p0.length : Int)))) kr (fun hc => ?_) (fun hc => ?_)
      · have h := cond_t h hc
        refine Wp.skip (thenN ?_)
        refine Wp.seq ?_
        refine Wp.block ?_
        refine Wp.srg [] [] ?_
        obtain ⟨y7, e_y7, h⟩ := bind_some h
        refine Runs.idxT (e := 5) (kk := .i64) (sz := 1) (eInt .u8) p0 x4 rfl kr kr kr kr kr kr e_y7 ?_
        refine Runs.alln ?_
        refine Wp.fg ⟨[(0, .t (.sl 1 (p0.map (eInt .u8)))), (2, .obj 2 0), (3, .t (.int .i64 x3)), (5, .t (.int .u8 y7)), (10, .t (.sl 1 (p0.map (eInt .u8)))), (11, .t (.int .i64 ((p0.length : Int)))), (12, .t (.int .i64 x4))], [(2, [.t (.int .i64 0), .t (.int .i64 0)])], []⟩ ?_
        refine Wp.rg [] [] ?_
        refine Runs.all kr ?_
        refine blkN ?_
        refine thenN ?_
        refine Wp.rg [] [] ?_
        refine Runs.alln ?_
        exact ⟨(p0, bOr .i64 (bShl .i64 x3 8) (IntKind.wrap .i64 y7), bAdd .i64 x4 1), h, Le.of (mo := []) (mr := []) kr kr kr kr⟩
      have h := cond_f h hc
      refine Wp.exit ?_
      refine thenE ?_
      refine thenE ?_
      refine blkE ?_
      refine thenN ?_
      exact ⟨(p0, x3), h, Le.of (mo := []) (mr := []) kr kr kr kr⟩
theorem impl_isZeroMan_ok (u : Nat) (p0 : Manifest) (r : Bool) (h : impl_isZeroMan u p0 = some r) : CallOK Tryd.prog 66 [.agg [.t (.int .i64 p0.fGen), .t (.int .i64 p0.fSize), .t (.int .i64 p0.fLen), .t (.sl 2 (p0.fSums.map Sum.enc))]] (.one (.t (.bool r))) [] := by
  unfold impl_isZeroMan at h
  refine CallOK.of_bodyK (fn := Tryd.f66) (m := false) [.agg ((Manifest.enc p0).map .t)] kr rfl kr kr kr kr kr ?_
  refine Wp.srg [] [] ?_
  refine Runs.alln ?_
  refine Wp.fg ⟨[(1, .obj 1 0), (2, .t (.bool false))], [(1, ((Manifest.enc p0).map .t))], []⟩ ?_
  refine Wp.srg [] [] ?_
  refine Runs.batch 4 kr ?_
  rcases tf (p0.fGen == 0) with hc | hc
  · have h := cond_t h hc
    refine Runs.known 6 (v := true) kr hc ?_
    refine Runs.batch 5 kr ?_
    rcases tf (p0.fSize == 0) with hc | hc
    · have h := cond_t h hc
      refine Runs.known 11 (v := true) kr hc ?_
      refine Runs.batch 5 kr ?_
      rcases tf (p0.fLen == 0) with hc | hc
      · have h := cond_t h hc
        refine Runs.known 16 (v := true) kr hc ?_
        refine Runs.batch 2 kr ?_
        refine Runs.lenT (y := .t (.sl 2 (p0.fSums.map Sum.enc))) (e := 76) Sum.enc p0.fSums 2 rfl rfl rfl kr kr kr kr kr ?_
        refine Runs.alln ?_
        refine Wp.fg ⟨[(2, .t (.bool (((p0.fSums.length : Int)) == 0)))], [], []⟩ ?_
        refine Wp.ret ?_
        obtain rfl := Option.some.inj h
        exact RetK [.t (.bool (((p0.fSums.length : Int)) == 0))] _ [] kr kr (.refl _) .nil
      have h := cond_f h hc
      refine Runs.known 16 (v := false) kr hc ?_
      refine Runs.alln ?_
      refine Wp.fg ⟨[(2, .t (.bool false))], [], []⟩ ?_
      refine Wp.ret ?_
      obtain rfl := Option.some.inj h
      exact RetK [.t (.bool false)] _ [] kr kr (.refl _) .nil
    have h := cond_f h hc
    refine Runs.known 11 (v := false) kr hc ?_
    refine Runs.alln ?_
    refine Wp.fg ⟨[(2, .t (.bool false))], [], []⟩ ?_
    refine Wp.ret ?_
    obtain rfl := Option.some.inj h
    exact RetK [.t (.bool false)] _ [] kr kr (.refl _) .nil
  have h := cond_f h hc
  refine Runs.known 6 (v := false) kr hc ?_
  refine Runs.alln ?_
  refine Wp.fg ⟨[(2, .t (.bool false))], [], []⟩ ?_
  refine Wp.ret ?_
  obtain rfl := Option.some.inj h
  exact RetK [.t (.bool false)] _ [] kr kr (.refl _) .nil
theorem impl_SpanOf_ok (u : Nat) (p0 : Int) (p1 : Int) (p2 : Int) (r : Int × Int) (h : impl_SpanOf u p0 p1 p2 = some r) : CallOK Tryd.prog 68 [.one (.t (.int .i64 p0)), .one (.t (.int .i64 p1)), .one (.t (.int .i64 p2))] (.tup [.one (.t (.int .i64 r.1)), .one (.t (.int .i64 r.2))]) [] := by
  unfold impl_SpanOf at h
  refine CallOK.of_bodyK (fn := Tryd.f68) (m := false) [.t (.int .i64 p0), .t (.int .i64 p1), .t (.int .i64 p2)] kr rfl kr kr kr kr kr ?_
  refine Wp.srg [] [] ?_
  refine Runs.alln ?_
  refine Wp.fg ⟨[(0, .t (.int .i64 p0)), (1, .t (.int .i64 p1)), (2, .t (.int .i64 p2)), (6, .t (.int .i64 0)), (7, .t (.int .i64 0))], [], []⟩ ?_
  refine Wp.seq ?_
  refine Wp.srg [] [] ?_
  refine Runs.batch 3 kr ?_
  obtain ⟨r1, e_r1, h⟩ := bind_some h
  refine Runs.callK false 11 62 [] [.t (.int .i64 p0), .t (.int .i64 p1)] _ _ _ rfl rfl kr kr kr kr kr (impl_Blocks_ok u p0 p1 r1 e_r1) kr ?_
  refine Runs.batch 1 kr ?_
  obtain ⟨r2, e_r2, h⟩ := bind_some h
  refine Runs.callK false 13 45 [] [.t (.int .i64 p2), .t (.int .i64 0), .t (.int .i64 (bSub .i64 r1 1))] _ _ _ rfl rfl kr kr kr kr kr (impl_within_ok u p2 0 (bSub .i64 r1 1) r2 e_r2) kr ?_
  refine Runs.alln ?_
  refine Wp.fg ⟨[(0, .t (.int .i64 p0)), (1, .t (.int .i64 p1)), (2, .t (.int .i64 p2)), (6, .t (.int .i64 0)), (7, .t (.int .i64 0)), (14, .t (.bool (!r2)))], [], []⟩ ?_
  refine Wp.cond2 (b := !r2) kr (fun hc => ?_) (fun hc => ?_)
  · have h := cond_t h hc
    refine Wp.srg [] [] ?_
    refine Runs.alln ?_
    refine Wp.fg ⟨[(0, .t (.int .i64 p0)), (1, .t (.int .i64 p1)), (2, .t (.int .i64 p2)), (6, .t (.int .i64 0)), (7, .t (.int .i64 0))], [], []⟩ ?_
    refine Wp.ret ?_
    refine thenR ?_
    obtain rfl := Option.some.inj h
    exact RetK [.t (.int .i64 0), .t (.int .i64 0)] _ [] kr kr (.refl _) .nil
  have h := cond_f h hc
  refine Wp.skip (thenN ?_)
  refine Wp.srg [] [] ?_
  refine Runs.alln ?_
  refine Wp.fg ⟨[(6, .t (.int .i64 (bMul .i64 p2 p0))), (7, .t (.int .i64 (if (bSub .i64 p1 (bMul .i64 p2 p0)) < p0 then (bSub .i64 p1 (bMul .i64 p2 p0)) else p0)))], [], []⟩ ?_
  refine Wp.ret ?_
  obtain rfl := Option.some.inj h
  exact RetK [.t (.int .i64 (bMul .i64 p2 p0)), .t (.int .i64 (if (bSub .i64 p1 (bMul .i64 p2 p0)) < p0 then (bSub .i64 p1 (bMul .i64 p2 p0)) else p0))] _ [] kr kr (.refl _) .nil
theorem impl_ManOk_ok (u : Nat) (p0 : Manifest) (r : Bool) (h : impl_ManOk u p0 = some r) : CallOK Tryd.prog 41 [.agg [.t (.int .i64 p0.fGen), .t (.int .i64 p0.fSize), .t (.int .i64 p0.fLen), .t (.sl 2 (p0.fSums.map Sum.enc))]] (.one (.t (.bool r))) [] := by
  unfold impl_ManOk at h
  refine CallOK.of_bodyK (fn := Tryd.f41) (m := false) [.agg ((Manifest.enc p0).map .t)] kr rfl kr kr kr kr kr ?_
  refine Wp.srg [] [] ?_
  refine Runs.alln ?_
  refine Wp.fg ⟨[(1, .obj 1 0), (2, .t (.bool false))], [(1, ((Manifest.enc p0).map .t))], []⟩ ?_
  refine Wp.seq ?_
  refine Wp.srg [] [] ?_
  refine Runs.batch 1 kr ?_
  obtain ⟨r1, e_r1, h⟩ := bind_some h
  refine Runs.callK false 10 66 [] [.agg ((Manifest.enc p0).map .t)] _ _ _ rfl rfl kr kr kr kr kr (impl_isZeroMan_ok u p0 r1 e_r1) kr ?_
  refine Runs.done ?_
  refine thenN ?_
  refine Wp.fg ⟨[(1, .obj 1 0), (2, .t (.bool false)), (10, .t (.bool r1))], [(1, ((Manifest.enc p0).map .t))], []⟩ ?_
  refine Wp.cond2 (b := r1) kr (fun hc => ?_) (fun hc => ?_)
  · have h := cond_t h hc
    refine Wp.srg [] [] ?_
    refine Runs.alln ?_
    refine Wp.fg ⟨[(1, .obj 1 0), (2, .t (.bool true))], [(1, ((Manifest.enc p0).map .t))], []⟩ ?_
    refine Wp.ret ?_
    refine thenR ?_
    obtain rfl := Option.some.inj h
    exact RetK [.t (.bool true)] _ [] kr kr (.refl _) .nil
  have h := cond_f h hc
  refine Wp.skip (thenN ?_)
  refine Wp.seq ?_
  refine Wp.seqJ (α := Bool × Manifest) (fun a => ⟨[(1, .obj 1 0), (2, .t (.bool false)), (33, .t (.bool a.1))], [(1, ((Manifest.enc a.2).map .t))], []⟩) (fun a => impl_ManOk_j1 u a.1 a.2 = some r) ?_ ?_
  · rintro ⟨x5, p0⟩ h
    change impl_ManOk_j1 u x5 p0 = some r at h
    unfold impl_ManOk_j1 at h
    refine Wp.cond2 (b := x5) kr (fun hc => ?_) (fun hc => ?_)
    · have h := cond_t h hc
      refine Wp.srg [] [] ?_
      refine Runs.alln ?_
      refine Wp.fg ⟨[(1, .obj 1 0), (2, .t (.bool false))], [(1, ((Manifest.enc p0).map .t))], []⟩ ?_
      refine Wp.ret ?_
      refine thenR ?_
      obtain rfl := Option.some.inj h
      exact RetK [.t (.bool false)] _ [] kr kr (.refl _) .nil
    have h := cond_f h hc
    refine Wp.skip (thenN ?_)
    refine Wp.seqJ (α := Unit) (fun a => ⟨[(2, .t (.bool false))], [], []⟩) (fun a => impl_ManOk_j2 u = some r) ?_ ?_
    · rintro ⟨⟩ h
      change impl_ManOk_j2 u = some r at h
      unfold impl_ManOk_j2 at h
      refine Wp.srg [] [] ?_
      refine Runs.alln ?_
      refine Wp.fg ⟨[(2, .t (.bool true))], [], []⟩ ?_
      refine Wp.ret ?_
      obtain rfl := Option.some.inj h
      exact RetK [.t (.bool true)] _ [] kr kr (.refl _) .nil
    · refine Wp.srg [] [] ?_
      refine Runs.batch 2 kr ?_
      refine Runs.lenT (y := .t (.sl 2 (p0.fSums.map Sum.enc))) (e := 76) Sum.enc p0.fSums 2 rfl rfl rfl kr kr kr kr kr ?_
      refine Runs.alln ?_
      refine Wp.fg ⟨[(1, .obj 1 0), (2, .t (.bool false)), (35, .t (.sl 2 (p0.fSums.map Sum.enc))), (36, .t (.int .i64 ((p0.fSums.length : Int)))), (37, .t (.int .i64 0))], [(1, ((Manifest.enc p0).map .t))], []⟩ ?_
      refine Wp.block ?_
      refine Wp.loopF (α := Manifest × Int) (fun a => ⟨[(1, .obj 1 0), (2, .t (.bool false)), (35, .t (.sl 2 (a.1.fSums.map Sum.enc))), (36, .t (.int .i64 ((a.1.fSums.length : Int)))), (37, .t (.int .i64 a.2))], [(1, ((Manifest.enc a.1).map .t))], []⟩) (fun k_impl_ManOk_l3 a => impl_ManOk_l3 u k_impl_ManOk_l3 a.1 a.2 = some r) ?_ ?_ u (p0, 0) h (Le.of (mo := []) (mr := []) kr kr kr kr)
      · intro a h; unfold impl_ManOk_l3 at h; cases h
      · rintro k_impl_ManOk_l3 ⟨p0, x7⟩ h
        change impl_ManOk_l3 u (k_impl_ManOk_l3 + 1) p0 x7 = some r at h
        rw [impl_ManOk_l3] at h
        refine Wp.srg [] [] ?_
        refine Runs.alln ?_
        refine Wp.fg ⟨[(1, .obj 1 0), (2, .t (.bool false)), (35, .t (.sl 2 (p0.fSums.map Sum.enc))), (36, .t (.int .i64 ((p0.fSums.length : Int)))), (37, .t (.int .i64 x7)), (38, .t (.bool (decide (x7 < ((p0.fSums.length : Int))))))], [(1, ((Manifest.enc p0).map .t))], []⟩ ?_
        refine Wp.seq ?_
        refine Wp.cond2 (b := decide (x7 < ((p0.fSums.length : Int)))) kr (fun hc => ?_) (fun hc => ?_)
        · have h := cond_t h hc
          refine Wp.skip (thenN ?_)
          refine Wp.seq ?_
          refine Wp.block ?_
          refine Wp.srg [] [] ?_
          refine Runs.batch 1 kr ?_
          obtain ⟨y9, e_y9, h⟩ := bind_some h
          refine Runs.idxT (e := 76) (kk := .i64) (sz := 2) Sum.enc p0.fSums x7 rfl kr kr kr kr kr kr e_y9 ?_
          refine Runs.alln ?_
          refine Wp.fg ⟨[(1, .obj 1 0), (2, .t (.bool false)), (3, .t (.int .i64 x7)), (4, .obj 4 0), (35, .t (.sl 2 (p0.fSums.map Sum.enc))), (36, .t (.int .i64 ((p0.fSums.length : Int)))), (37, .t (.int .i64 x7))], [(1, ((Manifest.enc p0).map .t)), (4, [.t (.int .i64 y9.fW), .t (.int .i64 y9.fS)])], []⟩ ?_
          refine Wp.srg [] [] ?_
          refine Runs.batch 2 kr ?_
          obtain ⟨r10, e_r10, h⟩ := bind_some h
          refine Runs.callK false 45 63 [] [.t (.int .i64 y9.fS)] _ _ _ rfl rfl kr kr kr kr kr (impl_BytesOf_ok u y9.fS r10 e_r10) kr ?_
          refine Runs.alln ?_
          refine Wp.fg ⟨[(1, .obj 1 0), (2, .t (.bool false)), (3, .t (.int .i64 x7)), (4, .obj 4 0), (5, .own 2949120), (6, .t (.bool r10.2)), (35, .t (.sl 2 (p0.fSums.map Sum.enc))), (36, .t (.int .i64 ((p0.fSums.length : Int)))), (37, .t (.int .i64 x7))], [(1, ((Manifest.enc p0).map .t)), (4, [.t (.int .i64 y9.fW), .t (.int .i64 y9.fS)])], [(2949120, .live 5 1 (r10.1.map (eInt .u8)))]⟩ ?_
          refine Wp.srg [] [] ?_
          refine Runs.batch 5 kr ?_
          obtain ⟨r11, e_r11, h⟩ := bind_some h
          refine Runs.callK false 54 68 [] [.t (.int .i64 p0.fSize), .t (.int .i64 p0.fLen), .t (.int .i64 x7)] _ _ _ rfl rfl kr kr kr kr kr (impl_SpanOf_ok u p0.fSize p0.fLen x7 r11 e_r11) kr ?_
          refine Runs.alln ?_
          refine Wp.fg ⟨[(1, .obj 1 0), (2, .t (.bool false)), (4, .obj 4 0), (5, .own 2949120), (6, .t (.bool r10.2)), (8, .t (.int .i64 r11.2)), (35, .t (.sl 2 (p0.fSums.map Sum.enc))), (36, .t (.int .i64 ((p0.fSums.length : Int)))), (37, .t (.int .i64 x7))], [(1, ((Manifest.enc p0).map .t)), (4, [.t (.int .i64 y9.fW), .t (.int .i64 y9.fS)])], [(2949120, .live 5 1 (r10.1.map (eInt .u8)))]⟩ ?_
          refine Wp.seqJ (α := Manifest × Int × Bool) (fun a => ⟨[(1, .obj 1 0), (2, .t (.bool false)), (35, .t (.sl 2 (a.1.fSums.map Sum.enc))), (36, .t (.int .i64 ((a.1.fSums.length : Int)))), (37, .t (.int .i64 a.2.1)), (71, .t (.bool a.2.2))], [(1, ((Manifest.enc a.1).map .t))], []⟩) (fun a => impl_ManOk_j4 u (fun z0 z1 => impl_ManOk_l3 u k_impl_ManOk_l3 z0 z1) a.1 a.2.1 a.2.2 = some r) ?_ ?_
          · rintro ⟨p0, x7, x13⟩ h
            change impl_ManOk_j4 u (fun z0 z1 => impl_ManOk_l3 u k_impl_ManOk_l3 z0 z1) p0 x7 x13 = some r at h
            unfold impl_ManOk_j4 at h
            refine Wp.cond2 (b := x13) kr (fun hc => ?_) (fun hc => ?_)
            · have h := cond_t h hc
              refine Wp.srg [] [] ?_
              refine Runs.alln ?_
              refine Wp.fg ⟨[(1, .obj 1 0), (2, .t (.bool false)), (35, .t (.sl 2 (p0.fSums.map Sum.enc))), (36, .t (.int .i64 ((p0.fSums.length : Int)))), (37, .t (.int .i64 x7))], [(1, ((Manifest.enc p0).map .t))], []⟩ ?_
              refine Wp.ret ?_
              refine blkR ?_
              refine thenR ?_
              refine thenR ?_
              refine blkR ?_
              refine thenR ?_
              obtain rfl := Option.some.inj h
              exact RetK [.t (.bool false)] _ [] kr kr (.refl _) .nil
            have h := cond_f h hc
            refine Wp.skip ?_
            refine blkN ?_
            refine thenN ?_
            refine Wp.rg [] [] ?_
            refine Runs.alln ?_
            exact ⟨(p0, bAdd .i64 x7 1), h, Le.of (mo := []) (mr := []) kr kr kr kr⟩
          · refine Wp.regionA (pOf []) (rhoOf [(4, .obj 4), (5, .own 45), (6, .frz), (8, .frz), (57, .frz), (58, .frz), (59, .frz), (60, .own 45), (61, .frz), (62, .frz), (64, .frz), (65, .frz), (66, .own 45), (67, .frz), (68, .obj 4), (69, .frz)]) kr kr ?_
            refine Runs.batch 3 kr ?_
            rcases tf (!r10.2) with hc | hc
            · have h := cond_t h hc
              refine Runs.known 59 (v := true) kr hc ?_
              refine Runs.alln ?_
              exact ⟨(p0, x7, true), h, Le.of (mo := []) (mr := []) kr kr kr kr⟩
            have h := cond_f h hc
            refine Runs.known 59 (v := false) kr hc ?_
            refine Runs.batch 1 kr ?_
            refine Runs.lenT (y := .own 2949120) (e := 5) (eInt .u8) r10.1 1 rfl rfl rfl kr kr kr kr kr ?_
            refine Runs.batch 4 kr ?_
            rcases tf (((r10.1.length : Int)) != r11.2) with hc | hc
            · have h := cond_t h hc
              refine Runs.known 65 (v := true) kr hc ?_
              refine Runs.alln ?_
              exact ⟨(p0, x7, true), h, Le.of (mo := []) (mr := []) kr kr kr kr⟩
            have h := cond_f h hc
            refine Runs.known 65 (v := false) kr hc ?_
            refine Runs.batch 1 kr ?_
            obtain ⟨r12, e_r12, h⟩ := bind_some h
            refine Runs.callBK 67 52 [] [.own 2949120] [.one (.t (.sl 1 (r10.1.map (eInt .u8))))] (.one (.t (.int .i64 r12))) rfl rfl kr kr kr kr kr (impl_WeakOf_ok u r10.1 r12 e_r12) (by simp [V.plain, V.plains, C.plain, T.sc]) kr ?_
            refine Runs.alln ?_
            exact ⟨(p0, x7, r12 != y9.fW), h, Le.of (mo := []) (mr := []) kr kr kr kr⟩
        have h := cond_f h hc
        refine Wp.exit ?_
        refine thenE ?_
        refine thenE ?_
        refine blkE ?_
        refine thenN ?_
        exact ⟨(), h, Le.of (mo := []) (mr := []) kr kr kr kr⟩
  · refine Wp.regionA (pOf []) (rhoOf [(1, .obj 1), (11, .obj 1), (12, .frz), (13, .frz), (14, .frz), (15, .frz), (16, .obj 1), (17, .frz), (18, .obj 1), (19, .frz), (20, .frz), (22, .frz), (23, .frz), (24, .obj 1), (25, .frz), (26, .frz), (27, .obj 1), (28, .frz), (29, .obj 1), (30, .frz), (31, .frz)]) kr kr ?_
    refine Runs.batch 2 kr ?_
    obtain ⟨r2, e_r2, h⟩ := bind_some h
    refine Runs.callK false 13 45 [] [.t (.int .i64 p0.fGen), .t (.int .i64 1), .t (.int .i64 1000000)] _ _ _ rfl rfl kr kr kr kr kr (impl_within_ok u p0.fGen 1 1000000 r2 e_r2) kr ?_
    refine Runs.batch 2 kr ?_
    rcases tf (!r2) with hc | hc
    · have h := cond_t h hc
      refine Runs.known 15 (v := true) kr hc ?_
      refine Runs.alln ?_
      exact ⟨(true, p0), h, Le.of (mo := []) (mr := []) kr kr kr kr⟩
    have h := cond_f h hc
    refine Runs.known 15 (v := false) kr hc ?_
    refine Runs.batch 4 kr ?_
    obtain ⟨r3, e_r3, h⟩ := bind_some h
    refine Runs.callK false 20 67 [] [.t (.int .i64 p0.fSize), .t (.int .i64 p0.fLen)] _ _ _ rfl rfl kr kr kr kr kr (impl_SizeOk_ok u p0.fSize p0.fLen r3 e_r3) kr ?_
    refine Runs.batch 3 kr ?_
    rcases tf (!r3) with hc | hc
    · have h := cond_t h hc
      refine Runs.known 23 (v := true) kr hc ?_
      refine Runs.alln ?_
      exact ⟨(true, p0), h, Le.of (mo := []) (mr := []) kr kr kr kr⟩
    have h := cond_f h hc
    refine Runs.known 23 (v := false) kr hc ?_
    refine Runs.batch 2 kr ?_
    refine Runs.lenT (y := .t (.sl 2 (p0.fSums.map Sum.enc))) (e := 76) Sum.enc p0.fSums 2 rfl rfl rfl kr kr kr kr kr ?_
    refine Runs.batch 4 kr ?_
    obtain ⟨r4, e_r4, h⟩ := bind_some h
    refine Runs.callK false 31 62 [] [.t (.int .i64 p0.fSize), .t (.int .i64 p0.fLen)] _ _ _ rfl rfl kr kr kr kr kr (impl_Blocks_ok u p0.fSize p0.fLen r4 e_r4) kr ?_
    refine Runs.alln ?_
    exact ⟨(((p0.fSums.length : Int)) != r4, p0), h, Le.of (mo := []) (mr := []) kr kr kr kr⟩
end Go.Tm
