/- The functions as they are translated do what the pure functions say (printed). -/
import Derived.Test.YtlhbkdaohjnjbaaDoorCEventTextD
import Derived.Test.YtlhbkdaohjnjbaaDoorTm44
import Derived.Test.YtlhbkdaohjnjbaaDoorProg
set_option maxRecDepth 100000
set_option maxHeartbeats 20000000
set_option linter.unusedVariables false
set_option linter.unusedSimpArgs false
namespace Go.Tm
open Go.Proofs
theorem laws_szByteS_ok (u : Nat) (p0 : List Int) (p1 : Int) (r : Int) (h : laws_szByteS u p0 p1 = some r) : CallOK Tryd.prog 17 [.one (.t (.sl 1 (p0.map (eInt .u8)))), .one (.t (.int .i64 p1))] (.one (.t (.int .i64 r))) [] := by
  unfold laws_szByteS at h
  refine CallOK.of_bodyK (fn := Tryd.f17) (m := false) [.t (.sl 1 (p0.map (eInt .u8))), .t (.int .i64 p1)] kr rfl kr kr kr kr kr ?_
  refine Wp.srg [] [] ?_
  refine Runs.alln ?_
  refine Wp.fg ⟨[(0, .t (.sl 1 (p0.map (eInt .u8)))), (1, .t (.int .i64 p1)), (4, .t (.int .i64 0))], [], []⟩ ?_
  refine Wp.srg [] [] ?_
  refine Runs.batch 2 kr ?_
  refine Runs.lenT (y := .t (.sl 1 (p0.map (eInt .u8)))) (e := 5) (eInt .u8) p0 1 rfl rfl rfl kr kr kr kr kr ?_
  refine Runs.alln ?_
  refine Wp.fg ⟨[(1, .t (.int .i64 (bSub .i64 p1 ((p0.length : Int))))), (4, .t (.int .i64 0))], [], []⟩ ?_
  refine Wp.seq ?_
  refine Wp.srg [] [] ?_
  refine Runs.alln ?_
  refine Wp.fg ⟨[(1, .t (.int .i64 (bSub .i64 p1 ((p0.length : Int))))), (4, .t (.int .i64 0)), (10, .t (.bool (decide ((bSub .i64 p1 ((p0.length : Int))) < 0))))], [], []⟩ ?_
  refine Wp.cond2 (b := decide ((bSub .i64 p1 ((p0.length : Int))) < 0)) kr (fun hc => ?_) (fun hc => ?_)
  · have h := cond_t h hc
    refine Wp.srg [] [] ?_
    refine Runs.alln ?_
    refine Wp.fg ⟨[(1, .t (.int .i64 (bSub .i64 p1 ((p0.length : Int))))), (4, .t (.int .i64 (-1)))], [], []⟩ ?_
    refine Wp.ret ?_
    refine thenR ?_
    obtain rfl := Option.some.inj h
    exact RetK [.t (.int .i64 (-1))] _ [] kr kr (.refl _) .nil
  have h := cond_f h hc
  refine Wp.skip (thenN ?_)
  refine Wp.srg [] [] ?_
  refine Runs.alln ?_
  refine Wp.fg ⟨[(4, .t (.int .i64 (bSub .i64 p1 ((p0.length : Int)))))], [], []⟩ ?_
  refine Wp.ret ?_
  obtain rfl := Option.some.inj h
  exact RetK [.t (.int .i64 (bSub .i64 p1 ((p0.length : Int))))] _ [] kr kr (.refl _) .nil
theorem laws_szPacket_ok (u : Nat) (p0 : Packet) (p1 : Int) (r : Int) (h : laws_szPacket u p0 p1 = some r) : CallOK Tryd.prog 9 [.agg [.t (.int .i64 p0.fFrom), .t (.int .i64 p0.fTo), .t (.sl 1 (p0.fB.map (eInt .u8)))], .one (.t (.int .i64 p1))] (.one (.t (.int .i64 r))) [] := by
  unfold laws_szPacket at h
  refine CallOK.of_bodyK (fn := Tryd.f9) (m := false) [.agg ((Packet.enc p0).map .t), .t (.int .i64 p1)] kr rfl kr kr kr kr kr ?_
  refine Wp.srg [] [] ?_
  refine Runs.alln ?_
  refine Wp.fg ⟨[(1, .t (.int .i64 p1)), (2, .obj 2 0), (4, .t (.int .i64 0))], [(2, ((Packet.enc p0).map .t))], []⟩ ?_
  refine Wp.srg [] [] ?_
  refine Runs.batch 3 kr ?_
  obtain ⟨r1, e_r1, h⟩ := bind_some h
  refine Runs.callK false 8 17 [] [.t (.sl 1 (p0.fB.map (eInt .u8))), .t (.int .i64 p1)] _ _ _ rfl rfl kr kr kr kr kr (laws_szByteS_ok u p0.fB p1 r1 e_r1) kr ?_
  refine Runs.alln ?_
  refine Wp.fg ⟨[(1, .t (.int .i64 r1)), (4, .t (.int .i64 0))], [], []⟩ ?_
  refine Wp.seq ?_
  refine Wp.srg [] [] ?_
  refine Runs.alln ?_
  refine Wp.fg ⟨[(1, .t (.int .i64 r1)), (4, .t (.int .i64 0)), (10, .t (.bool (decide (r1 < 0))))], [], []⟩ ?_
  refine Wp.cond2 (b := decide (r1 < 0)) kr (fun hc => ?_) (fun hc => ?_)
  · have h := cond_t h hc
    refine Wp.srg [] [] ?_
    refine Runs.alln ?_
    refine Wp.fg ⟨[(1, .t (.int .i64 r1)), (4, .t (.int .i64 (-1)))], [], []⟩ ?_
    refine Wp.ret ?_
    refine thenR ?_
    obtain rfl := Option.some.inj h
    exact RetK [.t (.int .i64 (-1))] _ [] kr kr (.refl _) .nil
  have h := cond_f h hc
  refine Wp.skip (thenN ?_)
  refine Wp.srg [] [] ?_
  refine Runs.alln ?_
  refine Wp.fg ⟨[(4, .t (.int .i64 r1))], [], []⟩ ?_
  refine Wp.ret ?_
  obtain rfl := Option.some.inj h
  exact RetK [.t (.int .i64 r1)] _ [] kr kr (.refl _) .nil
theorem laws_szEvent_ok (u : Nat) (p0 : Event) (p1 : Int) (r : Int) (h : laws_szEvent u p0 p1 = some r) : CallOK Tryd.prog 4 [.agg [.t (.int .i64 p0.fKind), .t (.int .i64 p0.fN), .t (.int .i64 p0.fS), .t (.int .i64 p0.fP.fFrom), .t (.int .i64 p0.fP.fTo), .t (.sl 1 (p0.fP.fB.map (eInt .u8)))], .one (.t (.int .i64 p1))] (.one (.t (.int .i64 r))) [] := by
  unfold laws_szEvent at h
  refine CallOK.of_bodyK (fn := Tryd.f4) (m := false) [.agg ((Event.enc p0).map .t), .t (.int .i64 p1)] kr rfl kr kr kr kr kr ?_
  refine Wp.srg [] [] ?_
  refine Runs.alln ?_
  refine Wp.fg ⟨[(1, .t (.int .i64 p1)), (2, .obj 2 0), (4, .t (.int .i64 0))], [(2, ((Event.enc p0).map .t))], []⟩ ?_
  refine Wp.srg [] [] ?_
  refine Runs.batch 3 kr ?_
  obtain ⟨r1, e_r1, h⟩ := bind_some h
  refine Runs.callK false 8 9 [] [.agg ((Packet.enc p0.fP).map .t), .t (.int .i64 p1)] _ _ _ rfl rfl kr kr kr kr kr (laws_szPacket_ok u p0.fP p1 r1 e_r1) kr ?_
  refine Runs.alln ?_
  refine Wp.fg ⟨[(1, .t (.int .i64 r1)), (4, .t (.int .i64 0))], [], []⟩ ?_
  refine Wp.seq ?_
  refine Wp.srg [] [] ?_
  refine Runs.alln ?_
  refine Wp.fg ⟨[(1, .t (.int .i64 r1)), (4, .t (.int .i64 0)), (10, .t (.bool (decide (r1 < 0))))], [], []⟩ ?_
  refine Wp.cond2 (b := decide (r1 < 0)) kr (fun hc => ?_) (fun hc => ?_)
  · have h := cond_t h hc
    refine Wp.srg [] [] ?_
    refine Runs.alln ?_
    refine Wp.fg ⟨[(1, .t (.int .i64 r1)), (4, .t (.int .i64 (-1)))], [], []⟩ ?_
    refine Wp.ret ?_
    refine thenR ?_
    obtain rfl := Option.some.inj h
    exact RetK [.t (.int .i64 (-1))] _ [] kr kr (.refl _) .nil
  have h := cond_f h hc
  refine Wp.skip (thenN ?_)
  refine Wp.srg [] [] ?_
  refine Runs.alln ?_
  refine Wp.fg ⟨[(4, .t (.int .i64 r1))], [], []⟩ ?_
  refine Wp.ret ?_
  obtain rfl := Option.some.inj h
  exact RetK [.t (.int .i64 r1)] _ [] kr kr (.refl _) .nil
theorem laws_toByteS_ok (u : Nat) (p0 : List Int) (r : (List Int)) (h : laws_toByteS u p0 = some r) : CallOK Tryd.prog 18 [.one (.t (.sl 1 (p0.map (eInt .u8))))] (.one (.ow 5 1 (r.map (eInt .u8)))) [] := by
  unfold laws_toByteS at h
  refine CallOK.of_bodyK (fn := Tryd.f18) (m := true) [.t (.sl 1 (p0.map (eInt .u8)))] kr rfl kr kr kr kr kr ?_
  refine Wp.srg [] [] ?_
  refine Runs.alln ?_
  refine Wp.fg ⟨[(0, .t (.sl 1 (p0.map (eInt .u8)))), (2, .nil)], [], []⟩ ?_
  refine Wp.srg [] [] ?_
  refine Runs.batch 1 kr ?_
  refine Runs.lenT (y := .t (.sl 1 (p0.map (eInt .u8)))) (e := 5) (eInt .u8) p0 1 rfl rfl rfl kr kr kr kr kr ?_
  obtain ⟨_, e_1, h⟩ := bind_some h
  obtain ⟨_, e_2, h⟩ := bind_some h
  refine Runs.mkS (eInt .u8) (0 : Int) 7 5 1 1 ((p0.length : Int)) ((p0.length : Int)) rfl rfl kr kr kr kr kr kr (chk_some e_1) (of_decide_eq_true (chk_some e_2)) kr ?_
  refine Runs.alln ?_
  refine Wp.fg ⟨[(0, .t (.sl 1 (p0.map (eInt .u8)))), (2, .nil), (3, .own 458752)], [], [(458752, .live 5 1 ((List.replicate (Int.toNat ((p0.length : Int))) (0 : Int)).map (eInt .u8)))]⟩ ?_
  refine Wp.seqJ (α := (List Int)) (fun a => ⟨[(2, .nil), (3, .own 196609)], [], [(196609, .live 5 1 (a.map (eInt .u8)))]⟩) (fun a => laws_toByteS_j1 u a = some r) ?_ ?_
  · rintro x11 h
    change laws_toByteS_j1 u x11 = some r at h
    unfold laws_toByteS_j1 at h
    refine Wp.srg [] [] ?_
    refine Runs.alln ?_
    refine Wp.fg ⟨[(2, .own 196609)], [], [(196609, .live 5 1 (x11.map (eInt .u8)))]⟩ ?_
    refine Wp.ret ?_
    obtain rfl := Option.some.inj h
    exact RetK [.own 196609] _ [] kr kr (.refl _) .nil
  · refine Wp.srg [] [] ?_
    refine Runs.alln ?_
    refine Wp.fg ⟨[(0, .t (.sl 1 (p0.map (eInt .u8)))), (2, .nil), (3, .own 458752), (4, .t (.int .i64 0))], [], [(458752, .live 5 1 ((List.replicate (Int.toNat ((p0.length : Int))) (0 : Int)).map (eInt .u8)))]⟩ ?_
    refine Wp.block ?_
    refine Wp.loopF (α := (List Int) × (List Int) × Int) (fun a => ⟨[(0, .t (.sl 1 (a.1.map (eInt .u8)))), (2, .nil), (3, .own 196609), (4, .t (.int .i64 a.2.2))], [], [(196609, .live 5 1 (a.2.1.map (eInt .u8)))]⟩) (fun k_laws_toByteS_l2 a => laws_toByteS_l2 u k_laws_toByteS_l2 a.1 a.2.1 a.2.2 = some r) ?_ ?_ u (p0, List.replicate (Int.toNat ((p0.length : Int))) (0 : Int), 0) h (Le.of (mo := []) (mr := [(196609, 458752)]) kr kr kr kr)
    · intro a h; unfold laws_toByteS_l2 at h; cases h
    · rintro k_laws_toByteS_l2 ⟨p0, x5, x6⟩ h
      change laws_toByteS_l2 u (k_laws_toByteS_l2 + 1) p0 x5 x6 = some r at h
      rw [laws_toByteS_l2] at h
      refine Wp.seq ?_
      refine Wp.srg [] [] ?_
      refine Runs.batch 2 kr ?_
      refine Runs.lenT (y := .t (.sl 1 (p0.map (eInt .u8)))) (e := 5) (eInt .u8) p0 1 rfl rfl rfl kr kr kr kr kr ?_
      refine Runs.alln ?_
      refine Wp.fg ⟨[(0, .t (.sl 1 (p0.map (eInt .u8)))), (2, .nil), (3, .own 196609), (4, .t (.int .i64 x6)), (11, .t (.bool (decide (x6 < ((p0.length : Int))))))], [], [(196609, .live 5 1 (x5.map (eInt .u8)))]⟩ ?_
      refine Wp.cond2 (b := decide (x6 < ((p0.length : Int)))) kr (fun hc => ?_) (fun hc => ?_)
      · have h := cond_t h hc
        refine Wp.skip (thenN ?_)
        refine Wp.seq ?_
        refine Wp.block ?_
        refine Wp.rg [] [] ?_
        refine Runs.batch 4 kr ?_
        obtain ⟨y9, e_y9, h⟩ := bind_some h
        refine Runs.idxT (e := 5) (kk := .i64) (sz := 1) (eInt .u8) p0 x6 rfl kr kr kr kr kr kr e_y9 ?_
        refine Runs.batch 1 kr ?_
        obtain ⟨y10, e_y10, h⟩ := bind_some h
        refine Runs.idxO (e := 5) (e' := 5) (kk := .i64) (sz := 1) (eInt .u8) x5 x6 196609 rfl kr kr kr kr kr kr kr e_y10 ?_
        refine Runs.storeT (e := 5) (sz := 1) (m := 1) (eInt .u8) x5 196609 (Int.toNat x6) 0 y9 (.t (.int .u8 y9)) [.int .u8 y9] rfl kr kr kr kr kr kr kr kr (idx_some e_y10).2 kr kr ?_
        refine Runs.done ?_
        refine blkN ?_
        refine thenN ?_
        refine Wp.rg [] [] ?_
        refine Runs.alln ?_
        exact ⟨(p0, x5.set (Int.toNat x6) y9, bAdd .i64 x6 1), h, Le.of (mo := []) (mr := []) kr kr kr kr⟩
      have h := cond_f h hc
      refine Wp.exit ?_
      refine thenE ?_
      refine thenE ?_
      refine blkE ?_
      refine thenN ?_
      exact ⟨x5, h, Le.of (mo := []) (mr := []) kr kr kr kr⟩
theorem laws_toPacket_ok (u : Nat) (p0 : Packet) (r : Packet) (h : laws_toPacket u p0 = some r) : CallOK Tryd.prog 12 [.agg [.t (.int .i64 p0.fFrom), .t (.int .i64 p0.fTo), .t (.sl 1 (p0.fB.map (eInt .u8)))]] (.agg [.t (.int .i64 r.fFrom), .t (.int .i64 r.fTo), .ow 5 1 (r.fB.map (eInt .u8))]) [] := by
  unfold laws_toPacket at h
  refine CallOK.of_bodyK (fn := Tryd.f12) (m := true) [.agg ((Packet.enc p0).map .t)] kr rfl kr kr kr kr kr ?_
  refine Wp.srg [] [] ?_
  refine Runs.alln ?_
  refine Wp.fg ⟨[(1, .obj 1 0), (2, .obj 2 0)], [(1, ((Packet.enc p0).map .t)), (2, [.t (.int .i64 0), .t (.int .i64 0), .nil])], []⟩ ?_
  refine Wp.srg [] [] ?_
  refine Runs.alln ?_
  refine Wp.fg ⟨[(1, .obj 1 0), (2, .obj 2 0), (3, .obj 3 0)], [(1, ((Packet.enc p0).map .t)), (2, [.t (.int .i64 0), .t (.int .i64 0), .nil]), (3, [.t (.int .i64 0), .t (.int .i64 0), .nil])], []⟩ ?_
  refine Wp.srg [] [] ?_
  refine Runs.alln ?_
  refine Wp.fg ⟨[(1, .obj 1 0), (2, .obj 2 0), (3, .obj 3 0)], [(1, ((Packet.enc p0).map .t)), (2, [.t (.int .i64 0), .t (.int .i64 0), .nil]), (3, [.t (.int .i64 p0.fFrom), .t (.int .i64 0), .nil])], []⟩ ?_
  refine Wp.srg [] [] ?_
  refine Runs.alln ?_
  refine Wp.fg ⟨[(1, .obj 1 0), (2, .obj 2 0), (3, .obj 3 0)], [(1, ((Packet.enc p0).map .t)), (2, [.t (.int .i64 0), .t (.int .i64 0), .nil]), (3, [.t (.int .i64 p0.fFrom), .t (.int .i64 p0.fTo), .nil])], []⟩ ?_
  refine Wp.srg [] [] ?_
  refine Runs.batch 2 kr ?_
  obtain ⟨r1, e_r1, h⟩ := bind_some h
  refine Runs.callK false 12 18 [] [.t (.sl 1 (p0.fB.map (eInt .u8)))] _ _ _ rfl rfl kr kr kr kr kr (laws_toByteS_ok u p0.fB r1 e_r1) kr ?_
  refine Runs.alln ?_
  refine Wp.fg ⟨[(2, .obj 2 0), (3, .obj 3 0)], [(2, [.t (.int .i64 0), .t (.int .i64 0), .nil]), (3, [.t (.int .i64 p0.fFrom), .t (.int .i64 p0.fTo), .own 786432])], [(786432, .live 5 1 (r1.map (eInt .u8)))]⟩ ?_
  refine Wp.srg [] [] ?_
  refine Runs.alln ?_
  refine Wp.fg ⟨[(2, .obj 2 0)], [(2, [.t (.int .i64 p0.fFrom), .t (.int .i64 p0.fTo), .own 786432])], [(786432, .live 5 1 (r1.map (eInt .u8)))]⟩ ?_
  refine Wp.ret ?_
  obtain rfl := Option.some.inj h
  exact RetK [.agg [.t (.int .i64 p0.fFrom), .t (.int .i64 p0.fTo), .own 786432]] _ [] kr kr (.refl _) .nil
theorem laws_toEvent_ok (u : Nat) (p0 : Event) (r : Event) (h : laws_toEvent u p0 = some r) : CallOK Tryd.prog 6 [.agg [.t (.int .i64 p0.fKind), .t (.int .i64 p0.fN), .t (.int .i64 p0.fS), .t (.int .i64 p0.fP.fFrom), .t (.int .i64 p0.fP.fTo), .t (.sl 1 (p0.fP.fB.map (eInt .u8)))]] (.agg [.t (.int .i64 r.fKind), .t (.int .i64 r.fN), .t (.int .i64 r.fS), .t (.int .i64 r.fP.fFrom), .t (.int .i64 r.fP.fTo), .ow 5 1 (r.fP.fB.map (eInt .u8))]) [] := by
  unfold laws_toEvent at h
  refine CallOK.of_bodyK (fn := Tryd.f6) (m := true) [.agg ((Event.enc p0).map .t)] kr rfl kr kr kr kr kr ?_
  refine Wp.srg [] [] ?_
  refine Runs.alln ?_
  refine Wp.fg ⟨[(1, .obj 1 0), (2, .obj 2 0)], [(1, ((Event.enc p0).map .t)), (2, [.t (.int .i64 0), .t (.int .i64 0), .t (.int .i64 0), .t (.int .i64 0), .t (.int .i64 0), .nil])], []⟩ ?_
  refine Wp.srg [] [] ?_
  refine Runs.alln ?_
  refine Wp.fg ⟨[(1, .obj 1 0), (2, .obj 2 0), (3, .obj 3 0)], [(1, ((Event.enc p0).map .t)), (2, [.t (.int .i64 0), .t (.int .i64 0), .t (.int .i64 0), .t (.int .i64 0), .t (.int .i64 0), .nil]), (3, [.t (.int .i64 0), .t (.int .i64 0), .t (.int .i64 0), .t (.int .i64 0), .t (.int .i64 0), .nil])], []⟩ ?_
  refine Wp.srg [] [] ?_
  refine Runs.alln ?_
  refine Wp.fg ⟨[(1, .obj 1 0), (2, .obj 2 0), (3, .obj 3 0)], [(1, ((Event.enc p0).map .t)), (2, [.t (.int .i64 0), .t (.int .i64 0), .t (.int .i64 0), .t (.int .i64 0), .t (.int .i64 0), .nil]), (3, [.t (.int .i64 p0.fKind), .t (.int .i64 0), .t (.int .i64 0), .t (.int .i64 0), .t (.int .i64 0), .nil])], []⟩ ?_
  refine Wp.srg [] [] ?_
  refine Runs.alln ?_
  refine Wp.fg ⟨[(1, .obj 1 0), (2, .obj 2 0), (3, .obj 3 0)], [(1, ((Event.enc p0).map .t)), (2, [.t (.int .i64 0), .t (.int .i64 0), .t (.int .i64 0), .t (.int .i64 0), .t (.int .i64 0), .nil]), (3, [.t (.int .i64 p0.fKind), .t (.int .i64 p0.fN), .t (.int .i64 0), .t (.int .i64 0), .t (.int .i64 0), .nil])], []⟩ ?_
  refine Wp.srg [] [] ?_
  refine Runs.alln ?_
  refine Wp.fg ⟨[(1, .obj 1 0), (2, .obj 2 0), (3, .obj 3 0)], [(1, ((Event.enc p0).map .t)), (2, [.t (.int .i64 0), .t (.int .i64 0), .t (.int .i64 0), .t (.int .i64 0), .t (.int .i64 0), .nil]), (3, [.t (.int .i64 p0.fKind), .t (.int .i64 p0.fN), .t (.int .i64 p0.fS), .t (.int .i64 0), .t (.int .i64 0), .nil])], []⟩ ?_
  refine Wp.srg [] [] ?_
  refine Runs.batch 2 kr ?_
  obtain ⟨r1, e_r1, h⟩ := bind_some h
  refine Runs.callK false 15 12 [] [.agg ((Packet.enc p0.fP).map .t)] _ _ _ rfl rfl kr kr kr kr kr (laws_toPacket_ok u p0.fP r1 e_r1) kr ?_
  refine Runs.alln ?_
  refine Wp.fg ⟨[(2, .obj 2 0), (3, .obj 3 0)], [(2, [.t (.int .i64 0), .t (.int .i64 0), .t (.int .i64 0), .t (.int .i64 0), .t (.int .i64 0), .nil]), (3, [.t (.int .i64 p0.fKind), .t (.int .i64 p0.fN), .t (.int .i64 p0.fS), .t (.int .i64 r1.fFrom), .t (.int .i64 r1.fTo), .own 983042])], [(983042, .live 5 1 (r1.fB.map (eInt .u8)))]⟩ ?_
  refine Wp.srg [] [] ?_
  refine Runs.alln ?_
  refine Wp.fg ⟨[(2, .obj 2 0)], [(2, [.t (.int .i64 p0.fKind), .t (.int .i64 p0.fN), .t (.int .i64 p0.fS), .t (.int .i64 r1.fFrom), .t (.int .i64 r1.fTo), .own 983042])], [(983042, .live 5 1 (r1.fB.map (eInt .u8)))]⟩ ?_
  refine Wp.ret ?_
  obtain rfl := Option.some.inj h
  exact RetK [.agg [.t (.int .i64 p0.fKind), .t (.int .i64 p0.fN), .t (.int .i64 p0.fS), .t (.int .i64 r1.fFrom), .t (.int .i64 r1.fTo), .own 983042]] _ [] kr kr (.refl _) .nil
theorem spec_l1In_ok (u : Nat) (p0 : Int) (p1 : Int) (p2 : Int) (r : Bool) (h : spec_l1In u p0 p1 p2 = some r) : CallOK Tryd.prog 10 [.one (.t (.int .i64 p0)), .one (.t (.int .i64 p1)), .one (.t (.int .i64 p2))] (.one (.t (.bool r))) [] := by
  unfold spec_l1In at h
  refine CallOK.of_bodyK (fn := Tryd.f10) (m := false) [.t (.int .i64 p0), .t (.int .i64 p1), .t (.int .i64 p2)] kr rfl kr kr kr kr kr ?_
  refine Wp.srg [] [] ?_
  refine Runs.alln ?_
  refine Wp.fg ⟨[(0, .t (.int .i64 p0)), (1, .t (.int .i64 p1)), (2, .t (.int .i64 p2)), (6, .t (.bool false))], [], []⟩ ?_
  refine Wp.srg [] [] ?_
  refine Runs.batch 4 kr ?_
  rcases tf (decide (p0 ≥ p1)) with hc | hc
  · have h := cond_t h hc
    refine Runs.known 10 (v := true) kr hc ?_
    refine Runs.alln ?_
    refine Wp.fg ⟨[(6, .t (.bool (decide (p0 ≤ p2))))], [], []⟩ ?_
    refine Wp.ret ?_
    obtain rfl := Option.some.inj h
    exact RetK [.t (.bool (decide (p0 ≤ p2)))] _ [] kr kr (.refl _) .nil
  have h := cond_f h hc
  refine Runs.known 10 (v := false) kr hc ?_
  refine Runs.alln ?_
  refine Wp.fg ⟨[(6, .t (.bool false))], [], []⟩ ?_
  refine Wp.ret ?_
  obtain rfl := Option.some.inj h
  exact RetK [.t (.bool false)] _ [] kr kr (.refl _) .nil
theorem spec_NumText_ok (u : Nat) (p0 : Int) (r : ByteArray) (h : spec_NumText u p0 = some r) : CallOK Tryd.prog 11 [.one (.t (.int .i64 p0))] (.one (.t (.str r))) [] := by
  unfold spec_NumText at h
  refine CallOK.of_bodyK (fn := Tryd.f11) (m := false) [.t (.int .i64 p0)] kr rfl kr kr kr kr kr ?_
  refine Wp.srg [] [] ?_
  refine Runs.alln ?_
  refine Wp.fg ⟨[(0, .t (.int .i64 p0)), (2, .t (.str ((ByteArray.mk #[]))))], [], []⟩ ?_
  refine Wp.seq ?_
  refine Wp.srg [] [] ?_
  refine Runs.alln ?_
  refine Wp.fg ⟨[(0, .t (.int .i64 p0)), (2, .t (.str ((ByteArray.mk #[])))), (7, .t (.bool (p0 == 0)))], [], []⟩ ?_
  refine Wp.cond2 (b := p0 == 0) kr (fun hc => ?_) (fun hc => ?_)
  · have h := cond_t h hc
    refine Wp.srg [] [] ?_
    refine Runs.alln ?_
    refine Wp.fg ⟨[(0, .t (.int .i64 p0)), (2, .t (.str ((ByteArray.mk #[48]))))], [], []⟩ ?_
    refine Wp.ret ?_
    refine thenR ?_
    obtain rfl := Option.some.inj h
    exact RetK [.t (.str ((ByteArray.mk #[48])))] _ [] kr kr (.refl _) .nil
  have h := cond_f h hc
  refine Wp.skip (thenN ?_)
  refine Wp.srg [] [] ?_
  refine Runs.alln ?_
  refine Wp.fg ⟨[(0, .t (.int .i64 p0)), (2, .t (.str ((ByteArray.mk #[])))), (3, .t (.str ((ByteArray.mk #[]))))], [], []⟩ ?_
  refine Wp.seqJ (α := Int × ByteArray) (fun a => ⟨[(0, .t (.int .i64 a.1)), (2, .t (.str ((ByteArray.mk #[])))), (3, .t (.str a.2))], [], []⟩) (fun a => spec_NumText_j1 u a.1 a.2 = some r) ?_ ?_
  · rintro ⟨p0, x8⟩ h
    change spec_NumText_j1 u p0 x8 = some r at h
    unfold spec_NumText_j1 at h
    refine Wp.seq ?_
    refine Wp.srg [] [] ?_
    refine Runs.alln ?_
    refine Wp.fg ⟨[(2, .t (.str ((ByteArray.mk #[])))), (3, .t (.str x8)), (27, .t (.bool (decide (p0 < 0))))], [], []⟩ ?_
    refine Wp.cond2 (b := decide (p0 < 0)) kr (fun hc => ?_) (fun hc => ?_)
    · have h := cond_t h hc
      refine Wp.srg [] [] ?_
      refine Runs.batch 1 kr ?_
      obtain ⟨_, e_9, h⟩ := bind_some h
      refine Runs.cat ((ByteArray.mk #[45])) x8 rfl kr kr kr kr (of_decide_eq_true (chk_some e_9)) ?_
      refine Runs.alln ?_
      refine Wp.fg ⟨[(2, .t (.str (((ByteArray.mk #[45])) ++ x8))), (3, .t (.str x8))], [], []⟩ ?_
      refine Wp.ret ?_
      refine thenR ?_
      obtain rfl := Option.some.inj h
      exact RetK [.t (.str (((ByteArray.mk #[45])) ++ x8))] _ [] kr kr (.refl _) .nil
    have h := cond_f h hc
    refine Wp.skip (thenN ?_)
    refine Wp.srg [] [] ?_
    refine Runs.alln ?_
    refine Wp.fg ⟨[(2, .t (.str x8))], [], []⟩ ?_
    refine Wp.ret ?_
    obtain rfl := Option.some.inj h
    exact RetK [.t (.str x8)] _ [] kr kr (.refl _) .nil
  · refine Wp.srg [] [] ?_
    refine Runs.alln ?_
    refine Wp.fg ⟨[(0, .t (.int .i64 p0)), (2, .t (.str ((ByteArray.mk #[])))), (3, .t (.str ((ByteArray.mk #[])))), (4, .t (.int .i64 p0))], [], []⟩ ?_
    refine Wp.block ?_
    refine Wp.loopF (α := Int × ByteArray × Int) (fun a => ⟨[(0, .t (.int .i64 a.1)), (2, .t (.str ((ByteArray.mk #[])))), (3, .t (.str a.2.1)), (4, .t (.int .i64 a.2.2))], [], []⟩) (fun k_spec_NumText_l2 a => spec_NumText_l2 u k_spec_NumText_l2 a.1 a.2.1 a.2.2 = some r) ?_ ?_ u (p0, (ByteArray.mk #[]), p0) h (Le.of (mo := []) (mr := []) kr kr kr kr)
    · intro a h; unfold spec_NumText_l2 at h; cases h
    · rintro k_spec_NumText_l2 ⟨p0, x3, x4⟩ h
      change spec_NumText_l2 u (k_spec_NumText_l2 + 1) p0 x3 x4 = some r at h
      rw [spec_NumText_l2] at h
      refine Wp.seq ?_
      refine Wp.srg [] [] ?_
      refine Runs.alln ?_
      refine Wp.fg ⟨[(0, .t (.int .i64 p0)), (2, .t (.str ((ByteArray.mk #[])))), (3, .t (.str x3)), (4, .t (.int .i64 x4)), (10, .t (.bool (x4 != 0)))], [], []⟩ ?_
      refine Wp.cond2 (b := x4 != 0) kr (fun hc => ?_) (fun hc => ?_)
      · have h := cond_t h hc
        refine Wp.skip (thenN ?_)
        refine Wp.seq ?_
        refine Wp.block ?_
        refine Wp.srg [] [] ?_
        refine Runs.alln ?_
        refine Wp.fg ⟨[(0, .t (.int .i64 p0)), (2, .t (.str ((ByteArray.mk #[])))), (3, .t (.str x3)), (4, .t (.int .i64 x4)), (5, .t (.int .i64 (bRem .i64 x4 10)))], [], []⟩ ?_
        refine Wp.seqJ (α := Int × ByteArray × Int × Int) (fun a => ⟨[(0, .t (.int .i64 a.1)), (2, .t (.str ((ByteArray.mk #[])))), (3, .t (.str a.2.1)), (4, .t (.int .i64 a.2.2.1)), (5, .t (.int .i64 a.2.2.2))], [], []⟩) (fun a => spec_NumText_j3 u (fun z0 z1 z2 => spec_NumText_l2 u k_spec_NumText_l2 z0 z1 z2) a.1 a.2.1 a.2.2.1 a.2.2.2 = some r) ?_ ?_
        · rintro ⟨p0, x3, x4, x7⟩ h
          change spec_NumText_j3 u (fun z0 z1 z2 => spec_NumText_l2 u k_spec_NumText_l2 z0 z1 z2) p0 x3 x4 x7 = some r at h
          unfold spec_NumText_j3 at h
          refine Wp.rg [] [] ?_
          refine Runs.batch 4 kr ?_
          refine Runs.bytesStr (y := .own 1441792) (e := 5) ([IntKind.wrap .u8 (bAdd .i64 48 x7)]) 1 rfl kr kr kr kr kr kr kr ?_
          refine Runs.batch 1 kr ?_
          obtain ⟨_, e_8, h⟩ := bind_some h
          refine Runs.cat (strOfNums ([IntKind.wrap .u8 (bAdd .i64 48 x7)])) x3 rfl kr kr kr kr (of_decide_eq_true (chk_some e_8)) ?_
          refine Runs.all kr ?_
          refine blkN ?_
          refine thenN ?_
          refine Wp.rg [] [] ?_
          refine Runs.alln ?_
          exact ⟨(p0, (strOfNums ([IntKind.wrap .u8 (bAdd .i64 48 x7)])) ++ x3, bQuo .i64 x4 10), h, Le.of (mo := []) (mr := []) kr kr kr kr⟩
        · refine Wp.srg [] [] ?_
          refine Runs.alln ?_
          refine Wp.fg ⟨[(0, .t (.int .i64 p0)), (2, .t (.str ((ByteArray.mk #[])))), (3, .t (.str x3)), (4, .t (.int .i64 x4)), (5, .t (.int .i64 (bRem .i64 x4 10))), (16, .t (.bool (decide ((bRem .i64 x4 10) < 0))))], [], []⟩ ?_
          refine Wp.cond2 (b := decide ((bRem .i64 x4 10) < 0)) kr (fun hc => ?_) (fun hc => ?_)
          · have h := cond_t h hc
            refine Wp.rg [] [] ?_
            refine Runs.alln ?_
            exact ⟨(p0, x3, x4, bSub .i64 0 (bRem .i64 x4 10)), h, Le.of (mo := []) (mr := []) kr kr kr kr⟩
          have h := cond_f h hc
          refine Wp.skip (thenN ?_)
          exact ⟨(p0, x3, x4, bRem .i64 x4 10), h, Le.of (mo := []) (mr := []) kr kr kr kr⟩
      have h := cond_f h hc
      refine Wp.exit ?_
      refine thenE ?_
      refine thenE ?_
      refine blkE ?_
      refine thenN ?_
      exact ⟨(p0, x3), h, Le.of (mo := []) (mr := []) kr kr kr kr⟩
theorem spec_EventText_ok (u : Nat) (p0 : Event) (r : ByteArray) (h : spec_EventText u p0 = some r) : CallOK Tryd.prog 5 [.agg [.t (.int .i64 p0.fKind), .t (.int .i64 p0.fN), .t (.int .i64 p0.fS), .t (.int .i64 p0.fP.fFrom), .t (.int .i64 p0.fP.fTo), .t (.sl 1 (p0.fP.fB.map (eInt .u8)))]] (.one (.t (.str r))) [] := by
  unfold spec_EventText at h
  refine CallOK.of_bodyK (fn := Tryd.f5) (m := false) [.agg ((Event.enc p0).map .t)] kr rfl kr kr kr kr kr ?_
  refine Wp.srg [] [] ?_
  refine Runs.alln ?_
  refine Wp.fg ⟨[(1, .obj 1 0), (2, .t (.str ((ByteArray.mk #[]))))], [(1, ((Event.enc p0).map .t))], []⟩ ?_
  refine Wp.srg [] [] ?_
  refine Runs.alln ?_
  refine Wp.fg ⟨[(1, .obj 1 0), (2, .t (.str ((ByteArray.mk #[])))), (3, .own 327680)], [(1, ((Event.enc p0).map .t))], [(327680, .live 9 1 (([(ByteArray.mk #[]), (ByteArray.mk #[116, 105, 99, 107]), (ByteArray.mk #[116, 97, 107, 101]), (ByteArray.mk #[108, 111, 115, 101]), (ByteArray.mk #[100, 111, 117, 98, 108, 101]), (ByteArray.mk #[102, 97, 108, 108]), (ByteArray.mk #[114, 105, 115, 101]), (ByteArray.mk #[102, 111, 114, 103, 101])]).map eStr))]⟩ ?_
  refine Wp.seq ?_
  refine Wp.srg [] [] ?_
  refine Runs.batch 3 kr ?_
  refine Runs.lenT (y := .own 327680) (e := 9) eStr ([(ByteArray.mk #[]), (ByteArray.mk #[116, 105, 99, 107]), (ByteArray.mk #[116, 97, 107, 101]), (ByteArray.mk #[108, 111, 115, 101]), (ByteArray.mk #[100, 111, 117, 98, 108, 101]), (ByteArray.mk #[102, 97, 108, 108]), (ByteArray.mk #[114, 105, 115, 101]), (ByteArray.mk #[102, 111, 114, 103, 101])]) 1 rfl rfl rfl kr kr kr kr kr ?_
  refine Runs.batch 1 kr ?_
  obtain ⟨r1, e_r1, h⟩ := bind_some h
  refine Runs.callK false 11 10 [] [.t (.int .i64 p0.fKind), .t (.int .i64 1), .t (.int .i64 (bSub .i64 ((([(ByteArray.mk #[]), (ByteArray.mk #[116, 105, 99, 107]), (ByteArray.mk #[116, 97, 107, 101]), (ByteArray.mk #[108, 111, 115, 101]), (ByteArray.mk #[100, 111, 117, 98, 108, 101]), (ByteArray.mk #[102, 97, 108, 108]), (ByteArray.mk #[114, 105, 115, 101]), (ByteArray.mk #[102, 111, 114, 103, 101])]).length : Int)) 1))] _ _ _ rfl rfl kr kr kr kr kr (spec_l1In_ok u p0.fKind 1 (bSub .i64 ((([(ByteArray.mk #[]), (ByteArray.mk #[116, 105, 99, 107]), (ByteArray.mk #[116, 97, 107, 101]), (ByteArray.mk #[108, 111, 115, 101]), (ByteArray.mk #[100, 111, 117, 98, 108, 101]), (ByteArray.mk #[102, 97, 108, 108]), (ByteArray.mk #[114, 105, 115, 101]), (ByteArray.mk #[102, 111, 114, 103, 101])]).length : Int)) 1) r1 e_r1) kr ?_
  refine Runs.alln ?_
  refine Wp.fg ⟨[(1, .obj 1 0), (2, .t (.str ((ByteArray.mk #[])))), (3, .own 327680), (12, .t (.bool (!r1)))], [(1, ((Event.enc p0).map .t))], [(327680, .live 9 1 (([(ByteArray.mk #[]), (ByteArray.mk #[116, 105, 99, 107]), (ByteArray.mk #[116, 97, 107, 101]), (ByteArray.mk #[108, 111, 115, 101]), (ByteArray.mk #[100, 111, 117, 98, 108, 101]), (ByteArray.mk #[102, 97, 108, 108]), (ByteArray.mk #[114, 105, 115, 101]), (ByteArray.mk #[102, 111, 114, 103, 101])]).map eStr))]⟩ ?_
  refine Wp.cond2 (b := !r1) kr (fun hc => ?_) (fun hc => ?_)
  · have h := cond_t h hc
    refine Wp.srg [] [] ?_
    refine Runs.alln ?_
    refine Wp.fg ⟨[(1, .obj 1 0), (2, .t (.str ((ByteArray.mk #[])))), (3, .own 327680)], [(1, ((Event.enc p0).map .t))], [(327680, .live 9 1 (([(ByteArray.mk #[]), (ByteArray.mk #[116, 105, 99, 107]), (ByteArray.mk #[116, 97, 107, 101]), (ByteArray.mk #[108, 111, 115, 101]), (ByteArray.mk #[100, 111, 117, 98, 108, 101]), (ByteArray.mk #[102, 97, 108, 108]), (ByteArray.mk #[114, 105, 115, 101]), (ByteArray.mk #[102, 111, 114, 103, 101])]).map eStr))]⟩ ?_
    refine Wp.ret ?_
    refine thenR ?_
    obtain rfl := Option.some.inj h
    exact RetK [.t (.str ((ByteArray.mk #[])))] _ [] kr kr (.refl _) .nil
  have h := cond_f h hc
  refine Wp.skip (thenN ?_)
  refine Wp.seq ?_
  refine Wp.regionA (pOf []) (rhoOf [(1, .obj 1), (3, .own 5), (13, .own 5), (14, .obj 1), (15, .frz), (16, .el 5), (17, .frz), (18, .frz), (19, .obj 1), (20, .frz), (21, .frz), (22, .frz)]) kr kr ?_
  refine Runs.batch 3 kr ?_
  obtain ⟨y2, e_y2, h⟩ := bind_some h
  refine Runs.idxO (e := 9) (e' := 9) (kk := .i64) (sz := 1) eStr ([(ByteArray.mk #[]), (ByteArray.mk #[116, 105, 99, 107]), (ByteArray.mk #[116, 97, 107, 101]), (ByteArray.mk #[108, 111, 115, 101]), (ByteArray.mk #[100, 111, 117, 98, 108, 101]), (ByteArray.mk #[102, 97, 108, 108]), (ByteArray.mk #[114, 105, 115, 101]), (ByteArray.mk #[102, 111, 114, 103, 101])]) p0.fKind 327680 rfl kr kr kr kr kr kr kr e_y2 ?_
  refine Runs.loadE (e' := 9) (sz := 1) (m := 1) (gg := false) eStr ([(ByteArray.mk #[]), (ByteArray.mk #[116, 105, 99, 107]), (ByteArray.mk #[116, 97, 107, 101]), (ByteArray.mk #[108, 111, 115, 101]), (ByteArray.mk #[100, 111, 117, 98, 108, 101]), (ByteArray.mk #[102, 97, 108, 108]), (ByteArray.mk #[114, 105, 115, 101]), (ByteArray.mk #[102, 111, 114, 103, 101])]) 327680 (Int.toNat p0.fKind) 0 (.t (.str y2)) rfl kr kr kr kr kr kr (idx_some e_y2).2 kr ?_
  obtain ⟨_, e_3, h⟩ := bind_some h
  refine Runs.cat y2 ((ByteArray.mk #[32])) rfl kr kr kr kr (of_decide_eq_true (chk_some e_3)) ?_
  refine Runs.batch 2 kr ?_
  obtain ⟨r4, e_r4, h⟩ := bind_some h
  refine Runs.callK false 21 11 [] [.t (.int .i64 p0.fN)] _ _ _ rfl rfl kr kr kr kr kr (spec_NumText_ok u p0.fN r4 e_r4) kr ?_
  obtain ⟨_, e_5, h⟩ := bind_some h
  refine Runs.cat (y2 ++ ((ByteArray.mk #[32]))) r4 rfl kr kr kr kr (of_decide_eq_true (chk_some e_5)) ?_
  refine Runs.alln ?_
  refine Wp.fg ⟨[(1, .obj 1 0), (2, .t (.str ((ByteArray.mk #[])))), (4, .t (.str ((y2 ++ ((ByteArray.mk #[32]))) ++ r4)))], [(1, ((Event.enc p0).map .t))], []⟩ ?_
  refine Wp.seq ?_
  refine Wp.srg [] [] ?_
  refine Runs.alln ?_
  refine Wp.fg ⟨[(1, .obj 1 0), (2, .t (.str ((ByteArray.mk #[])))), (4, .t (.str ((y2 ++ ((ByteArray.mk #[32]))) ++ r4))), (25, .t (.bool (p0.fKind == 5)))], [(1, ((Event.enc p0).map .t))], []⟩ ?_
  refine Wp.cond2 (b := p0.fKind == 5) kr (fun hc => ?_) (fun hc => ?_)
  · have h := cond_t h hc
    refine Wp.srg [] [] ?_
    refine Runs.batch 1 kr ?_
    obtain ⟨_, e_6, h⟩ := bind_some h
    refine Runs.cat ((y2 ++ ((ByteArray.mk #[32]))) ++ r4) ((ByteArray.mk #[32])) rfl kr kr kr kr (of_decide_eq_true (chk_some e_6)) ?_
    refine Runs.batch 2 kr ?_
    obtain ⟨r7, e_r7, h⟩ := bind_some h
    refine Runs.callK false 30 11 [] [.t (.int .i64 p0.fS)] _ _ _ rfl rfl kr kr kr kr kr (spec_NumText_ok u p0.fS r7 e_r7) kr ?_
    obtain ⟨_, e_8, h⟩ := bind_some h
    refine Runs.cat (((y2 ++ ((ByteArray.mk #[32]))) ++ r4) ++ ((ByteArray.mk #[32]))) r7 rfl kr kr kr kr (of_decide_eq_true (chk_some e_8)) ?_
    refine Runs.alln ?_
    refine Wp.fg ⟨[(2, .t (.str ((((y2 ++ ((ByteArray.mk #[32]))) ++ r4) ++ ((ByteArray.mk #[32]))) ++ r7))), (4, .t (.str ((y2 ++ ((ByteArray.mk #[32]))) ++ r4)))], [], []⟩ ?_
    refine Wp.ret ?_
    refine thenR ?_
    obtain rfl := Option.some.inj h
    exact RetK [.t (.str ((((y2 ++ ((ByteArray.mk #[32]))) ++ r4) ++ ((ByteArray.mk #[32]))) ++ r7))] _ [] kr kr (.refl _) .nil
  have h := cond_f h hc
  refine Wp.skip (thenN ?_)
  refine Wp.srg [] [] ?_
  refine Runs.alln ?_
  refine Wp.fg ⟨[(2, .t (.str ((y2 ++ ((ByteArray.mk #[32]))) ++ r4)))], [], []⟩ ?_
  refine Wp.ret ?_
  obtain rfl := Option.some.inj h
  exact RetK [.t (.str ((y2 ++ ((ByteArray.mk #[32]))) ++ r4))] _ [] kr kr (.refl _) .nil
theorem impl_within_ok (u : Nat) (p0 : Int) (p1 : Int) (p2 : Int) (r : Bool) (h : impl_within u p0 p1 p2 = some r) : CallOK Tryd.prog 13 [.one (.t (.int .i64 p0)), .one (.t (.int .i64 p1)), .one (.t (.int .i64 p2))] (.one (.t (.bool r))) [] := by
  unfold impl_within at h
  refine CallOK.of_bodyK (fn := Tryd.f13) (m := false) [.t (.int .i64 p0), .t (.int .i64 p1), .t (.int .i64 p2)] kr rfl kr kr kr kr kr ?_
  refine Wp.srg [] [] ?_
  refine Runs.alln ?_
  refine Wp.fg ⟨[(0, .t (.int .i64 p0)), (1, .t (.int .i64 p1)), (2, .t (.int .i64 p2)), (6, .t (.bool false))], [], []⟩ ?_
  refine Wp.srg [] [] ?_
  refine Runs.batch 4 kr ?_
  rcases tf (decide (p0 ≥ p1)) with hc | hc
  · have h := cond_t h hc
    refine Runs.known 10 (v := true) kr hc ?_
    refine Runs.alln ?_
    refine Wp.fg ⟨[(6, .t (.bool (decide (p0 ≤ p2))))], [], []⟩ ?_
    refine Wp.ret ?_
    obtain rfl := Option.some.inj h
    exact RetK [.t (.bool (decide (p0 ≤ p2)))] _ [] kr kr (.refl _) .nil
  have h := cond_f h hc
  refine Runs.known 10 (v := false) kr hc ?_
  refine Runs.alln ?_
  refine Wp.fg ⟨[(6, .t (.bool false))], [], []⟩ ?_
  refine Wp.ret ?_
  obtain rfl := Option.some.inj h
  exact RetK [.t (.bool false)] _ [] kr kr (.refl _) .nil
theorem impl_eventWords_ok (u : Nat)  (r : (List ByteArray)) (h : impl_eventWords u = some r) : CallOK Tryd.prog 14 [] (.one (.ow 9 1 (r.map eStr))) [] := by
  unfold impl_eventWords at h
  refine CallOK.of_bodyK (fn := Tryd.f14) (m := true) [] kr rfl kr kr kr kr kr ?_
  refine Wp.srg [] [] ?_
  refine Runs.alln ?_
  refine Wp.fg ⟨[(0, .nil)], [], []⟩ ?_
  refine Wp.srg [] [] ?_
  refine Runs.alln ?_
  refine Wp.fg ⟨[(0, .own 65536)], [], [(65536, .live 9 1 (([(ByteArray.mk #[]), (ByteArray.mk #[116, 105, 99, 107]), (ByteArray.mk #[116, 97, 107, 101]), (ByteArray.mk #[108, 111, 115, 101]), (ByteArray.mk #[100, 111, 117, 98, 108, 101]), (ByteArray.mk #[102, 97, 108, 108]), (ByteArray.mk #[114, 105, 115, 101]), (ByteArray.mk #[102, 111, 114, 103, 101])]).map eStr))]⟩ ?_
  refine Wp.ret ?_
  obtain rfl := Option.some.inj h
  exact RetK [.own 65536] _ [] kr kr (.refl _) .nil
def laysItoa_ren : Go.Shelf.Ren := ⟨fun | 171 => 19 | 243 => 21 | 246 => 22 | 283 => 23 | 284 => 24 | 285 => 25 | 286 => 26 | 129 => 28 | 317 => 27 | 318 => 29 | 319 => 30 | 320 => 31 | 337 => 32 | 338 => 33 | n => n, fun | 3 => 3 | 9 => 9 | 2 => 2 | 4 => 4 | 171 => 46 | 0 => 0 | 53 => 47 | 37 => 22 | 5 => 5 | 173 => 50 | 212 => 54 | 51 => 55 | 20 => 20 | 213 => 56 | 46 => 58 | 232 => 61 | 233 => 62 | n => n, fun | 17 => 0 | 18 => 1 | 19 => 2 | n => n⟩
theorem laysItoa : Go.Proofs.LaysM.n171 Tryd.prog laysItoa_ren := {
  mixed := by kernel_rfl,
  f129 := Tryd.func28.trans (congrArg some kr),
  f171 := Tryd.func19.trans (congrArg some kr),
  f243 := Tryd.func21.trans (congrArg some kr),
  f246 := Tryd.func22.trans (congrArg some kr),
  f283 := Tryd.func23.trans (congrArg some kr),
  f284 := Tryd.func24.trans (congrArg some kr),
  f285 := Tryd.func25.trans (congrArg some kr),
  f286 := Tryd.func26.trans (congrArg some kr),
  f317 := Tryd.func27.trans (congrArg some kr),
  f318 := Tryd.func29.trans (congrArg some kr),
  f319 := Tryd.func30.trans (congrArg some kr),
  f320 := Tryd.func31.trans (congrArg some kr),
  f337 := Tryd.func32.trans (congrArg some kr),
  f338 := Tryd.func33.trans (congrArg some kr),
  t0 := Tryd.underlying0,
  a0 := Tryd.isAgg0,
  z0 := Tryd.sizeOf0,
  v0 := Tryd.zeroValue0,
  t2 := Tryd.underlying2,
  a2 := Tryd.isAgg2,
  z2 := Tryd.sizeOf2,
  v2 := Tryd.zeroValue2,
  t3 := Tryd.underlying3,
  a3 := Tryd.isAgg3,
  z3 := Tryd.sizeOf3,
  v3 := Tryd.zeroValue3,
  t4 := Tryd.underlying4,
  a4 := Tryd.isAgg4,
  z4 := Tryd.sizeOf4,
  v4 := Tryd.zeroValue4,
  t5 := Tryd.underlying5,
  a5 := Tryd.isAgg5,
  z5 := Tryd.sizeOf5,
  v5 := Tryd.zeroValue5,
  t9 := Tryd.underlying9,
  a9 := Tryd.isAgg9,
  z9 := Tryd.sizeOf9,
  v9 := Tryd.zeroValue9,
  t20 := Tryd.underlying20,
  a20 := Tryd.isAgg20,
  z20 := Tryd.sizeOf20,
  v20 := Tryd.zeroValue20,
  t37 := Tryd.underlying22,
  a37 := Tryd.isAgg22,
  z37 := Tryd.sizeOf22,
  v37 := Tryd.zeroValue22,
  t46 := Tryd.underlying58,
  a46 := Tryd.isAgg58,
  z46 := Tryd.sizeOf58,
  v46 := Tryd.zeroValue58,
  t51 := Tryd.underlying55,
  a51 := Tryd.isAgg55,
  z51 := Tryd.sizeOf55,
  v51 := Tryd.zeroValue55,
  t53 := Tryd.underlying47,
  a53 := Tryd.isAgg47,
  z53 := Tryd.sizeOf47,
  v53 := Tryd.zeroValue47,
  t171 := Tryd.underlying46,
  a171 := Tryd.isAgg46,
  z171 := Tryd.sizeOf46,
  v171 := Tryd.zeroValue46,
  t173 := Tryd.underlying50,
  a173 := Tryd.isAgg50,
  z173 := Tryd.sizeOf50,
  v173 := Tryd.zeroValue50,
  t212 := Tryd.underlying54,
  a212 := Tryd.isAgg54,
  z212 := Tryd.sizeOf54,
  v212 := Tryd.zeroValue54,
  t213 := Tryd.underlying56,
  a213 := Tryd.isAgg56,
  z213 := Tryd.sizeOf56,
  t232 := Tryd.underlying61,
  a232 := Tryd.isAgg61,
  z232 := Tryd.sizeOf61,
  v232 := Tryd.zeroValue61,
  t233 := Tryd.underlying62,
  a233 := Tryd.isAgg62,
  z233 := Tryd.sizeOf62,
  v233 := Tryd.zeroValue62,
  g17 := by kernel_rfl,
  g18 := by kernel_rfl,
  g19 := by kernel_rfl,
  i0 := by kernel_rfl,
  i2 := by kernel_rfl,
  i3 := by kernel_rfl,
  i4 := by kernel_rfl,
  i5 := by kernel_rfl,
  i9 := by kernel_rfl,
  i20 := by kernel_rfl,
  i37 := by kernel_rfl,
  i46 := by kernel_rfl,
  i51 := by kernel_rfl,
  i53 := by kernel_rfl,
  i171 := by kernel_rfl,
  i173 := by kernel_rfl,
  i212 := by kernel_rfl,
  i232 := by kernel_rfl,
  i233 := by kernel_rfl,
  m17 := by kernel_rfl,
  m18 := by kernel_rfl,
  m19 := by kernel_rfl }
theorem strconv_Itoa_ok (u : Nat) (p0 : Int) (r : ByteArray) (h : strconv_Itoa u p0 = some r) : CallOK Tryd.prog 19 [.one (.t (.int .i64 p0))] (.one (.t (.str r))) [] :=
  itoa_call ⟨_, Tryd.func19, by kernel_rfl, by kernel_rfl⟩ (k := 0) kr (fun n h0 h1 w ht => Go.Proofs.Any.strconv_Itoa laysItoa n h0 h1 w ht) h
theorem impl_NumText_ok (u : Nat) (p0 : Int) (r : ByteArray) (h : impl_NumText u p0 = some r) : CallOK Tryd.prog 15 [.one (.t (.int .i64 p0))] (.one (.t (.str r))) [] := by
  unfold impl_NumText at h
  refine CallOK.of_bodyK (fn := Tryd.f15) (m := false) [.t (.int .i64 p0)] kr rfl kr kr kr kr kr ?_
  refine Wp.srg [] [] ?_
  refine Runs.alln ?_
  refine Wp.fg ⟨[(0, .t (.int .i64 p0)), (2, .t (.str ((ByteArray.mk #[]))))], [], []⟩ ?_
  refine Wp.srg [] [] ?_
  refine Runs.batch 1 kr ?_
  obtain ⟨r1, e_r1, h⟩ := bind_some h
  refine Runs.callK false 4 19 [] [.t (.int .i64 p0)] _ _ _ rfl rfl kr kr kr kr kr (strconv_Itoa_ok u p0 r1 e_r1) kr ?_
  refine Runs.alln ?_
  refine Wp.fg ⟨[(2, .t (.str r1))], [], []⟩ ?_
  refine Wp.ret ?_
  obtain rfl := Option.some.inj h
  exact RetK [.t (.str r1)] _ [] kr kr (.refl _) .nil
theorem impl_EventText_ok (u : Nat) (p0 : Event) (r : ByteArray) (h : impl_EventText u p0 = some r) : CallOK Tryd.prog 7 [.agg [.t (.int .i64 p0.fKind), .t (.int .i64 p0.fN), .t (.int .i64 p0.fS), .t (.int .i64 p0.fP.fFrom), .t (.int .i64 p0.fP.fTo), .t (.sl 1 (p0.fP.fB.map (eInt .u8)))]] (.one (.t (.str r))) [] := by
  unfold impl_EventText at h
  refine CallOK.of_bodyK (fn := Tryd.f7) (m := false) [.agg ((Event.enc p0).map .t)] kr rfl kr kr kr kr kr ?_
  refine Wp.srg [] [] ?_
  refine Runs.alln ?_
  refine Wp.fg ⟨[(1, .obj 1 0), (2, .t (.str ((ByteArray.mk #[]))))], [(1, ((Event.enc p0).map .t))], []⟩ ?_
  refine Wp.seq ?_
  refine Wp.srg [] [] ?_
  refine Runs.batch 2 kr ?_
  obtain ⟨r1, e_r1, h⟩ := bind_some h
  refine Runs.callK false 6 13 [] [.t (.int .i64 p0.fKind), .t (.int .i64 1), .t (.int .i64 7)] _ _ _ rfl rfl kr kr kr kr kr (impl_within_ok u p0.fKind 1 7 r1 e_r1) kr ?_
  refine Runs.alln ?_
  refine Wp.fg ⟨[(1, .obj 1 0), (2, .t (.str ((ByteArray.mk #[])))), (7, .t (.bool (!r1)))], [(1, ((Event.enc p0).map .t))], []⟩ ?_
  refine Wp.cond2 (b := !r1) kr (fun hc => ?_) (fun hc => ?_)
  · have h := cond_t h hc
    refine Wp.srg [] [] ?_
    refine Runs.alln ?_
    refine Wp.fg ⟨[(1, .obj 1 0), (2, .t (.str ((ByteArray.mk #[]))))], [(1, ((Event.enc p0).map .t))], []⟩ ?_
    refine Wp.ret ?_
    refine thenR ?_
    obtain rfl := Option.some.inj h
    exact RetK [.t (.str ((ByteArray.mk #[])))] _ [] kr kr (.refl _) .nil
  have h := cond_f h hc
  refine Wp.skip (thenN ?_)
  refine Wp.seq ?_
  refine Wp.regionA (pOf []) (rhoOf [(1, .obj 1), (8, .own 8), (9, .obj 1), (10, .frz), (11, .el 8), (12, .frz), (13, .frz), (14, .obj 1), (15, .frz), (16, .frz), (17, .frz)]) kr kr ?_
  obtain ⟨r2, e_r2, h⟩ := bind_some h
  refine Runs.callK false 8 14 [] [] _ _ _ rfl rfl kr kr kr kr kr (impl_eventWords_ok u  r2 e_r2) kr ?_
  refine Runs.batch 2 kr ?_
  obtain ⟨y3, e_y3, h⟩ := bind_some h
  refine Runs.idxO (e := 9) (e' := 9) (kk := .i64) (sz := 1) eStr r2 p0.fKind 524288 rfl kr kr kr kr kr kr kr e_y3 ?_
  refine Runs.loadE (e' := 9) (sz := 1) (m := 1) (gg := false) eStr r2 524288 (Int.toNat p0.fKind) 0 (.t (.str y3)) rfl kr kr kr kr kr kr (idx_some e_y3).2 kr ?_
  obtain ⟨_, e_4, h⟩ := bind_some h
  refine Runs.cat y3 ((ByteArray.mk #[32])) rfl kr kr kr kr (of_decide_eq_true (chk_some e_4)) ?_
  refine Runs.batch 2 kr ?_
  obtain ⟨r5, e_r5, h⟩ := bind_some h
  refine Runs.callK false 16 15 [] [.t (.int .i64 p0.fN)] _ _ _ rfl rfl kr kr kr kr kr (impl_NumText_ok u p0.fN r5 e_r5) kr ?_
  obtain ⟨_, e_6, h⟩ := bind_some h
  refine Runs.cat (y3 ++ ((ByteArray.mk #[32]))) r5 rfl kr kr kr kr (of_decide_eq_true (chk_some e_6)) ?_
  refine Runs.alln ?_
  refine Wp.fg ⟨[(1, .obj 1 0), (2, .t (.str ((ByteArray.mk #[])))), (3, .t (.str ((y3 ++ ((ByteArray.mk #[32]))) ++ r5)))], [(1, ((Event.enc p0).map .t))], []⟩ ?_
  refine Wp.seqJ (α := ByteArray) (fun a => ⟨[(2, .t (.str ((ByteArray.mk #[])))), (3, .t (.str a))], [], []⟩) (fun a => impl_EventText_j1 u a = some r) ?_ ?_
  · rintro x8 h
    change impl_EventText_j1 u x8 = some r at h
    unfold impl_EventText_j1 at h
    refine Wp.srg [] [] ?_
    refine Runs.alln ?_
    refine Wp.fg ⟨[(2, .t (.str x8))], [], []⟩ ?_
    refine Wp.ret ?_
    obtain rfl := Option.some.inj h
    exact RetK [.t (.str x8)] _ [] kr kr (.refl _) .nil
  · refine Wp.srg [] [] ?_
    refine Runs.alln ?_
    refine Wp.fg ⟨[(1, .obj 1 0), (2, .t (.str ((ByteArray.mk #[])))), (3, .t (.str ((y3 ++ ((ByteArray.mk #[32]))) ++ r5))), (20, .t (.bool (p0.fKind == 5)))], [(1, ((Event.enc p0).map .t))], []⟩ ?_
    refine Wp.cond2 (b := p0.fKind == 5) kr (fun hc => ?_) (fun hc => ?_)
    · have h := cond_t h hc
      refine Wp.rg [] [] ?_
      refine Runs.batch 3 kr ?_
      obtain ⟨r7, e_r7, h⟩ := bind_some h
      refine Runs.callK false 24 15 [] [.t (.int .i64 p0.fS)] _ _ _ rfl rfl kr kr kr kr kr (impl_NumText_ok u p0.fS r7 e_r7) kr ?_
      obtain ⟨_, e_8, h⟩ := bind_some h
      refine Runs.cat ((ByteArray.mk #[32])) r7 rfl kr kr kr kr (of_decide_eq_true (chk_some e_8)) ?_
      obtain ⟨_, e_9, h⟩ := bind_some h
      refine Runs.cat ((y3 ++ ((ByteArray.mk #[32]))) ++ r5) (((ByteArray.mk #[32])) ++ r7) rfl kr kr kr kr (of_decide_eq_true (chk_some e_9)) ?_
      refine Runs.alln ?_
      exact ⟨(((y3 ++ ((ByteArray.mk #[32]))) ++ r5) ++ (((ByteArray.mk #[32])) ++ r7)), h, Le.of (mo := []) (mr := []) kr kr kr kr⟩
    have h := cond_f h hc
    refine Wp.skip (thenN ?_)
    exact ⟨((y3 ++ ((ByteArray.mk #[32]))) ++ r5), h, Le.of (mo := []) (mr := []) kr kr kr kr⟩
theorem laws_eqByteS_ok (u : Nat) (p0 : List Int) (p1 : List Int) (r : Bool) (h : laws_eqByteS u p0 p1 = some r) : CallOK Tryd.prog 20 [.one (.t (.sl 1 (p0.map (eInt .u8)))), .one (.t (.sl 1 (p1.map (eInt .u8))))] (.one (.t (.bool r))) [] := by
  unfold laws_eqByteS at h
  refine CallOK.of_bodyK (fn := Tryd.f20) (m := false) [.t (.sl 1 (p0.map (eInt .u8))), .t (.sl 1 (p1.map (eInt .u8)))] kr rfl kr kr kr kr kr ?_
  refine Wp.srg [] [] ?_
  refine Runs.alln ?_
  refine Wp.fg ⟨[(0, .t (.sl 1 (p0.map (eInt .u8)))), (1, .t (.sl 1 (p1.map (eInt .u8)))), (4, .t (.bool false))], [], []⟩ ?_
  refine Wp.seq ?_
  refine Wp.srg [] [] ?_
  refine Runs.batch 1 kr ?_
  refine Runs.lenT (y := .t (.sl 1 (p0.map (eInt .u8)))) (e := 5) (eInt .u8) p0 1 rfl rfl rfl kr kr kr kr kr ?_
  refine Runs.batch 1 kr ?_
  refine Runs.lenT (y := .t (.sl 1 (p1.map (eInt .u8)))) (e := 5) (eInt .u8) p1 1 rfl rfl rfl kr kr kr kr kr ?_
  refine Runs.alln ?_
  refine Wp.fg ⟨[(0, .t (.sl 1 (p0.map (eInt .u8)))), (1, .t (.sl 1 (p1.map (eInt .u8)))), (4, .t (.bool false)), (10, .t (.bool (((p0.length : Int)) != ((p1.length : Int)))))], [], []⟩ ?_
  refine Wp.cond2 (b := ((p0.length : Int)) != ((p1.length : Int))) kr (fun hc => ?_) (fun hc => ?_)
  · have h := cond_t h hc
    refine Wp.srg [] [] ?_
    refine Runs.alln ?_
    refine Wp.fg ⟨[(0, .t (.sl 1 (p0.map (eInt .u8)))), (1, .t (.sl 1 (p1.map (eInt .u8)))), (4, .t (.bool false))], [], []⟩ ?_
    refine Wp.ret ?_
    refine thenR ?_
    obtain rfl := Option.some.inj h
    exact RetK [.t (.bool false)] _ [] kr kr (.refl _) .nil
  have h := cond_f h hc
  refine Wp.skip (thenN ?_)
  refine Wp.seqJ (α := Unit) (fun a => ⟨[(4, .t (.bool false))], [], []⟩) (fun a => laws_eqByteS_j1 u = some r) ?_ ?_
  · rintro ⟨⟩ h
    change laws_eqByteS_j1 u = some r at h
    unfold laws_eqByteS_j1 at h
    refine Wp.srg [] [] ?_
    refine Runs.alln ?_
    refine Wp.fg ⟨[(4, .t (.bool true))], [], []⟩ ?_
    refine Wp.ret ?_
    obtain rfl := Option.some.inj h
    exact RetK [.t (.bool true)] _ [] kr kr (.refl _) .nil
  · refine Wp.srg [] [] ?_
    refine Runs.alln ?_
    refine Wp.fg ⟨[(0, .t (.sl 1 (p0.map (eInt .u8)))), (1, .t (.sl 1 (p1.map (eInt .u8)))), (4, .t (.bool false)), (5, .t (.int .i64 0))], [], []⟩ ?_
    refine Wp.block ?_
    refine Wp.loopF (α := (List Int) × (List Int) × Int) (fun a => ⟨[(0, .t (.sl 1 (a.1.map (eInt .u8)))), (1, .t (.sl 1 (a.2.1.map (eInt .u8)))), (4, .t (.bool false)), (5, .t (.int .i64 a.2.2))], [], []⟩) (fun k_laws_eqByteS_l2 a => laws_eqByteS_l2 u k_laws_eqByteS_l2 a.1 a.2.1 a.2.2 = some r) ?_ ?_ u (p0, p1, 0) h (Le.of (mo := []) (mr := []) kr kr kr kr)
    · intro a h; unfold laws_eqByteS_l2 at h; cases h
    · rintro k_laws_eqByteS_l2 ⟨p0, p1, x2⟩ h
      change laws_eqByteS_l2 u (k_laws_eqByteS_l2 + 1) p0 p1 x2 = some r at h
      rw [laws_eqByteS_l2] at h
      refine Wp.seq ?_
      refine Wp.srg [] [] ?_
      refine Runs.batch 2 kr ?_
      refine Runs.lenT (y := .t (.sl 1 (p0.map (eInt .u8)))) (e := 5) (eInt .u8) p0 1 rfl rfl rfl kr kr kr kr kr ?_
      refine Runs.alln ?_
      refine Wp.fg ⟨[(0, .t (.sl 1 (p0.map (eInt .u8)))), (1, .t (.sl 1 (p1.map (eInt .u8)))), (4, .t (.bool false)), (5, .t (.int .i64 x2)), (14, .t (.bool (decide (x2 < ((p0.length : Int))))))], [], []⟩ ?_
      refine Wp.cond2 (b := decide (x2 < ((p0.length : Int)))) kr (fun hc => ?_) (fun hc => ?_)
      · have h := cond_t h hc
        refine Wp.skip (thenN ?_)
        refine Wp.seq ?_
        refine Wp.block ?_
        refine Wp.seq ?_
        refine Wp.regionA (pOf []) (rhoOf [(0, .frz), (1, .frz), (5, .frz), (17, .frz), (18, .frz), (19, .frz), (20, .frz), (21, .frz), (22, .frz), (23, .frz), (24, .frz)]) kr kr ?_
        refine Runs.batch 2 kr ?_
        obtain ⟨y4, e_y4, h⟩ := bind_some h
        refine Runs.idxT (e := 5) (kk := .i64) (sz := 1) (eInt .u8) p0 x2 rfl kr kr kr kr kr kr e_y4 ?_
        refine Runs.batch 3 kr ?_
        obtain ⟨y5, e_y5, h⟩ := bind_some h
        refine Runs.idxT (e := 5) (kk := .i64) (sz := 1) (eInt .u8) p1 x2 rfl kr kr kr kr kr kr e_y5 ?_
        refine Runs.alln ?_
        refine Wp.fg ⟨[(0, .t (.sl 1 (p0.map (eInt .u8)))), (1, .t (.sl 1 (p1.map (eInt .u8)))), (4, .t (.bool false)), (5, .t (.int .i64 x2)), (25, .t (.bool (y4 != y5)))], [], []⟩ ?_
        refine Wp.cond2 (b := y4 != y5) kr (fun hc => ?_) (fun hc => ?_)
        · have h := cond_t h hc
          refine Wp.srg [] [] ?_
          refine Runs.alln ?_
          refine Wp.fg ⟨[(0, .t (.sl 1 (p0.map (eInt .u8)))), (1, .t (.sl 1 (p1.map (eInt .u8)))), (4, .t (.bool false)), (5, .t (.int .i64 x2))], [], []⟩ ?_
          refine Wp.ret ?_
          refine blkR ?_
          refine thenR ?_
          refine thenR ?_
          refine blkR ?_
          refine thenR ?_
          obtain rfl := Option.some.inj h
          exact RetK [.t (.bool false)] _ [] kr kr (.refl _) .nil
        have h := cond_f h hc
        refine Wp.skip ?_
        refine blkN ?_
        refine thenN ?_
        refine Wp.rg [] [] ?_
        refine Runs.alln ?_
        exact ⟨(p0, p1, bAdd .i64 x2 1), h, Le.of (mo := []) (mr := []) kr kr kr kr⟩
      have h := cond_f h hc
      refine Wp.exit ?_
      refine thenE ?_
      refine thenE ?_
      refine blkE ?_
      refine thenN ?_
      exact ⟨(), h, Le.of (mo := []) (mr := []) kr kr kr kr⟩
theorem laws_eqPacket_ok (u : Nat) (p0 : Packet) (p1 : Packet) (r : Bool) (h : laws_eqPacket u p0 p1 = some r) : CallOK Tryd.prog 16 [.agg [.t (.int .i64 p0.fFrom), .t (.int .i64 p0.fTo), .t (.sl 1 (p0.fB.map (eInt .u8)))], .agg [.t (.int .i64 p1.fFrom), .t (.int .i64 p1.fTo), .t (.sl 1 (p1.fB.map (eInt .u8)))]] (.one (.t (.bool r))) [] := by
  unfold laws_eqPacket at h
  refine CallOK.of_bodyK (fn := Tryd.f16) (m := false) [.agg ((Packet.enc p0).map .t), .agg ((Packet.enc p1).map .t)] kr rfl kr kr kr kr kr ?_
  refine Wp.srg [] [] ?_
  refine Runs.alln ?_
  refine Wp.fg ⟨[(2, .obj 2 0), (3, .obj 3 0), (4, .t (.bool false))], [(2, ((Packet.enc p0).map .t)), (3, ((Packet.enc p1).map .t))], []⟩ ?_
  refine Wp.seq ?_
  refine Wp.srg [] [] ?_
  refine Runs.alln ?_
  refine Wp.fg ⟨[(2, .obj 2 0), (3, .obj 3 0), (4, .t (.bool false)), (9, .t (.bool (p0.fFrom != p1.fFrom)))], [(2, ((Packet.enc p0).map .t)), (3, ((Packet.enc p1).map .t))], []⟩ ?_
  refine Wp.cond2 (b := p0.fFrom != p1.fFrom) kr (fun hc => ?_) (fun hc => ?_)
  · have h := cond_t h hc
    refine Wp.srg [] [] ?_
    refine Runs.alln ?_
    refine Wp.fg ⟨[(2, .obj 2 0), (3, .obj 3 0), (4, .t (.bool false))], [(2, ((Packet.enc p0).map .t)), (3, ((Packet.enc p1).map .t))], []⟩ ?_
    refine Wp.ret ?_
    refine thenR ?_
    obtain rfl := Option.some.inj h
    exact RetK [.t (.bool false)] _ [] kr kr (.refl _) .nil
  have h := cond_f h hc
  refine Wp.skip (thenN ?_)
  refine Wp.seq ?_
  refine Wp.srg [] [] ?_
  refine Runs.alln ?_
  refine Wp.fg ⟨[(2, .obj 2 0), (3, .obj 3 0), (4, .t (.bool false)), (14, .t (.bool (p0.fTo != p1.fTo)))], [(2, ((Packet.enc p0).map .t)), (3, ((Packet.enc p1).map .t))], []⟩ ?_
  refine Wp.cond2 (b := p0.fTo != p1.fTo) kr (fun hc => ?_) (fun hc => ?_)
  · have h := cond_t h hc
    refine Wp.srg [] [] ?_
    refine Runs.alln ?_
    refine Wp.fg ⟨[(2, .obj 2 0), (3, .obj 3 0), (4, .t (.bool false))], [(2, ((Packet.enc p0).map .t)), (3, ((Packet.enc p1).map .t))], []⟩ ?_
    refine Wp.ret ?_
    refine thenR ?_
    obtain rfl := Option.some.inj h
    exact RetK [.t (.bool false)] _ [] kr kr (.refl _) .nil
  have h := cond_f h hc
  refine Wp.skip (thenN ?_)
  refine Wp.seq ?_
  refine Wp.srg [] [] ?_
  refine Runs.batch 4 kr ?_
  obtain ⟨r1, e_r1, h⟩ := bind_some h
  refine Runs.callK false 19 20 [] [.t (.sl 1 (p0.fB.map (eInt .u8))), .t (.sl 1 (p1.fB.map (eInt .u8)))] _ _ _ rfl rfl kr kr kr kr kr (laws_eqByteS_ok u p0.fB p1.fB r1 e_r1) kr ?_
  refine Runs.alln ?_
  refine Wp.fg ⟨[(4, .t (.bool false)), (20, .t (.bool (!r1)))], [], []⟩ ?_
  refine Wp.cond2 (b := !r1) kr (fun hc => ?_) (fun hc => ?_)
  · have h := cond_t h hc
    refine Wp.srg [] [] ?_
    refine Runs.alln ?_
    refine Wp.fg ⟨[(4, .t (.bool false))], [], []⟩ ?_
    refine Wp.ret ?_
    refine thenR ?_
    obtain rfl := Option.some.inj h
    exact RetK [.t (.bool false)] _ [] kr kr (.refl _) .nil
  have h := cond_f h hc
  refine Wp.skip (thenN ?_)
  refine Wp.srg [] [] ?_
  refine Runs.alln ?_
  refine Wp.fg ⟨[(4, .t (.bool true))], [], []⟩ ?_
  refine Wp.ret ?_
  obtain rfl := Option.some.inj h
  exact RetK [.t (.bool true)] _ [] kr kr (.refl _) .nil
theorem laws_eqEvent_ok (u : Nat) (p0 : Event) (p1 : Event) (r : Bool) (h : laws_eqEvent u p0 p1 = some r) : CallOK Tryd.prog 8 [.agg [.t (.int .i64 p0.fKind), .t (.int .i64 p0.fN), .t (.int .i64 p0.fS), .t (.int .i64 p0.fP.fFrom), .t (.int .i64 p0.fP.fTo), .t (.sl 1 (p0.fP.fB.map (eInt .u8)))], .agg [.t (.int .i64 p1.fKind), .t (.int .i64 p1.fN), .t (.int .i64 p1.fS), .t (.int .i64 p1.fP.fFrom), .t (.int .i64 p1.fP.fTo), .t (.sl 1 (p1.fP.fB.map (eInt .u8)))]] (.one (.t (.bool r))) [] := by
  unfold laws_eqEvent at h
  refine CallOK.of_bodyK (fn := Tryd.f8) (m := false) [.agg ((Event.enc p0).map .t), .agg ((Event.enc p1).map .t)] kr rfl kr kr kr kr kr ?_
  refine Wp.srg [] [] ?_
  refine Runs.alln ?_
  refine Wp.fg ⟨[(2, .obj 2 0), (3, .obj 3 0), (4, .t (.bool false))], [(2, ((Event.enc p0).map .t)), (3, ((Event.enc p1).map .t))], []⟩ ?_
  refine Wp.seq ?_
  refine Wp.srg [] [] ?_
  refine Runs.alln ?_
  refine Wp.fg ⟨[(2, .obj 2 0), (3, .obj 3 0), (4, .t (.bool false)), (9, .t (.bool (p0.fKind != p1.fKind)))], [(2, ((Event.enc p0).map .t)), (3, ((Event.enc p1).map .t))], []⟩ ?_
  refine Wp.cond2 (b := p0.fKind != p1.fKind) kr (fun hc => ?_) (fun hc => ?_)
  · have h := cond_t h hc
    refine Wp.srg [] [] ?_
    refine Runs.alln ?_
    refine Wp.fg ⟨[(2, .obj 2 0), (3, .obj 3 0), (4, .t (.bool false))], [(2, ((Event.enc p0).map .t)), (3, ((Event.enc p1).map .t))], []⟩ ?_
    refine Wp.ret ?_
    refine thenR ?_
    obtain rfl := Option.some.inj h
    exact RetK [.t (.bool false)] _ [] kr kr (.refl _) .nil
  have h := cond_f h hc
  refine Wp.skip (thenN ?_)
  refine Wp.seq ?_
  refine Wp.srg [] [] ?_
  refine Runs.alln ?_
  refine Wp.fg ⟨[(2, .obj 2 0), (3, .obj 3 0), (4, .t (.bool false)), (14, .t (.bool (p0.fN != p1.fN)))], [(2, ((Event.enc p0).map .t)), (3, ((Event.enc p1).map .t))], []⟩ ?_
  refine Wp.cond2 (b := p0.fN != p1.fN) kr (fun hc => ?_) (fun hc => ?_)
  · have h := cond_t h hc
    refine Wp.srg [] [] ?_
    refine Runs.alln ?_
    refine Wp.fg ⟨[(2, .obj 2 0), (3, .obj 3 0), (4, .t (.bool false))], [(2, ((Event.enc p0).map .t)), (3, ((Event.enc p1).map .t))], []⟩ ?_
    refine Wp.ret ?_
    refine thenR ?_
    obtain rfl := Option.some.inj h
    exact RetK [.t (.bool false)] _ [] kr kr (.refl _) .nil
  have h := cond_f h hc
  refine Wp.skip (thenN ?_)
  refine Wp.seq ?_
  refine Wp.srg [] [] ?_
  refine Runs.alln ?_
  refine Wp.fg ⟨[(2, .obj 2 0), (3, .obj 3 0), (4, .t (.bool false)), (19, .t (.bool (p0.fS != p1.fS)))], [(2, ((Event.enc p0).map .t)), (3, ((Event.enc p1).map .t))], []⟩ ?_
  refine Wp.cond2 (b := p0.fS != p1.fS) kr (fun hc => ?_) (fun hc => ?_)
  · have h := cond_t h hc
    refine Wp.srg [] [] ?_
    refine Runs.alln ?_
    refine Wp.fg ⟨[(2, .obj 2 0), (3, .obj 3 0), (4, .t (.bool false))], [(2, ((Event.enc p0).map .t)), (3, ((Event.enc p1).map .t))], []⟩ ?_
    refine Wp.ret ?_
    refine thenR ?_
    obtain rfl := Option.some.inj h
    exact RetK [.t (.bool false)] _ [] kr kr (.refl _) .nil
  have h := cond_f h hc
  refine Wp.skip (thenN ?_)
  refine Wp.seq ?_
  refine Wp.srg [] [] ?_
  refine Runs.batch 4 kr ?_
  obtain ⟨r1, e_r1, h⟩ := bind_some h
  refine Runs.callK false 24 16 [] [.agg ((Packet.enc p0.fP).map .t), .agg ((Packet.enc p1.fP).map .t)] _ _ _ rfl rfl kr kr kr kr kr (laws_eqPacket_ok u p0.fP p1.fP r1 e_r1) kr ?_
  refine Runs.alln ?_
  refine Wp.fg ⟨[(4, .t (.bool false)), (25, .t (.bool (!r1)))], [], []⟩ ?_
  refine Wp.cond2 (b := !r1) kr (fun hc => ?_) (fun hc => ?_)
  · have h := cond_t h hc
    refine Wp.srg [] [] ?_
    refine Runs.alln ?_
    refine Wp.fg ⟨[(4, .t (.bool false))], [], []⟩ ?_
    refine Wp.ret ?_
    refine thenR ?_
    obtain rfl := Option.some.inj h
    exact RetK [.t (.bool false)] _ [] kr kr (.refl _) .nil
  have h := cond_f h hc
  refine Wp.skip (thenN ?_)
  refine Wp.srg [] [] ?_
  refine Runs.alln ?_
  refine Wp.fg ⟨[(4, .t (.bool true))], [], []⟩ ?_
  refine Wp.ret ?_
  obtain rfl := Option.some.inj h
  exact RetK [.t (.bool true)] _ [] kr kr (.refl _) .nil
theorem laws_FnExactEventText_ok (u : Nat) (p0 : Event) (r : Bool) (h : laws_FnExactEventText u p0 = some r) : CallOK Tryd.prog 3 [.agg [.t (.int .i64 p0.fKind), .t (.int .i64 p0.fN), .t (.int .i64 p0.fS), .t (.int .i64 p0.fP.fFrom), .t (.int .i64 p0.fP.fTo), .t (.sl 1 (p0.fP.fB.map (eInt .u8)))]] (.one (.t (.bool r))) [] := by
  unfold laws_FnExactEventText at h
  refine CallOK.of_bodyK (fn := Tryd.f3) (m := false) [.agg ((Event.enc p0).map .t)] kr rfl kr kr kr kr kr ?_
  refine Wp.srg [] [] ?_
  refine Runs.alln ?_
  refine Wp.fg ⟨[(1, .obj 1 0), (2, .t (.bool false))], [(1, ((Event.enc p0).map .t))], []⟩ ?_
  refine Wp.srg [] [] ?_
  refine Runs.alln ?_
  refine Wp.fg ⟨[(1, .obj 1 0), (2, .t (.bool false)), (3, .t (.int .i64 1048576))], [(1, ((Event.enc p0).map .t))], []⟩ ?_
  refine Wp.srg [] [] ?_
  refine Runs.batch 2 kr ?_
  obtain ⟨r1, e_r1, h⟩ := bind_some h
  refine Runs.callK false 9 4 [] [.agg ((Event.enc p0).map .t), .t (.int .i64 1048576)] _ _ _ rfl rfl kr kr kr kr kr (laws_szEvent_ok u p0 1048576 r1 e_r1) kr ?_
  refine Runs.alln ?_
  refine Wp.fg ⟨[(1, .obj 1 0), (2, .t (.bool false)), (3, .t (.int .i64 r1))], [(1, ((Event.enc p0).map .t))], []⟩ ?_
  refine Wp.seq ?_
  refine Wp.srg [] [] ?_
  refine Runs.alln ?_
  refine Wp.fg ⟨[(1, .obj 1 0), (2, .t (.bool false)), (11, .t (.bool (decide (r1 < 0))))], [(1, ((Event.enc p0).map .t))], []⟩ ?_
  refine Wp.cond2 (b := decide (r1 < 0)) kr (fun hc => ?_) (fun hc => ?_)
  · have h := cond_t h hc
    refine Wp.srg [] [] ?_
    refine Runs.alln ?_
    refine Wp.fg ⟨[(1, .obj 1 0), (2, .t (.bool true))], [(1, ((Event.enc p0).map .t))], []⟩ ?_
    refine Wp.ret ?_
    refine thenR ?_
    obtain rfl := Option.some.inj h
    exact RetK [.t (.bool true)] _ [] kr kr (.refl _) .nil
  have h := cond_f h hc
  refine Wp.skip (thenN ?_)
  refine Wp.srg [] [] ?_
  refine Runs.batch 1 kr ?_
  obtain ⟨r2, e_r2, h⟩ := bind_some h
  refine Runs.callK false 13 6 [] [.agg ((Event.enc p0).map .t)] _ _ _ rfl rfl kr kr kr kr kr (laws_toEvent_ok u p0 r2 e_r2) kr ?_
  obtain ⟨r3, e_r3, h⟩ := bind_some h
  refine Runs.callBK 14 5 [] [.agg [.t (.int .i64 r2.fKind), .t (.int .i64 r2.fN), .t (.int .i64 r2.fS), .t (.int .i64 r2.fP.fFrom), .t (.int .i64 r2.fP.fTo), .own 851973]] [.agg ((Event.enc r2).map .t)] (.one (.t (.str r3))) rfl rfl kr kr kr kr kr (spec_EventText_ok u r2 r3 e_r3) (by simp [V.plain, V.plains, C.plain, T.sc]) kr ?_
  refine Runs.alln ?_
  refine Wp.fg ⟨[(1, .obj 1 0), (2, .t (.bool false)), (4, .t (.str r3))], [(1, ((Event.enc p0).map .t))], []⟩ ?_
  refine Wp.srg [] [] ?_
  refine Runs.batch 1 kr ?_
  obtain ⟨r4, e_r4, h⟩ := bind_some h
  refine Runs.callK false 16 6 [] [.agg ((Event.enc p0).map .t)] _ _ _ rfl rfl kr kr kr kr kr (laws_toEvent_ok u p0 r4 e_r4) kr ?_
  refine Runs.alln ?_
  refine Wp.fg ⟨[(1, .obj 1 0), (2, .t (.bool false)), (4, .t (.str r3)), (5, .obj 5 0)], [(1, ((Event.enc p0).map .t)), (5, [.t (.int .i64 r4.fKind), .t (.int .i64 r4.fN), .t (.int .i64 r4.fS), .t (.int .i64 r4.fP.fFrom), .t (.int .i64 r4.fP.fTo), .own 1048581])], [(1048581, .live 5 1 (r4.fP.fB.map (eInt .u8)))]⟩ ?_
  refine Wp.srg [] [] ?_
  refine Runs.batch 1 kr ?_
  obtain ⟨r5, e_r5, h⟩ := bind_some h
  refine Runs.callBK 18 7 [] [.agg [.t (.int .i64 r4.fKind), .t (.int .i64 r4.fN), .t (.int .i64 r4.fS), .t (.int .i64 r4.fP.fFrom), .t (.int .i64 r4.fP.fTo), .own 1048581]] [.agg ((Event.enc r4).map .t)] (.one (.t (.str r5))) rfl rfl kr kr kr kr kr (impl_EventText_ok u r4 r5 e_r5) (by simp [V.plain, V.plains, C.plain, T.sc]) kr ?_
  refine Runs.alln ?_
  refine Wp.fg ⟨[(1, .obj 1 0), (2, .t (.bool false)), (4, .t (.str r3)), (5, .obj 5 0), (6, .t (.str r5))], [(1, ((Event.enc p0).map .t)), (5, [.t (.int .i64 r4.fKind), .t (.int .i64 r4.fN), .t (.int .i64 r4.fS), .t (.int .i64 r4.fP.fFrom), .t (.int .i64 r4.fP.fTo), .own 1048581])], [(1048581, .live 5 1 (r4.fP.fB.map (eInt .u8)))]⟩ ?_
  refine Wp.seq ?_
  refine Wp.srg [] [] ?_
  refine Runs.alln ?_
  refine Wp.fg ⟨[(1, .obj 1 0), (2, .t (.bool false)), (5, .obj 5 0), (21, .t (.bool (!(r5.toList == r3.toList))))], [(1, ((Event.enc p0).map .t)), (5, [.t (.int .i64 r4.fKind), .t (.int .i64 r4.fN), .t (.int .i64 r4.fS), .t (.int .i64 r4.fP.fFrom), .t (.int .i64 r4.fP.fTo), .own 1048581])], [(1048581, .live 5 1 (r4.fP.fB.map (eInt .u8)))]⟩ ?_
  refine Wp.cond2 (b := !(r5.toList == r3.toList)) kr (fun hc => ?_) (fun hc => ?_)
  · have h := cond_t h hc
    refine Wp.srg [] [] ?_
    refine Runs.alln ?_
    refine Wp.fg ⟨[(1, .obj 1 0), (2, .t (.bool false)), (5, .obj 5 0)], [(1, ((Event.enc p0).map .t)), (5, [.t (.int .i64 r4.fKind), .t (.int .i64 r4.fN), .t (.int .i64 r4.fS), .t (.int .i64 r4.fP.fFrom), .t (.int .i64 r4.fP.fTo), .own 1048581])], [(1048581, .live 5 1 (r4.fP.fB.map (eInt .u8)))]⟩ ?_
    refine Wp.ret ?_
    refine thenR ?_
    obtain rfl := Option.some.inj h
    exact RetK [.t (.bool false)] _ [] kr kr (.refl _) .nil
  have h := cond_f h hc
  refine Wp.skip (thenN ?_)
  refine Wp.seq ?_
  refine Wp.seq ?_
  refine Wp.le (Le.trans (Le.frzO 5 5 1048581 5 1 [.t (.int .i64 r4.fKind), .t (.int .i64 r4.fN), .t (.int .i64 r4.fS), .t (.int .i64 r4.fP.fFrom), .t (.int .i64 r4.fP.fTo), .own 1048581] (r4.fP.fB.map (eInt .u8)) kr kr kr) (Le.of (s := ⟨[(1, .obj 1 0), (2, .t (.bool false)), (5, .obj 5 0)], [(1, ((Event.enc p0).map .t)), (5, ((Event.enc r4).map .t))], []⟩) (mo := []) (mr := []) kr kr kr kr)) ?_
  refine Wp.regionA (pOf []) (rhoOf [(1, .obj 1), (5, .obj 5), (22, .frz), (23, .frz), (25, .frz)]) kr kr ?_
  refine Runs.batch 2 kr ?_
  obtain ⟨r6, e_r6, h⟩ := bind_some h
  refine Runs.callK false 24 6 [] [.agg ((Event.enc p0).map .t)] _ _ _ rfl rfl kr kr kr kr kr (laws_toEvent_ok u p0 r6 e_r6) kr ?_
  obtain ⟨r7, e_r7, h⟩ := bind_some h
  refine Runs.callBK 25 8 [] [.agg ((Event.enc r4).map .t), .agg [.t (.int .i64 r6.fKind), .t (.int .i64 r6.fN), .t (.int .i64 r6.fS), .t (.int .i64 r6.fP.fFrom), .t (.int .i64 r6.fP.fTo), .own 1572869]] [.agg ((Event.enc r4).map .t), .agg ((Event.enc r6).map .t)] (.one (.t (.bool r7))) rfl rfl kr kr kr kr kr (laws_eqEvent_ok u r4 r6 r7 e_r7) (by simp [V.plain, V.plains, C.plain, T.sc]) kr ?_
  refine Runs.alln ?_
  refine Wp.fg ⟨[(2, .t (.bool false)), (26, .t (.bool (!r7)))], [], []⟩ ?_
  refine Wp.cond2 (b := !r7) kr (fun hc => ?_) (fun hc => ?_)
  · have h := cond_t h hc
    refine Wp.srg [] [] ?_
    refine Runs.alln ?_
    refine Wp.fg ⟨[(2, .t (.bool false))], [], []⟩ ?_
    refine Wp.ret ?_
    refine thenR ?_
    obtain rfl := Option.some.inj h
    exact RetK [.t (.bool false)] _ [] kr kr (.refl _) .nil
  have h := cond_f h hc
  refine Wp.skip (thenN ?_)
  refine Wp.srg [] [] ?_
  refine Runs.alln ?_
  refine Wp.fg ⟨[(2, .t (.bool true))], [], []⟩ ?_
  refine Wp.ret ?_
  obtain rfl := Option.some.inj h
  exact RetK [.t (.bool true)] _ [] kr kr (.refl _) .nil
end Go.Tm
