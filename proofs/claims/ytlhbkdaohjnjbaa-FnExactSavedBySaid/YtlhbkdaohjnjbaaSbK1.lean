/- The functions as they are translated do what the pure functions say (printed). -/
import Derived.Test.YtlhbkdaohjnjbaaSbD
import Derived.Test.YtlhbkdaohjnjbaaProg
set_option maxRecDepth 100000
set_option linter.unusedVariables false
set_option linter.unusedSimpArgs false
namespace Go.Tm
open Go.Proofs
theorem laws_toByteS_ok (u : Nat) (p0 : List Int) (r : (List Int)) (h : laws_toByteS u p0 = some r) : CallOK Try.prog 14 [.one (.t (.sl 1 (p0.map (eInt .u8))))] (.one (.ow 5 1 (r.map (eInt .u8)))) [] := by
  unfold laws_toByteS at h
  refine CallOK.of_bodyK (fn := Try.f14) (m := true) [.t (.sl 1 (p0.map (eInt .u8)))] (by kernel_rfl) rfl (by kernel_rfl) (by kernel_rfl) (by kernel_rfl) (by kernel_rfl) (by kernel_rfl) ?_
  refine Wp.seq ?_
  refine Wp.regionS (pOf []) (rhoOf []) (by kernel_rfl) ?_
  refine Runs.all (by kernel_rfl) ?_
  refine thenN ?_
  refine Wp.le (Le.of (s := ⟨[(0, .t (.sl 1 (p0.map (eInt .u8)))), (2, .nil)], [], []⟩) (mo := []) (mr := []) (by kernel_rfl) (by kernel_rfl) (by kernel_rfl) (by kernel_rfl)) ?_
  refine Wp.seq ?_
  refine Wp.regionS (pOf []) (rhoOf []) (by kernel_rfl) ?_
  refine Runs.batch 1 (by kernel_rfl) ?_
  refine Runs.lenT (y := .t (.sl 1 (p0.map (eInt .u8)))) (e := 5) (eInt .u8) p0 1 rfl rfl rfl (by kernel_rfl) (by kernel_rfl) (by kernel_rfl) (by kernel_rfl) (by kernel_rfl) ?_
  obtain ⟨_, e_1, h⟩ := bind_some h
  obtain ⟨_, e_2, h⟩ := bind_some h
  refine Runs.mkS (eInt .u8) (0 : Int) 7 5 1 1 ((p0.length : Int)) ((p0.length : Int)) rfl rfl (by kernel_rfl) (by kernel_rfl) (by kernel_rfl) (by kernel_rfl) (by kernel_rfl) (by kernel_rfl) (chk_some e_1) (of_decide_eq_true (chk_some e_2)) (by kernel_rfl) ?_
  refine Runs.all (by kernel_rfl) ?_
  refine thenN ?_
  refine Wp.le (Le.of (s := ⟨[(0, .t (.sl 1 (p0.map (eInt .u8)))), (2, .nil), (3, .own 458752)], [], [(458752, .live 5 1 ((List.replicate (Int.toNat ((p0.length : Int))) (0 : Int)).map (eInt .u8)))]⟩) (mo := []) (mr := []) (by kernel_rfl) (by kernel_rfl) (by kernel_rfl) (by kernel_rfl)) ?_
  refine Wp.seqJ (α := (List Int)) (fun a => ⟨[(2, .nil), (3, .own 196609)], [], [(196609, .live 5 1 (a.map (eInt .u8)))]⟩) (fun a => laws_toByteS_j1 u a = some r) ?_ ?_
  · rintro x2003 h
    change laws_toByteS_j1 u x2003 = some r at h
    unfold laws_toByteS_j1 at h
    refine Wp.seq ?_
    refine Wp.regionS (pOf []) (rhoOf []) (by kernel_rfl) ?_
    refine Runs.all (by kernel_rfl) ?_
    refine thenN ?_
    refine Wp.le (Le.of (s := ⟨[(2, .own 196609)], [], [(196609, .live 5 1 (x2003.map (eInt .u8)))]⟩) (mo := []) (mr := []) (by kernel_rfl) (by kernel_rfl) (by kernel_rfl) (by kernel_rfl)) ?_
    refine Wp.ret ?_
    have hr := Option.some.inj h
    subst hr
    exact RetK [.own 196609] (.one (.ow 5 1 (x2003.map (eInt .u8)))) [] (by kernel_rfl) (by kernel_rfl) (.refl _) .nil
  · refine Wp.seq ?_
    refine Wp.regionS (pOf []) (rhoOf []) (by kernel_rfl) ?_
    refine Runs.all (by kernel_rfl) ?_
    refine thenN ?_
    refine Wp.le (Le.of (s := ⟨[(0, .t (.sl 1 (p0.map (eInt .u8)))), (2, .nil), (3, .own 458752), (4, .t (.int .i64 0))], [], [(458752, .live 5 1 ((List.replicate (Int.toNat ((p0.length : Int))) (0 : Int)).map (eInt .u8)))]⟩) (mo := []) (mr := []) (by kernel_rfl) (by kernel_rfl) (by kernel_rfl) (by kernel_rfl)) ?_
    refine Wp.block ?_
    refine Wp.loopF (α := (List Int) × (List Int) × Int) (fun a => ⟨[(0, .t (.sl 1 (a.1.map (eInt .u8)))), (2, .nil), (3, .own 196609), (4, .t (.int .i64 a.2.2))], [], [(196609, .live 5 1 (a.2.1.map (eInt .u8)))]⟩) (fun k_laws_toByteS_l2 a => laws_toByteS_l2 u k_laws_toByteS_l2 a.1 a.2.1 a.2.2 = some r) ?_ ?_ u (p0, List.replicate (Int.toNat ((p0.length : Int))) (0 : Int), 0) h (Le.of (mo := []) (mr := [(196609, 458752)]) (by kernel_rfl) (by kernel_rfl) (by kernel_rfl) (by kernel_rfl))
    · intro a h; unfold laws_toByteS_l2 at h; cases h
    · rintro k_laws_toByteS_l2 ⟨p0, x5, x6⟩ h
      change laws_toByteS_l2 u (k_laws_toByteS_l2 + 1) p0 x5 x6 = some r at h
      rw [laws_toByteS_l2] at h
      refine Wp.seq ?_
      refine Wp.seq ?_
      refine Wp.regionS (pOf []) (rhoOf []) (by kernel_rfl) ?_
      refine Runs.batch 2 (by kernel_rfl) ?_
      refine Runs.lenT (y := .t (.sl 1 (p0.map (eInt .u8)))) (e := 5) (eInt .u8) p0 1 rfl rfl rfl (by kernel_rfl) (by kernel_rfl) (by kernel_rfl) (by kernel_rfl) (by kernel_rfl) ?_
      refine Runs.all (by kernel_rfl) ?_
      refine thenN ?_
      refine Wp.le (Le.of (s := ⟨[(0, .t (.sl 1 (p0.map (eInt .u8)))), (2, .nil), (3, .own 196609), (4, .t (.int .i64 x6)), (8, .t (.int .i64 x6)), (9, .t (.sl 1 (p0.map (eInt .u8)))), (10, .t (.int .i64 ((p0.length : Int)))), (11, .t (.bool (decide (x6 < ((p0.length : Int))))))], [], [(196609, .live 5 1 (x5.map (eInt .u8)))]⟩) (mo := []) (mr := []) (by kernel_rfl) (by kernel_rfl) (by kernel_rfl) (by kernel_rfl)) ?_
      refine Wp.cond2 (b := decide (x6 < ((p0.length : Int)))) (by kernel_rfl) (fun hc => ?_) (fun hc => ?_)
      · have h := cond_t h hc
        refine Wp.skip ?_
        refine thenN ?_
        refine Wp.seq ?_
        refine Wp.block ?_
        refine Wp.regionS (pOf []) (rhoOf []) (by kernel_rfl) ?_
        refine Runs.batch 4 (by kernel_rfl) ?_
        obtain ⟨y9, e_y9, h⟩ := bind_some h
        refine Runs.idxT (e := 5) (kk := .i64) (sz := 1) (eInt .u8) p0 x6 rfl (by kernel_rfl) (by kernel_rfl) (by kernel_rfl) (by kernel_rfl) (by kernel_rfl) (by kernel_rfl) e_y9 ?_
        refine Runs.batch 1 (by kernel_rfl) ?_
        obtain ⟨y10, e_y10, h⟩ := bind_some h
        refine Runs.idxO (e := 5) (e' := 5) (kk := .i64) (sz := 1) (eInt .u8) x5 x6 196609 rfl (by kernel_rfl) (by kernel_rfl) (by kernel_rfl) (by kernel_rfl) (by kernel_rfl) (by kernel_rfl) (by kernel_rfl) e_y10 ?_
        refine Runs.storeT (e := 5) (sz := 1) (m := 1) (eInt .u8) x5 196609 (Int.toNat x6) 0 y9 (.t (.int .u8 y9)) [.int .u8 y9] rfl (by kernel_rfl) (by kernel_rfl) (by kernel_rfl) (by kernel_rfl) (by kernel_rfl) (by kernel_rfl) (by kernel_rfl) (by kernel_rfl) (idx_some e_y10).2 (by kernel_rfl) (by kernel_rfl) ?_
        refine Runs.done ?_
        refine blkN ?_
        refine thenN ?_
        refine Wp.regionS (pOf []) (rhoOf []) (by kernel_rfl) ?_
        refine Runs.all (by kernel_rfl) ?_
        refine thenN ?_
        exact ⟨(p0, x5.set (Int.toNat x6) y9, bAdd .i64 x6 1), h, Le.of (mo := []) (mr := []) (by kernel_rfl) (by kernel_rfl) (by kernel_rfl) (by kernel_rfl)⟩
      · have h := cond_f h hc
        refine Wp.exit ?_
        refine thenE ?_
        refine thenE ?_
        refine blkE ?_
        refine thenN ?_
        exact ⟨x5, h, Le.of (mo := []) (mr := []) (by kernel_rfl) (by kernel_rfl) (by kernel_rfl) (by kernel_rfl)⟩
theorem spec_l1In_ok (u : Nat) (p0 : Int) (p1 : Int) (p2 : Int) (r : Bool) (h : spec_l1In u p0 p1 p2 = some r) : CallOK Try.prog 86 [.one (.t (.int .i64 p0)), .one (.t (.int .i64 p1)), .one (.t (.int .i64 p2))] (.one (.t (.bool r))) [] := by
  unfold spec_l1In at h
  refine CallOK.of_bodyK (fn := Try.f86) (m := false) [.t (.int .i64 p0), .t (.int .i64 p1), .t (.int .i64 p2)] (by kernel_rfl) rfl (by kernel_rfl) (by kernel_rfl) (by kernel_rfl) (by kernel_rfl) (by kernel_rfl) ?_
  refine Wp.seq ?_
  refine Wp.regionS (pOf []) (rhoOf []) (by kernel_rfl) ?_
  refine Runs.all (by kernel_rfl) ?_
  refine thenN ?_
  refine Wp.le (Le.of (s := ⟨[(0, .t (.int .i64 p0)), (1, .t (.int .i64 p1)), (2, .t (.int .i64 p2)), (6, .t (.bool false))], [], []⟩) (mo := []) (mr := []) (by kernel_rfl) (by kernel_rfl) (by kernel_rfl) (by kernel_rfl)) ?_
  refine Wp.seq ?_
  refine Wp.regionS (pOf []) (rhoOf []) (by kernel_rfl) ?_
  refine Runs.batch 4 (by kernel_rfl) ?_
  rcases tf (decide (p0 ≥ p1)) with hc | hc
  · have h := cond_t h hc
    refine Runs.known 10 (v := true) (by kernel_rfl) hc ?_
    refine Runs.all (by kernel_rfl) ?_
    refine thenN ?_
    refine Wp.le (Le.of (s := ⟨[(6, .t (.bool (decide (p0 ≤ p2))))], [], []⟩) (mo := []) (mr := []) (by kernel_rfl) (by kernel_rfl) (by kernel_rfl) (by kernel_rfl)) ?_
    refine Wp.ret ?_
    have hr := Option.some.inj h
    subst hr
    exact RetK [.t (.bool (decide (p0 ≤ p2)))] (.one (.t (.bool (decide (p0 ≤ p2))))) [] (by kernel_rfl) (by kernel_rfl) (.refl _) .nil
  · have h := cond_f h hc
    refine Runs.known 10 (v := false) (by kernel_rfl) hc ?_
    refine Runs.all (by kernel_rfl) ?_
    refine thenN ?_
    refine Wp.le (Le.of (s := ⟨[(6, .t (.bool false))], [], []⟩) (mo := []) (mr := []) (by kernel_rfl) (by kernel_rfl) (by kernel_rfl) (by kernel_rfl)) ?_
    refine Wp.ret ?_
    have hr := Option.some.inj h
    subst hr
    exact RetK [.t (.bool false)] (.one (.t (.bool false))) [] (by kernel_rfl) (by kernel_rfl) (.refl _) .nil
theorem spec_SizeOk_ok (u : Nat) (p0 : Int) (p1 : Int) (r : Bool) (h : spec_SizeOk u p0 p1 = some r) : CallOK Try.prog 70 [.one (.t (.int .i64 p0)), .one (.t (.int .i64 p1))] (.one (.t (.bool r))) [] := by
  unfold spec_SizeOk at h
  refine CallOK.of_bodyK (fn := Try.f70) (m := false) [.t (.int .i64 p0), .t (.int .i64 p1)] (by kernel_rfl) rfl (by kernel_rfl) (by kernel_rfl) (by kernel_rfl) (by kernel_rfl) (by kernel_rfl) ?_
  refine Wp.seq ?_
  refine Wp.regionS (pOf []) (rhoOf []) (by kernel_rfl) ?_
  refine Runs.all (by kernel_rfl) ?_
  refine thenN ?_
  refine Wp.le (Le.of (s := ⟨[(0, .t (.int .i64 p0)), (1, .t (.int .i64 p1)), (4, .t (.bool false))], [], []⟩) (mo := []) (mr := []) (by kernel_rfl) (by kernel_rfl) (by kernel_rfl) (by kernel_rfl)) ?_
  refine Wp.seq ?_
  refine Wp.regionS (pOf []) (rhoOf []) (by kernel_rfl) ?_
  refine Runs.batch 1 (by kernel_rfl) ?_
  obtain ⟨r1, e_r1, h⟩ := bind_some h
  refine Runs.callK false 6 86 [] [.t (.int .i64 p0), .t (.int .i64 2), .t (.int .i64 6)] [.one (.t (.int .i64 p0)), .one (.t (.int .i64 2)), .one (.t (.int .i64 6))] (.one (.t (.bool r1))) [] rfl rfl (by kernel_rfl) (by kernel_rfl) (by kernel_rfl) (by kernel_rfl) (by kernel_rfl) (spec_l1In_ok u p0 2 6 r1 e_r1) (by kernel_rfl) ?_
  refine Runs.batch 1 (by kernel_rfl) ?_
  rcases tf (r1) with hc | hc
  · have h := cond_t h hc
    refine Runs.known 7 (v := true) (by kernel_rfl) hc ?_
    refine Runs.batch 3 (by kernel_rfl) ?_
    obtain ⟨r2, e_r2, h⟩ := bind_some h
    refine Runs.callK false 11 86 [] [.t (.int .i64 p1), .t (.int .i64 0), .t (.int .i64 (bMul .i64 p0 40))] [.one (.t (.int .i64 p1)), .one (.t (.int .i64 0)), .one (.t (.int .i64 (bMul .i64 p0 40)))] (.one (.t (.bool r2))) [] rfl rfl (by kernel_rfl) (by kernel_rfl) (by kernel_rfl) (by kernel_rfl) (by kernel_rfl) (spec_l1In_ok u p1 0 (bMul .i64 p0 40) r2 e_r2) (by kernel_rfl) ?_
    refine Runs.all (by kernel_rfl) ?_
    refine thenN ?_
    refine Wp.le (Le.of (s := ⟨[(4, .t (.bool r2))], [], []⟩) (mo := []) (mr := []) (by kernel_rfl) (by kernel_rfl) (by kernel_rfl) (by kernel_rfl)) ?_
    refine Wp.ret ?_
    have hr := Option.some.inj h
    subst hr
    exact RetK [.t (.bool r2)] (.one (.t (.bool r2))) [] (by kernel_rfl) (by kernel_rfl) (.refl _) .nil
  · have h := cond_f h hc
    refine Runs.known 7 (v := false) (by kernel_rfl) hc ?_
    refine Runs.all (by kernel_rfl) ?_
    refine thenN ?_
    refine Wp.le (Le.of (s := ⟨[(4, .t (.bool false))], [], []⟩) (mo := []) (mr := []) (by kernel_rfl) (by kernel_rfl) (by kernel_rfl) (by kernel_rfl)) ?_
    refine Wp.ret ?_
    have hr := Option.some.inj h
    subst hr
    exact RetK [.t (.bool false)] (.one (.t (.bool false))) [] (by kernel_rfl) (by kernel_rfl) (.refl _) .nil
theorem spec_CeilDiv_ok (u : Nat) (p0 : Int) (p1 : Int) (r : Int) (h : spec_CeilDiv u p0 p1 = some r) : CallOK Try.prog 172 [.one (.t (.int .i64 p0)), .one (.t (.int .i64 p1))] (.one (.t (.int .i64 r))) [] := by
  unfold spec_CeilDiv at h
  refine CallOK.of_bodyK (fn := Try.f172) (m := false) [.t (.int .i64 p0), .t (.int .i64 p1)] (by kernel_rfl) rfl (by kernel_rfl) (by kernel_rfl) (by kernel_rfl) (by kernel_rfl) (by kernel_rfl) ?_
  refine Wp.seq ?_
  refine Wp.regionS (pOf []) (rhoOf []) (by kernel_rfl) ?_
  refine Runs.all (by kernel_rfl) ?_
  refine thenN ?_
  refine Wp.le (Le.of (s := ⟨[(0, .t (.int .i64 p0)), (1, .t (.int .i64 p1)), (4, .t (.int .i64 0))], [], []⟩) (mo := []) (mr := []) (by kernel_rfl) (by kernel_rfl) (by kernel_rfl) (by kernel_rfl)) ?_
  refine Wp.seq ?_
  refine Wp.seqJ (α := Int × Int × Bool) (fun a => ⟨[(0, .t (.int .i64 a.1)), (1, .t (.int .i64 a.2.1)), (4, .t (.int .i64 0)), (12, .t (.bool a.2.2))], [], []⟩) (fun a => spec_CeilDiv_j1 u a.1 a.2.1 a.2.2 = some r) ?_ ?_
  · rintro ⟨p0, p1, x2001⟩ h
    change spec_CeilDiv_j1 u p0 p1 x2001 = some r at h
    unfold spec_CeilDiv_j1 at h
    refine Wp.cond2 (b := x2001) (by kernel_rfl) (fun hc => ?_) (fun hc => ?_)
    · have h := cond_t h hc
      refine Wp.seq ?_
      refine Wp.regionS (pOf []) (rhoOf []) (by kernel_rfl) ?_
      refine Runs.all (by kernel_rfl) ?_
      refine thenN ?_
      refine Wp.le (Le.of (s := ⟨[(0, .t (.int .i64 p0)), (1, .t (.int .i64 p1)), (4, .t (.int .i64 0))], [], []⟩) (mo := []) (mr := []) (by kernel_rfl) (by kernel_rfl) (by kernel_rfl) (by kernel_rfl)) ?_
      refine Wp.ret ?_
      refine thenR ?_
      have hr := Option.some.inj h
      subst hr
      exact RetK [.t (.int .i64 0)] (.one (.t (.int .i64 0))) [] (by kernel_rfl) (by kernel_rfl) (.refl _) .nil
    · have h := cond_f h hc
      refine Wp.skip ?_
      refine thenN ?_
      refine Wp.seq ?_
      refine Wp.regionS (pOf []) (rhoOf []) (by kernel_rfl) ?_
      refine Runs.batch 5 (by kernel_rfl) ?_
      obtain ⟨_, e_2002, h⟩ := bind_some h
      refine Runs.num .quo (.int .i64 (bSub .i64 (bAdd .i64 p0 p1) 1)) (.int .i64 p1) (.int .i64 (bQuo .i64 (bSub .i64 (bAdd .i64 p0 p1) 1) p1)) rfl (by kernel_rfl) (by kernel_rfl) (by kernel_rfl) (by kernel_rfl) (bin_quo _ _ _ _ (by simpa using chk_some e_2002)) ?_
      refine Runs.all (by kernel_rfl) ?_
      refine thenN ?_
      refine Wp.le (Le.of (s := ⟨[(4, .t (.int .i64 (bQuo .i64 (bSub .i64 (bAdd .i64 p0 p1) 1) p1)))], [], []⟩) (mo := []) (mr := []) (by kernel_rfl) (by kernel_rfl) (by kernel_rfl) (by kernel_rfl)) ?_
      refine Wp.ret ?_
      have hr := Option.some.inj h
      subst hr
      exact RetK [.t (.int .i64 (bQuo .i64 (bSub .i64 (bAdd .i64 p0 p1) 1) p1))] (.one (.t (.int .i64 (bQuo .i64 (bSub .i64 (bAdd .i64 p0 p1) 1) p1)))) [] (by kernel_rfl) (by kernel_rfl) (.refl _) .nil
  · refine Wp.regionS (pOf []) (rhoOf []) (by kernel_rfl) ?_
    refine Runs.batch 1 (by kernel_rfl) ?_
    obtain ⟨r1, e_r1, h⟩ := bind_some h
    refine Runs.callK false 6 86 [] [.t (.int .i64 p0), .t (.int .i64 0), .t (.int .i64 1000000000000)] [.one (.t (.int .i64 p0)), .one (.t (.int .i64 0)), .one (.t (.int .i64 1000000000000))] (.one (.t (.bool r1))) [] rfl rfl (by kernel_rfl) (by kernel_rfl) (by kernel_rfl) (by kernel_rfl) (by kernel_rfl) (spec_l1In_ok u p0 0 1000000000000 r1 e_r1) (by kernel_rfl) ?_
    refine Runs.batch 2 (by kernel_rfl) ?_
    rcases tf (!r1) with hc | hc
    · have h := cond_t h hc
      refine Runs.known 8 (v := true) (by kernel_rfl) hc ?_
      refine Runs.all (by kernel_rfl) ?_
      refine thenN ?_
      exact ⟨(p0, p1, true), h, Le.of (mo := []) (mr := []) (by kernel_rfl) (by kernel_rfl) (by kernel_rfl) (by kernel_rfl)⟩
    · have h := cond_f h hc
      refine Runs.known 8 (v := false) (by kernel_rfl) hc ?_
      refine Runs.batch 1 (by kernel_rfl) ?_
      obtain ⟨r2, e_r2, h⟩ := bind_some h
      refine Runs.callK false 10 86 [] [.t (.int .i64 p1), .t (.int .i64 1), .t (.int .i64 1000000000000)] [.one (.t (.int .i64 p1)), .one (.t (.int .i64 1)), .one (.t (.int .i64 1000000000000))] (.one (.t (.bool r2))) [] rfl rfl (by kernel_rfl) (by kernel_rfl) (by kernel_rfl) (by kernel_rfl) (by kernel_rfl) (spec_l1In_ok u p1 1 1000000000000 r2 e_r2) (by kernel_rfl) ?_
      refine Runs.all (by kernel_rfl) ?_
      refine thenN ?_
      exact ⟨(p0, p1, !r2), h, Le.of (mo := []) (mr := []) (by kernel_rfl) (by kernel_rfl) (by kernel_rfl) (by kernel_rfl)⟩
theorem spec_Blocks_ok (u : Nat) (p0 : Int) (p1 : Int) (r : Int) (h : spec_Blocks u p0 p1 = some r) : CallOK Try.prog 157 [.one (.t (.int .i64 p0)), .one (.t (.int .i64 p1))] (.one (.t (.int .i64 r))) [] := by
  unfold spec_Blocks at h
  refine CallOK.of_bodyK (fn := Try.f157) (m := false) [.t (.int .i64 p0), .t (.int .i64 p1)] (by kernel_rfl) rfl (by kernel_rfl) (by kernel_rfl) (by kernel_rfl) (by kernel_rfl) (by kernel_rfl) ?_
  refine Wp.seq ?_
  refine Wp.regionS (pOf []) (rhoOf []) (by kernel_rfl) ?_
  refine Runs.all (by kernel_rfl) ?_
  refine thenN ?_
  refine Wp.le (Le.of (s := ⟨[(0, .t (.int .i64 p0)), (1, .t (.int .i64 p1)), (4, .t (.int .i64 0))], [], []⟩) (mo := []) (mr := []) (by kernel_rfl) (by kernel_rfl) (by kernel_rfl) (by kernel_rfl)) ?_
  refine Wp.seq ?_
  refine Wp.seq ?_
  refine Wp.regionS (pOf []) (rhoOf []) (by kernel_rfl) ?_
  refine Runs.batch 2 (by kernel_rfl) ?_
  obtain ⟨r1, e_r1, h⟩ := bind_some h
  refine Runs.callK false 7 70 [] [.t (.int .i64 p0), .t (.int .i64 p1)] [.one (.t (.int .i64 p0)), .one (.t (.int .i64 p1))] (.one (.t (.bool r1))) [] rfl rfl (by kernel_rfl) (by kernel_rfl) (by kernel_rfl) (by kernel_rfl) (by kernel_rfl) (spec_SizeOk_ok u p0 p1 r1 e_r1) (by kernel_rfl) ?_
  refine Runs.all (by kernel_rfl) ?_
  refine thenN ?_
  refine Wp.le (Le.of (s := ⟨[(0, .t (.int .i64 p0)), (1, .t (.int .i64 p1)), (4, .t (.int .i64 0)), (8, .t (.bool (!r1)))], [], []⟩) (mo := []) (mr := []) (by kernel_rfl) (by kernel_rfl) (by kernel_rfl) (by kernel_rfl)) ?_
  refine Wp.cond2 (b := !r1) (by kernel_rfl) (fun hc => ?_) (fun hc => ?_)
  · have h := cond_t h hc
    refine Wp.seq ?_
    refine Wp.regionS (pOf []) (rhoOf []) (by kernel_rfl) ?_
    refine Runs.all (by kernel_rfl) ?_
    refine thenN ?_
    refine Wp.le (Le.of (s := ⟨[(0, .t (.int .i64 p0)), (1, .t (.int .i64 p1)), (4, .t (.int .i64 0))], [], []⟩) (mo := []) (mr := []) (by kernel_rfl) (by kernel_rfl) (by kernel_rfl) (by kernel_rfl)) ?_
    refine Wp.ret ?_
    refine thenR ?_
    have hr := Option.some.inj h
    subst hr
    exact RetK [.t (.int .i64 0)] (.one (.t (.int .i64 0))) [] (by kernel_rfl) (by kernel_rfl) (.refl _) .nil
  · have h := cond_f h hc
    refine Wp.skip ?_
    refine thenN ?_
    refine Wp.seq ?_
    refine Wp.regionS (pOf []) (rhoOf []) (by kernel_rfl) ?_
    refine Runs.batch 2 (by kernel_rfl) ?_
    obtain ⟨r2, e_r2, h⟩ := bind_some h
    refine Runs.callK false 11 172 [] [.t (.int .i64 p1), .t (.int .i64 p0)] [.one (.t (.int .i64 p1)), .one (.t (.int .i64 p0))] (.one (.t (.int .i64 r2))) [] rfl rfl (by kernel_rfl) (by kernel_rfl) (by kernel_rfl) (by kernel_rfl) (by kernel_rfl) (spec_CeilDiv_ok u p1 p0 r2 e_r2) (by kernel_rfl) ?_
    refine Runs.all (by kernel_rfl) ?_
    refine thenN ?_
    refine Wp.le (Le.of (s := ⟨[(4, .t (.int .i64 r2))], [], []⟩) (mo := []) (mr := []) (by kernel_rfl) (by kernel_rfl) (by kernel_rfl) (by kernel_rfl)) ?_
    refine Wp.ret ?_
    have hr := Option.some.inj h
    subst hr
    exact RetK [.t (.int .i64 r2)] (.one (.t (.int .i64 r2))) [] (by kernel_rfl) (by kernel_rfl) (.refl _) .nil
theorem spec_Least_ok (u : Nat) (p0 : Int) (p1 : Int) (r : Int) (h : spec_Least u p0 p1 = some r) : CallOK Try.prog 108 [.one (.t (.int .i64 p0)), .one (.t (.int .i64 p1))] (.one (.t (.int .i64 r))) [] := by
  unfold spec_Least at h
  refine CallOK.of_bodyK (fn := Try.f108) (m := false) [.t (.int .i64 p0), .t (.int .i64 p1)] (by kernel_rfl) rfl (by kernel_rfl) (by kernel_rfl) (by kernel_rfl) (by kernel_rfl) (by kernel_rfl) ?_
  refine Wp.seq ?_
  refine Wp.regionS (pOf []) (rhoOf []) (by kernel_rfl) ?_
  refine Runs.all (by kernel_rfl) ?_
  refine thenN ?_
  refine Wp.le (Le.of (s := ⟨[(0, .t (.int .i64 p0)), (1, .t (.int .i64 p1)), (4, .t (.int .i64 0))], [], []⟩) (mo := []) (mr := []) (by kernel_rfl) (by kernel_rfl) (by kernel_rfl) (by kernel_rfl)) ?_
  refine Wp.seq ?_
  refine Wp.seq ?_
  refine Wp.regionS (pOf []) (rhoOf []) (by kernel_rfl) ?_
  refine Runs.all (by kernel_rfl) ?_
  refine thenN ?_
  refine Wp.le (Le.of (s := ⟨[(0, .t (.int .i64 p0)), (1, .t (.int .i64 p1)), (4, .t (.int .i64 0)), (7, .t (.bool (decide (p1 < p0))))], [], []⟩) (mo := []) (mr := []) (by kernel_rfl) (by kernel_rfl) (by kernel_rfl) (by kernel_rfl)) ?_
  refine Wp.cond2 (b := decide (p1 < p0)) (by kernel_rfl) (fun hc => ?_) (fun hc => ?_)
  · have h := cond_t h hc
    refine Wp.seq ?_
    refine Wp.regionS (pOf []) (rhoOf []) (by kernel_rfl) ?_
    refine Runs.all (by kernel_rfl) ?_
    refine thenN ?_
    refine Wp.le (Le.of (s := ⟨[(0, .t (.int .i64 p0)), (4, .t (.int .i64 p1))], [], []⟩) (mo := []) (mr := []) (by kernel_rfl) (by kernel_rfl) (by kernel_rfl) (by kernel_rfl)) ?_
    refine Wp.ret ?_
    refine thenR ?_
    have hr := Option.some.inj h
    subst hr
    exact RetK [.t (.int .i64 p1)] (.one (.t (.int .i64 p1))) [] (by kernel_rfl) (by kernel_rfl) (.refl _) .nil
  · have h := cond_f h hc
    refine Wp.skip ?_
    refine thenN ?_
    refine Wp.seq ?_
    refine Wp.regionS (pOf []) (rhoOf []) (by kernel_rfl) ?_
    refine Runs.all (by kernel_rfl) ?_
    refine thenN ?_
    refine Wp.le (Le.of (s := ⟨[(4, .t (.int .i64 p0))], [], []⟩) (mo := []) (mr := []) (by kernel_rfl) (by kernel_rfl) (by kernel_rfl) (by kernel_rfl)) ?_
    refine Wp.ret ?_
    have hr := Option.some.inj h
    subst hr
    exact RetK [.t (.int .i64 p0)] (.one (.t (.int .i64 p0))) [] (by kernel_rfl) (by kernel_rfl) (.refl _) .nil
theorem spec_SpanOf_ok (u : Nat) (p0 : Int) (p1 : Int) (p2 : Int) (r : Int × Int) (h : spec_SpanOf u p0 p1 p2 = some r) : CallOK Try.prog 133 [.one (.t (.int .i64 p0)), .one (.t (.int .i64 p1)), .one (.t (.int .i64 p2))] (.tup [.one (.t (.int .i64 r.1)), .one (.t (.int .i64 r.2))]) [] := by
  unfold spec_SpanOf at h
  refine CallOK.of_bodyK (fn := Try.f133) (m := false) [.t (.int .i64 p0), .t (.int .i64 p1), .t (.int .i64 p2)] (by kernel_rfl) rfl (by kernel_rfl) (by kernel_rfl) (by kernel_rfl) (by kernel_rfl) (by kernel_rfl) ?_
  refine Wp.seq ?_
  refine Wp.regionS (pOf []) (rhoOf []) (by kernel_rfl) ?_
  refine Runs.all (by kernel_rfl) ?_
  refine thenN ?_
  refine Wp.le (Le.of (s := ⟨[(0, .t (.int .i64 p0)), (1, .t (.int .i64 p1)), (2, .t (.int .i64 p2)), (6, .t (.int .i64 0)), (7, .t (.int .i64 0))], [], []⟩) (mo := []) (mr := []) (by kernel_rfl) (by kernel_rfl) (by kernel_rfl) (by kernel_rfl)) ?_
  refine Wp.seq ?_
  refine Wp.seq ?_
  refine Wp.regionS (pOf []) (rhoOf []) (by kernel_rfl) ?_
  refine Runs.batch 3 (by kernel_rfl) ?_
  obtain ⟨r1, e_r1, h⟩ := bind_some h
  refine Runs.callK false 11 157 [] [.t (.int .i64 p0), .t (.int .i64 p1)] [.one (.t (.int .i64 p0)), .one (.t (.int .i64 p1))] (.one (.t (.int .i64 r1))) [] rfl rfl (by kernel_rfl) (by kernel_rfl) (by kernel_rfl) (by kernel_rfl) (by kernel_rfl) (spec_Blocks_ok u p0 p1 r1 e_r1) (by kernel_rfl) ?_
  refine Runs.batch 1 (by kernel_rfl) ?_
  obtain ⟨r2, e_r2, h⟩ := bind_some h
  refine Runs.callK false 13 86 [] [.t (.int .i64 p2), .t (.int .i64 0), .t (.int .i64 (bSub .i64 r1 1))] [.one (.t (.int .i64 p2)), .one (.t (.int .i64 0)), .one (.t (.int .i64 (bSub .i64 r1 1)))] (.one (.t (.bool r2))) [] rfl rfl (by kernel_rfl) (by kernel_rfl) (by kernel_rfl) (by kernel_rfl) (by kernel_rfl) (spec_l1In_ok u p2 0 (bSub .i64 r1 1) r2 e_r2) (by kernel_rfl) ?_
  refine Runs.all (by kernel_rfl) ?_
  refine thenN ?_
  refine Wp.le (Le.of (s := ⟨[(0, .t (.int .i64 p0)), (1, .t (.int .i64 p1)), (2, .t (.int .i64 p2)), (6, .t (.int .i64 0)), (7, .t (.int .i64 0)), (14, .t (.bool (!r2)))], [], []⟩) (mo := []) (mr := []) (by kernel_rfl) (by kernel_rfl) (by kernel_rfl) (by kernel_rfl)) ?_
  refine Wp.cond2 (b := !r2) (by kernel_rfl) (fun hc => ?_) (fun hc => ?_)
  · have h := cond_t h hc
    refine Wp.seq ?_
    refine Wp.regionS (pOf []) (rhoOf []) (by kernel_rfl) ?_
    refine Runs.all (by kernel_rfl) ?_
    refine thenN ?_
    refine Wp.le (Le.of (s := ⟨[(0, .t (.int .i64 p0)), (1, .t (.int .i64 p1)), (2, .t (.int .i64 p2)), (6, .t (.int .i64 0)), (7, .t (.int .i64 0))], [], []⟩) (mo := []) (mr := []) (by kernel_rfl) (by kernel_rfl) (by kernel_rfl) (by kernel_rfl)) ?_
    refine Wp.ret ?_
    refine thenR ?_
    have hr := Option.some.inj h
    subst hr
    exact RetK [.t (.int .i64 0), .t (.int .i64 0)] (.tup [.one (.t (.int .i64 0)), .one (.t (.int .i64 0))]) [] (by kernel_rfl) (by kernel_rfl) (.refl _) .nil
  · have h := cond_f h hc
    refine Wp.skip ?_
    refine thenN ?_
    refine Wp.seq ?_
    refine Wp.regionS (pOf []) (rhoOf []) (by kernel_rfl) ?_
    refine Runs.batch 9 (by kernel_rfl) ?_
    obtain ⟨r3, e_r3, h⟩ := bind_some h
    refine Runs.callK false 24 108 [] [.t (.int .i64 p0), .t (.int .i64 (bSub .i64 p1 (bMul .i64 p2 p0)))] [.one (.t (.int .i64 p0)), .one (.t (.int .i64 (bSub .i64 p1 (bMul .i64 p2 p0))))] (.one (.t (.int .i64 r3))) [] rfl rfl (by kernel_rfl) (by kernel_rfl) (by kernel_rfl) (by kernel_rfl) (by kernel_rfl) (spec_Least_ok u p0 (bSub .i64 p1 (bMul .i64 p2 p0)) r3 e_r3) (by kernel_rfl) ?_
    refine Runs.all (by kernel_rfl) ?_
    refine thenN ?_
    refine Wp.le (Le.of (s := ⟨[(6, .t (.int .i64 (bMul .i64 p2 p0))), (7, .t (.int .i64 r3))], [], []⟩) (mo := []) (mr := []) (by kernel_rfl) (by kernel_rfl) (by kernel_rfl) (by kernel_rfl)) ?_
    refine Wp.ret ?_
    have hr := Option.some.inj h
    subst hr
    exact RetK [.t (.int .i64 (bMul .i64 p2 p0)), .t (.int .i64 r3)] (.tup [.one (.t (.int .i64 (bMul .i64 p2 p0))), .one (.t (.int .i64 r3))]) [] (by kernel_rfl) (by kernel_rfl) (.refl _) .nil
theorem spec_BlockAt_ok (u : Nat) (p0 : List Int) (p1 : Int) (p2 : Int) (r : (List Int) × Bool) (h : spec_BlockAt u p0 p1 p2 = some r) : CallOK Try.prog 163 [.one (.t (.sl 1 (p0.map (eInt .u8)))), .one (.t (.int .i64 p1)), .one (.t (.int .i64 p2))] (.tup [.one (.ow 5 1 (r.1.map (eInt .u8))), .one (.t (.bool r.2))]) [] := by
  unfold spec_BlockAt at h
  refine CallOK.of_bodyK (fn := Try.f163) (m := true) [.t (.sl 1 (p0.map (eInt .u8))), .t (.int .i64 p1), .t (.int .i64 p2)] (by kernel_rfl) rfl (by kernel_rfl) (by kernel_rfl) (by kernel_rfl) (by kernel_rfl) (by kernel_rfl) ?_
  refine Wp.seq ?_
  refine Wp.regionS (pOf []) (rhoOf []) (by kernel_rfl) ?_
  refine Runs.all (by kernel_rfl) ?_
  refine thenN ?_
  refine Wp.le (Le.of (s := ⟨[(0, .t (.sl 1 (p0.map (eInt .u8)))), (1, .t (.int .i64 p1)), (2, .t (.int .i64 p2)), (6, .nil), (7, .t (.bool false))], [], []⟩) (mo := []) (mr := []) (by kernel_rfl) (by kernel_rfl) (by kernel_rfl) (by kernel_rfl)) ?_
  refine Wp.seq ?_
  refine Wp.regionS (pOf []) (rhoOf []) (by kernel_rfl) ?_
  refine Runs.batch 2 (by kernel_rfl) ?_
  refine Runs.lenT (y := .t (.sl 1 (p0.map (eInt .u8)))) (e := 5) (eInt .u8) p0 1 rfl rfl rfl (by kernel_rfl) (by kernel_rfl) (by kernel_rfl) (by kernel_rfl) (by kernel_rfl) ?_
  refine Runs.batch 1 (by kernel_rfl) ?_
  obtain ⟨r1, e_r1, h⟩ := bind_some h
  refine Runs.callK false 15 133 [] [.t (.int .i64 p1), .t (.int .i64 ((p0.length : Int))), .t (.int .i64 p2)] [.one (.t (.int .i64 p1)), .one (.t (.int .i64 ((p0.length : Int)))), .one (.t (.int .i64 p2))] (.tup [.one (.t (.int .i64 r1.1)), .one (.t (.int .i64 r1.2))]) [] rfl rfl (by kernel_rfl) (by kernel_rfl) (by kernel_rfl) (by kernel_rfl) (by kernel_rfl) (spec_SpanOf_ok u p1 ((p0.length : Int)) p2 r1 e_r1) (by kernel_rfl) ?_
  refine Runs.all (by kernel_rfl) ?_
  refine thenN ?_
  refine Wp.le (Le.of (s := ⟨[(0, .t (.sl 1 (p0.map (eInt .u8)))), (6, .nil), (7, .t (.bool false)), (8, .t (.int .i64 r1.1)), (9, .t (.int .i64 r1.2))], [], []⟩) (mo := []) (mr := []) (by kernel_rfl) (by kernel_rfl) (by kernel_rfl) (by kernel_rfl)) ?_
  refine Wp.seq ?_
  refine Wp.seq ?_
  refine Wp.regionS (pOf []) (rhoOf []) (by kernel_rfl) ?_
  refine Runs.all (by kernel_rfl) ?_
  refine thenN ?_
  refine Wp.le (Le.of (s := ⟨[(0, .t (.sl 1 (p0.map (eInt .u8)))), (6, .nil), (7, .t (.bool false)), (8, .t (.int .i64 r1.1)), (9, .t (.int .i64 r1.2)), (19, .t (.bool (r1.2 == 0)))], [], []⟩) (mo := []) (mr := []) (by kernel_rfl) (by kernel_rfl) (by kernel_rfl) (by kernel_rfl)) ?_
  refine Wp.cond2 (b := r1.2 == 0) (by kernel_rfl) (fun hc => ?_) (fun hc => ?_)
  · have h := cond_t h hc
    refine Wp.seq ?_
    refine Wp.regionS (pOf []) (rhoOf []) (by kernel_rfl) ?_
    refine Runs.all (by kernel_rfl) ?_
    refine thenN ?_
    refine Wp.le (Le.of (s := ⟨[(0, .t (.sl 1 (p0.map (eInt .u8)))), (6, .own 1310720), (7, .t (.bool false)), (8, .t (.int .i64 r1.1)), (9, .t (.int .i64 r1.2))], [], [(1310720, .live 5 1 ((([] : List Int)).map (eInt .u8)))]⟩) (mo := []) (mr := []) (by kernel_rfl) (by kernel_rfl) (by kernel_rfl) (by kernel_rfl)) ?_
    refine Wp.ret ?_
    refine thenR ?_
    have hr := Option.some.inj h
    subst hr
    exact RetK [.own 1310720, .t (.bool false)] (.tup [.one (.ow 5 1 ((([] : List Int)).map (eInt .u8))), .one (.t (.bool false))]) [] (by kernel_rfl) (by kernel_rfl) (.refl _) .nil
  · have h := cond_f h hc
    refine Wp.skip ?_
    refine thenN ?_
    refine Wp.seq ?_
    refine Wp.regionS (pOf []) (rhoOf []) (by kernel_rfl) ?_
    refine Runs.batch 6 (by kernel_rfl) ?_
    obtain ⟨_, e_2, h⟩ := bind_some h
    refine Runs.subsl (e := 5) (ax := .t (.sl 1 (p0.map (eInt .u8)))) (alo := (some (.t (.int .i64 r1.1)))) (ahi := (some (.t (.int .i64 (bAdd .i64 r1.1 r1.2))))) (eInt .u8) p0 1 r1.1 (bAdd .i64 r1.1 r1.2) rfl (by kernel_rfl) (by kernel_rfl) (by kernel_rfl) (by kernel_rfl) (by kernel_rfl) (by kernel_rfl) (by kernel_rfl) (by kernel_rfl) (by kernel_rfl) (by kernel_rfl) (chk_some e_2) ?_
    obtain ⟨_, e_3, h⟩ := bind_some h
    refine Runs.appT (y := .t (.sl 1 (((p0.take (Int.toNat (bAdd .i64 r1.1 r1.2))).drop (Int.toNat r1.1)).map (eInt .u8)))) (eInt .u8) 28 1 5 1 1 1376256 (([] : List Int)) ((p0.take (Int.toNat (bAdd .i64 r1.1 r1.2))).drop (Int.toNat r1.1)) rfl rfl rfl rfl (by kernel_rfl) (by kernel_rfl) (by kernel_rfl) (by kernel_rfl) (by kernel_rfl) (by kernel_rfl) (.inl rfl) (by kernel_rfl) (of_decide_eq_true (chk_some e_3)) (by kernel_rfl) (by kernel_rfl) ?_
    refine Runs.all (by kernel_rfl) ?_
    refine thenN ?_
    refine Wp.le (Le.of (s := ⟨[(6, .own 1835008), (7, .t (.bool true))], [], [(1835008, .live 5 1 (((([] : List Int)) ++ ((p0.take (Int.toNat (bAdd .i64 r1.1 r1.2))).drop (Int.toNat r1.1))).map (eInt .u8)))]⟩) (mo := []) (mr := []) (by kernel_rfl) (by kernel_rfl) (by kernel_rfl) (by kernel_rfl)) ?_
    refine Wp.ret ?_
    have hr := Option.some.inj h
    subst hr
    exact RetK [.own 1835008, .t (.bool true)] (.tup [.one (.ow 5 1 (((([] : List Int)) ++ ((p0.take (Int.toNat (bAdd .i64 r1.1 r1.2))).drop (Int.toNat r1.1))).map (eInt .u8))), .one (.t (.bool true))]) [] (by kernel_rfl) (by kernel_rfl) (.refl _) .nil
theorem spec_WeakOf_ok (u : Nat) (p0 : List Int) (r : Int) (h : spec_WeakOf u p0 = some r) : CallOK Try.prog 173 [.one (.t (.sl 1 (p0.map (eInt .u8))))] (.one (.t (.int .i64 r))) [] := by
  unfold spec_WeakOf at h
  refine CallOK.of_bodyK (fn := Try.f173) (m := false) [.t (.sl 1 (p0.map (eInt .u8)))] (by kernel_rfl) rfl (by kernel_rfl) (by kernel_rfl) (by kernel_rfl) (by kernel_rfl) (by kernel_rfl) ?_
  refine Wp.seq ?_
  refine Wp.regionS (pOf []) (rhoOf []) (by kernel_rfl) ?_
  refine Runs.all (by kernel_rfl) ?_
  refine thenN ?_
  refine Wp.le (Le.of (s := ⟨[(0, .t (.sl 1 (p0.map (eInt .u8)))), (2, .t (.int .i64 0))], [], []⟩) (mo := []) (mr := []) (by kernel_rfl) (by kernel_rfl) (by kernel_rfl) (by kernel_rfl)) ?_
  refine Wp.seq ?_
  refine Wp.regionS (pOf []) (rhoOf []) (by kernel_rfl) ?_
  refine Runs.all (by kernel_rfl) ?_
  refine thenN ?_
  refine Wp.le (Le.of (s := ⟨[(0, .t (.sl 1 (p0.map (eInt .u8)))), (2, .t (.int .i64 0)), (3, .t (.int .i64 0))], [], []⟩) (mo := []) (mr := []) (by kernel_rfl) (by kernel_rfl) (by kernel_rfl) (by kernel_rfl)) ?_
  refine Wp.seq ?_
  refine Wp.regionS (pOf []) (rhoOf []) (by kernel_rfl) ?_
  refine Runs.all (by kernel_rfl) ?_
  refine thenN ?_
  refine Wp.le (Le.of (s := ⟨[(0, .t (.sl 1 (p0.map (eInt .u8)))), (2, .t (.int .i64 0)), (3, .t (.int .i64 0)), (4, .t (.int .i64 0))], [], []⟩) (mo := []) (mr := []) (by kernel_rfl) (by kernel_rfl) (by kernel_rfl) (by kernel_rfl)) ?_
  refine Wp.seqJ (α := Int × Int) (fun a => ⟨[(2, .t (.int .i64 0)), (3, .t (.int .i64 a.1)), (4, .t (.int .i64 a.2))], [], []⟩) (fun a => spec_WeakOf_j1 u a.1 a.2 = some r) ?_ ?_
  · rintro ⟨x2001, x2002⟩ h
    change spec_WeakOf_j1 u x2001 x2002 = some r at h
    unfold spec_WeakOf_j1 at h
    refine Wp.seq ?_
    refine Wp.regionS (pOf []) (rhoOf []) (by kernel_rfl) ?_
    refine Runs.all (by kernel_rfl) ?_
    refine thenN ?_
    refine Wp.le (Le.of (s := ⟨[(2, .t (.int .i64 (bAdd .i64 x2001 (bMul .i64 251 x2002))))], [], []⟩) (mo := []) (mr := []) (by kernel_rfl) (by kernel_rfl) (by kernel_rfl) (by kernel_rfl)) ?_
    refine Wp.ret ?_
    have hr := Option.some.inj h
    subst hr
    exact RetK [.t (.int .i64 (bAdd .i64 x2001 (bMul .i64 251 x2002)))] (.one (.t (.int .i64 (bAdd .i64 x2001 (bMul .i64 251 x2002))))) [] (by kernel_rfl) (by kernel_rfl) (.refl _) .nil
  · refine Wp.seq ?_
    refine Wp.regionS (pOf []) (rhoOf []) (by kernel_rfl) ?_
    refine Runs.all (by kernel_rfl) ?_
    refine thenN ?_
    refine Wp.le (Le.of (s := ⟨[(0, .t (.sl 1 (p0.map (eInt .u8)))), (2, .t (.int .i64 0)), (3, .t (.int .i64 0)), (4, .t (.int .i64 0)), (5, .t (.int .i64 0))], [], []⟩) (mo := []) (mr := []) (by kernel_rfl) (by kernel_rfl) (by kernel_rfl) (by kernel_rfl)) ?_
    refine Wp.block ?_
    refine Wp.loopF (α := (List Int) × Int × Int × Int) (fun a => ⟨[(0, .t (.sl 1 (a.1.map (eInt .u8)))), (2, .t (.int .i64 0)), (3, .t (.int .i64 a.2.1)), (4, .t (.int .i64 a.2.2.1)), (5, .t (.int .i64 a.2.2.2))], [], []⟩) (fun k_spec_WeakOf_l2 a => spec_WeakOf_l2 u k_spec_WeakOf_l2 a.1 a.2.1 a.2.2.1 a.2.2.2 = some r) ?_ ?_ u (p0, 0, 0, 0) h (Le.of (mo := []) (mr := []) (by kernel_rfl) (by kernel_rfl) (by kernel_rfl) (by kernel_rfl))
    · intro a h; unfold spec_WeakOf_l2 at h; cases h
    · rintro k_spec_WeakOf_l2 ⟨p0, x4, x5, x6⟩ h
      change spec_WeakOf_l2 u (k_spec_WeakOf_l2 + 1) p0 x4 x5 x6 = some r at h
      rw [spec_WeakOf_l2] at h
      refine Wp.seq ?_
      refine Wp.seq ?_
      refine Wp.regionS (pOf []) (rhoOf []) (by kernel_rfl) ?_
      refine Runs.batch 2 (by kernel_rfl) ?_
      refine Runs.lenT (y := .t (.sl 1 (p0.map (eInt .u8)))) (e := 5) (eInt .u8) p0 1 rfl rfl rfl (by kernel_rfl) (by kernel_rfl) (by kernel_rfl) (by kernel_rfl) (by kernel_rfl) ?_
      refine Runs.all (by kernel_rfl) ?_
      refine thenN ?_
      refine Wp.le (Le.of (s := ⟨[(0, .t (.sl 1 (p0.map (eInt .u8)))), (2, .t (.int .i64 0)), (3, .t (.int .i64 x4)), (4, .t (.int .i64 x5)), (5, .t (.int .i64 x6)), (6, .t (.int .i64 x6)), (7, .t (.sl 1 (p0.map (eInt .u8)))), (8, .t (.int .i64 ((p0.length : Int)))), (9, .t (.bool (decide (x6 < ((p0.length : Int))))))], [], []⟩) (mo := []) (mr := []) (by kernel_rfl) (by kernel_rfl) (by kernel_rfl) (by kernel_rfl)) ?_
      refine Wp.cond2 (b := decide (x6 < ((p0.length : Int)))) (by kernel_rfl) (fun hc => ?_) (fun hc => ?_)
      · have h := cond_t h hc
        refine Wp.skip ?_
        refine thenN ?_
        refine Wp.seq ?_
        refine Wp.block ?_
        refine Wp.seq ?_
        refine Wp.regionS (pOf []) (rhoOf []) (by kernel_rfl) ?_
        refine Runs.batch 3 (by kernel_rfl) ?_
        obtain ⟨y10, e_y10, h⟩ := bind_some h
        refine Runs.idxT (e := 5) (kk := .i64) (sz := 1) (eInt .u8) p0 x6 rfl (by kernel_rfl) (by kernel_rfl) (by kernel_rfl) (by kernel_rfl) (by kernel_rfl) (by kernel_rfl) e_y10 ?_
        refine Runs.all (by kernel_rfl) ?_
        refine thenN ?_
        refine Wp.le (Le.of (s := ⟨[(0, .t (.sl 1 (p0.map (eInt .u8)))), (2, .t (.int .i64 0)), (3, .t (.int .i64 (bRem .i64 (bAdd .i64 x4 (IntKind.wrap .i64 y10)) 251))), (4, .t (.int .i64 x5)), (5, .t (.int .i64 x6)), (6, .t (.int .i64 x6)), (7, .t (.sl 1 (p0.map (eInt .u8)))), (8, .t (.int .i64 ((p0.length : Int)))), (9, .t (.bool (decide (x6 < ((p0.length : Int)))))), (12, .t (.int .i64 x4)), (13, .t (.sl 1 (p0.map (eInt .u8)))), (14, .t (.int .i64 x6)), (15, .fadr [.int .u8 y10]), (16, .t (.int .u8 y10)), (17, .t (.int .i64 (IntKind.wrap .i64 y10))), (18, .t (.int .i64 (bAdd .i64 x4 (IntKind.wrap .i64 y10)))), (19, .t (.int .i64 (bRem .i64 (bAdd .i64 x4 (IntKind.wrap .i64 y10)) 251)))], [], []⟩) (mo := []) (mr := []) (by kernel_rfl) (by kernel_rfl) (by kernel_rfl) (by kernel_rfl)) ?_
        refine Wp.regionS (pOf []) (rhoOf []) (by kernel_rfl) ?_
        refine Runs.all (by kernel_rfl) ?_
        refine blkN ?_
        refine thenN ?_
        refine Wp.regionS (pOf []) (rhoOf []) (by kernel_rfl) ?_
        refine Runs.all (by kernel_rfl) ?_
        refine thenN ?_
        exact ⟨(p0, bRem .i64 (bAdd .i64 x4 (IntKind.wrap .i64 y10)) 251, bRem .i64 (bAdd .i64 x5 (bRem .i64 (bAdd .i64 x4 (IntKind.wrap .i64 y10)) 251)) 251, bAdd .i64 x6 1), h, Le.of (mo := []) (mr := []) (by kernel_rfl) (by kernel_rfl) (by kernel_rfl) (by kernel_rfl)⟩
      · have h := cond_f h hc
        refine Wp.exit ?_
        refine thenE ?_
        refine thenE ?_
        refine blkE ?_
        refine thenN ?_
        exact ⟨(x4, x5), h, Le.of (mo := []) (mr := []) (by kernel_rfl) (by kernel_rfl) (by kernel_rfl) (by kernel_rfl)⟩
theorem spec_SumOf_ok (u : Nat) (p0 : List Int) (r : Sum) (h : spec_SumOf u p0 = some r) : CallOK Try.prog 159 [.one (.t (.sl 1 (p0.map (eInt .u8))))] (.agg [.t (.int .i64 r.fW), .t (.int .i64 r.fS)]) [] := by
  unfold spec_SumOf at h
  refine CallOK.of_bodyK (fn := Try.f159) (m := false) [.t (.sl 1 (p0.map (eInt .u8)))] (by kernel_rfl) rfl (by kernel_rfl) (by kernel_rfl) (by kernel_rfl) (by kernel_rfl) (by kernel_rfl) ?_
  refine Wp.seq ?_
  refine Wp.regionS (pOf []) (rhoOf []) (by kernel_rfl) ?_
  refine Runs.all (by kernel_rfl) ?_
  refine thenN ?_
  refine Wp.le (Le.of (s := ⟨[(0, .t (.sl 1 (p0.map (eInt .u8)))), (2, .obj 2 0)], [(2, [.t (.int .i64 0), .t (.int .i64 0)])], []⟩) (mo := []) (mr := []) (by kernel_rfl) (by kernel_rfl) (by kernel_rfl) (by kernel_rfl)) ?_
  refine Wp.seq ?_
  refine Wp.seq ?_
  refine Wp.regionS (pOf []) (rhoOf []) (by kernel_rfl) ?_
  refine Runs.batch 1 (by kernel_rfl) ?_
  refine Runs.lenT (y := .t (.sl 1 (p0.map (eInt .u8)))) (e := 5) (eInt .u8) p0 1 rfl rfl rfl (by kernel_rfl) (by kernel_rfl) (by kernel_rfl) (by kernel_rfl) (by kernel_rfl) ?_
  refine Runs.all (by kernel_rfl) ?_
  refine thenN ?_
  refine Wp.le (Le.of (s := ⟨[(0, .t (.sl 1 (p0.map (eInt .u8)))), (2, .obj 2 0), (7, .t (.bool (decide (((p0.length : Int)) > 6))))], [(2, [.t (.int .i64 0), .t (.int .i64 0)])], []⟩) (mo := []) (mr := []) (by kernel_rfl) (by kernel_rfl) (by kernel_rfl) (by kernel_rfl)) ?_
  refine Wp.cond2 (b := decide (((p0.length : Int)) > 6)) (by kernel_rfl) (fun hc => ?_) (fun hc => ?_)
  · have h := cond_t h hc
    refine Wp.seq ?_
    refine Wp.regionS (pOf []) (rhoOf []) (by kernel_rfl) ?_
    refine Runs.all (by kernel_rfl) ?_
    refine thenN ?_
    refine Wp.le (Le.of (s := ⟨[(0, .t (.sl 1 (p0.map (eInt .u8)))), (2, .obj 2 0)], [(2, [.t (.int .i64 0), .t (.int .i64 0)])], []⟩) (mo := []) (mr := []) (by kernel_rfl) (by kernel_rfl) (by kernel_rfl) (by kernel_rfl)) ?_
    refine Wp.ret ?_
    refine thenR ?_
    have hr := Option.some.inj h
    subst hr
    exact RetK [.agg [.t (.int .i64 0), .t (.int .i64 0)]] (.agg [.t (.int .i64 0), .t (.int .i64 0)]) [] (by kernel_rfl) (by kernel_rfl) (.refl _) .nil
  · have h := cond_f h hc
    refine Wp.skip ?_
    refine thenN ?_
    refine Wp.seq ?_
    refine Wp.regionS (pOf []) (rhoOf []) (by kernel_rfl) ?_
    refine Runs.all (by kernel_rfl) ?_
    refine thenN ?_
    refine Wp.le (Le.of (s := ⟨[(0, .t (.sl 1 (p0.map (eInt .u8)))), (2, .obj 2 0), (3, .t (.int .i64 1))], [(2, [.t (.int .i64 0), .t (.int .i64 0)])], []⟩) (mo := []) (mr := []) (by kernel_rfl) (by kernel_rfl) (by kernel_rfl) (by kernel_rfl)) ?_
    refine Wp.seqJ (α := (List Int) × Int) (fun a => ⟨[(0, .t (.sl 1 (a.1.map (eInt .u8)))), (2, .obj 2 0), (3, .t (.int .i64 a.2))], [(2, [.t (.int .i64 0), .t (.int .i64 0)])], []⟩) (fun a => spec_SumOf_j1 u a.1 a.2 = some r) ?_ ?_
    · rintro ⟨p0, x2001⟩ h
      change spec_SumOf_j1 u p0 x2001 = some r at h
      unfold spec_SumOf_j1 at h
      refine Wp.seq ?_
      refine Wp.regionS (pOf []) (rhoOf []) (by kernel_rfl) ?_
      refine Runs.batch 1 (by kernel_rfl) ?_
      obtain ⟨r2002, e_r2002, h⟩ := bind_some h
      refine Runs.callK false 24 173 [] [.t (.sl 1 (p0.map (eInt .u8)))] [.one (.t (.sl 1 (p0.map (eInt .u8))))] (.one (.t (.int .i64 r2002))) [] rfl rfl (by kernel_rfl) (by kernel_rfl) (by kernel_rfl) (by kernel_rfl) (by kernel_rfl) (spec_WeakOf_ok u p0 r2002 e_r2002) (by kernel_rfl) ?_
      refine Runs.all (by kernel_rfl) ?_
      refine thenN ?_
      refine Wp.le (Le.of (s := ⟨[(2, .obj 2 0)], [(2, [.t (.int .i64 r2002), .t (.int .i64 x2001)])], []⟩) (mo := []) (mr := []) (by kernel_rfl) (by kernel_rfl) (by kernel_rfl) (by kernel_rfl)) ?_
      refine Wp.ret ?_
      have hr := Option.some.inj h
      subst hr
      exact RetK [.agg [.t (.int .i64 r2002), .t (.int .i64 x2001)]] (.agg [.t (.int .i64 r2002), .t (.int .i64 x2001)]) [] (by kernel_rfl) (by kernel_rfl) (.refl _) .nil
    · refine Wp.seq ?_
      refine Wp.regionS (pOf []) (rhoOf []) (by kernel_rfl) ?_
      refine Runs.all (by kernel_rfl) ?_
      refine thenN ?_
      refine Wp.le (Le.of (s := ⟨[(0, .t (.sl 1 (p0.map (eInt .u8)))), (2, .obj 2 0), (3, .t (.int .i64 1)), (4, .t (.int .i64 0))], [(2, [.t (.int .i64 0), .t (.int .i64 0)])], []⟩) (mo := []) (mr := []) (by kernel_rfl) (by kernel_rfl) (by kernel_rfl) (by kernel_rfl)) ?_
      refine Wp.block ?_
      refine Wp.loopF (α := (List Int) × Int × Int) (fun a => ⟨[(0, .t (.sl 1 (a.1.map (eInt .u8)))), (2, .obj 2 0), (3, .t (.int .i64 a.2.1)), (4, .t (.int .i64 a.2.2))], [(2, [.t (.int .i64 0), .t (.int .i64 0)])], []⟩) (fun k_spec_SumOf_l2 a => spec_SumOf_l2 u k_spec_SumOf_l2 a.1 a.2.1 a.2.2 = some r) ?_ ?_ u (p0, 1, 0) h (Le.of (mo := []) (mr := []) (by kernel_rfl) (by kernel_rfl) (by kernel_rfl) (by kernel_rfl))
      · intro a h; unfold spec_SumOf_l2 at h; cases h
      · rintro k_spec_SumOf_l2 ⟨p0, x3, x4⟩ h
        change spec_SumOf_l2 u (k_spec_SumOf_l2 + 1) p0 x3 x4 = some r at h
        rw [spec_SumOf_l2] at h
        refine Wp.seq ?_
        refine Wp.seq ?_
        refine Wp.regionS (pOf []) (rhoOf []) (by kernel_rfl) ?_
        refine Runs.batch 2 (by kernel_rfl) ?_
        refine Runs.lenT (y := .t (.sl 1 (p0.map (eInt .u8)))) (e := 5) (eInt .u8) p0 1 rfl rfl rfl (by kernel_rfl) (by kernel_rfl) (by kernel_rfl) (by kernel_rfl) (by kernel_rfl) ?_
        refine Runs.all (by kernel_rfl) ?_
        refine thenN ?_
        refine Wp.le (Le.of (s := ⟨[(0, .t (.sl 1 (p0.map (eInt .u8)))), (2, .obj 2 0), (3, .t (.int .i64 x3)), (4, .t (.int .i64 x4)), (9, .t (.int .i64 x4)), (10, .t (.sl 1 (p0.map (eInt .u8)))), (11, .t (.int .i64 ((p0.length : Int)))), (12, .t (.bool (decide (x4 < ((p0.length : Int))))))], [(2, [.t (.int .i64 0), .t (.int .i64 0)])], []⟩) (mo := []) (mr := []) (by kernel_rfl) (by kernel_rfl) (by kernel_rfl) (by kernel_rfl)) ?_
        refine Wp.cond2 (b := decide (x4 < ((p0.length : Int)))) (by kernel_rfl) (fun hc => ?_) (fun hc => ?_)
        · have h := cond_t h hc
          refine Wp.skip ?_
          refine thenN ?_
          refine Wp.seq ?_
          refine Wp.block ?_
          refine Wp.regionS (pOf []) (rhoOf []) (by kernel_rfl) ?_
          refine Runs.batch 4 (by kernel_rfl) ?_
          obtain ⟨y7, e_y7, h⟩ := bind_some h
          refine Runs.idxT (e := 5) (kk := .i64) (sz := 1) (eInt .u8) p0 x4 rfl (by kernel_rfl) (by kernel_rfl) (by kernel_rfl) (by kernel_rfl) (by kernel_rfl) (by kernel_rfl) e_y7 ?_
          refine Runs.all (by kernel_rfl) ?_
          refine blkN ?_
          refine thenN ?_
          refine Wp.regionS (pOf []) (rhoOf []) (by kernel_rfl) ?_
          refine Runs.all (by kernel_rfl) ?_
          refine thenN ?_
          exact ⟨(p0, bAdd .i64 (bMul .i64 256 x3) (IntKind.wrap .i64 y7), bAdd .i64 x4 1), h, Le.of (mo := []) (mr := []) (by kernel_rfl) (by kernel_rfl) (by kernel_rfl) (by kernel_rfl)⟩
        · have h := cond_f h hc
          refine Wp.exit ?_
          refine thenE ?_
          refine thenE ?_
          refine blkE ?_
          refine thenN ?_
          exact ⟨(p0, x3), h, Le.of (mo := []) (mr := []) (by kernel_rfl) (by kernel_rfl) (by kernel_rfl) (by kernel_rfl)⟩
theorem spec_SumsOf_ok (u : Nat) (p0 : List Int) (p1 : Int) (r : (List Sum)) (h : spec_SumsOf u p0 p1 = some r) : CallOK Try.prog 134 [.one (.t (.sl 1 (p0.map (eInt .u8)))), .one (.t (.int .i64 p1))] (.one (.ow 130 2 (r.map Sum.enc))) [] := by
  unfold spec_SumsOf at h
  refine CallOK.of_bodyK (fn := Try.f134) (m := true) [.t (.sl 1 (p0.map (eInt .u8))), .t (.int .i64 p1)] (by kernel_rfl) rfl (by kernel_rfl) (by kernel_rfl) (by kernel_rfl) (by kernel_rfl) (by kernel_rfl) ?_
  refine Wp.seq ?_
  refine Wp.regionS (pOf []) (rhoOf []) (by kernel_rfl) ?_
  refine Runs.all (by kernel_rfl) ?_
  refine thenN ?_
  refine Wp.le (Le.of (s := ⟨[(0, .t (.sl 1 (p0.map (eInt .u8)))), (1, .t (.int .i64 p1)), (4, .nil)], [], []⟩) (mo := []) (mr := []) (by kernel_rfl) (by kernel_rfl) (by kernel_rfl) (by kernel_rfl)) ?_
  refine Wp.seq ?_
  refine Wp.regionS (pOf []) (rhoOf []) (by kernel_rfl) ?_
  refine Runs.all (by kernel_rfl) ?_
  refine thenN ?_
  refine Wp.le (Le.of (s := ⟨[(0, .t (.sl 1 (p0.map (eInt .u8)))), (1, .t (.int .i64 p1)), (4, .nil), (5, .own 589824)], [], [(589824, .live 130 2 ((([] : List Sum)).map Sum.enc))]⟩) (mo := []) (mr := []) (by kernel_rfl) (by kernel_rfl) (by kernel_rfl) (by kernel_rfl)) ?_
  refine Wp.seqJ (α := (List Sum)) (fun a => ⟨[(4, .nil), (5, .own 327681)], [], [(327681, .live 130 2 (a.map Sum.enc))]⟩) (fun a => spec_SumsOf_j1 u a = some r) ?_ ?_
  · rintro x2001 h
    change spec_SumsOf_j1 u x2001 = some r at h
    unfold spec_SumsOf_j1 at h
    refine Wp.seq ?_
    refine Wp.regionS (pOf []) (rhoOf []) (by kernel_rfl) ?_
    refine Runs.all (by kernel_rfl) ?_
    refine thenN ?_
    refine Wp.le (Le.of (s := ⟨[(4, .own 327681)], [], [(327681, .live 130 2 (x2001.map Sum.enc))]⟩) (mo := []) (mr := []) (by kernel_rfl) (by kernel_rfl) (by kernel_rfl) (by kernel_rfl)) ?_
    refine Wp.ret ?_
    have hr := Option.some.inj h
    subst hr
    exact RetK [.own 327681] (.one (.ow 130 2 (x2001.map Sum.enc))) [] (by kernel_rfl) (by kernel_rfl) (.refl _) .nil
  · refine Wp.seq ?_
    refine Wp.regionS (pOf []) (rhoOf []) (by kernel_rfl) ?_
    refine Runs.all (by kernel_rfl) ?_
    refine thenN ?_
    refine Wp.le (Le.of (s := ⟨[(0, .t (.sl 1 (p0.map (eInt .u8)))), (1, .t (.int .i64 p1)), (4, .nil), (5, .own 589824), (6, .t (.int .i64 0))], [], [(589824, .live 130 2 ((([] : List Sum)).map Sum.enc))]⟩) (mo := []) (mr := []) (by kernel_rfl) (by kernel_rfl) (by kernel_rfl) (by kernel_rfl)) ?_
    refine Wp.block ?_
    refine Wp.loopF (α := (List Int) × Int × (List Sum) × Int) (fun a => ⟨[(0, .t (.sl 1 (a.1.map (eInt .u8)))), (1, .t (.int .i64 a.2.1)), (4, .nil), (5, .own 327681), (6, .t (.int .i64 a.2.2.2))], [], [(327681, .live 130 2 (a.2.2.1.map Sum.enc))]⟩) (fun k_spec_SumsOf_l2 a => spec_SumsOf_l2 u k_spec_SumsOf_l2 a.1 a.2.1 a.2.2.1 a.2.2.2 = some r) ?_ ?_ u (p0, p1, ([] : List Sum), 0) h (Le.of (mo := []) (mr := [(327681, 589824)]) (by kernel_rfl) (by kernel_rfl) (by kernel_rfl) (by kernel_rfl))
    · intro a h; unfold spec_SumsOf_l2 at h; cases h
    · rintro k_spec_SumsOf_l2 ⟨p0, p1, x3, x4⟩ h
      change spec_SumsOf_l2 u (k_spec_SumsOf_l2 + 1) p0 p1 x3 x4 = some r at h
      rw [spec_SumsOf_l2] at h
      refine Wp.seq ?_
      refine Wp.seq ?_
      refine Wp.regionS (pOf []) (rhoOf []) (by kernel_rfl) ?_
      refine Runs.batch 3 (by kernel_rfl) ?_
      refine Runs.lenT (y := .t (.sl 1 (p0.map (eInt .u8)))) (e := 5) (eInt .u8) p0 1 rfl rfl rfl (by kernel_rfl) (by kernel_rfl) (by kernel_rfl) (by kernel_rfl) (by kernel_rfl) ?_
      obtain ⟨r7, e_r7, h⟩ := bind_some h
      refine Runs.callK false 14 157 [] [.t (.int .i64 p1), .t (.int .i64 ((p0.length : Int)))] [.one (.t (.int .i64 p1)), .one (.t (.int .i64 ((p0.length : Int))))] (.one (.t (.int .i64 r7))) [] rfl rfl (by kernel_rfl) (by kernel_rfl) (by kernel_rfl) (by kernel_rfl) (by kernel_rfl) (spec_Blocks_ok u p1 ((p0.length : Int)) r7 e_r7) (by kernel_rfl) ?_
      refine Runs.all (by kernel_rfl) ?_
      refine thenN ?_
      refine Wp.le (Le.of (s := ⟨[(0, .t (.sl 1 (p0.map (eInt .u8)))), (1, .t (.int .i64 p1)), (4, .nil), (5, .own 327681), (6, .t (.int .i64 x4)), (10, .t (.int .i64 x4)), (11, .t (.int .i64 p1)), (12, .t (.sl 1 (p0.map (eInt .u8)))), (13, .t (.int .i64 ((p0.length : Int)))), (14, .t (.int .i64 r7)), (15, .t (.bool (decide (x4 < r7))))], [], [(327681, .live 130 2 (x3.map Sum.enc))]⟩) (mo := []) (mr := []) (by kernel_rfl) (by kernel_rfl) (by kernel_rfl) (by kernel_rfl)) ?_
      refine Wp.cond2 (b := decide (x4 < r7)) (by kernel_rfl) (fun hc => ?_) (fun hc => ?_)
      · have h := cond_t h hc
        refine Wp.skip ?_
        refine thenN ?_
        refine Wp.seq ?_
        refine Wp.block ?_
        refine Wp.seq ?_
        refine Wp.regionS (pOf []) (rhoOf []) (by kernel_rfl) ?_
        refine Runs.batch 3 (by kernel_rfl) ?_
        obtain ⟨r8, e_r8, h⟩ := bind_some h
        refine Runs.callK false 22 163 [] [.t (.sl 1 (p0.map (eInt .u8))), .t (.int .i64 p1), .t (.int .i64 x4)] [.one (.t (.sl 1 (p0.map (eInt .u8)))), .one (.t (.int .i64 p1)), .one (.t (.int .i64 x4))] (.tup [.one (.ow 5 1 (r8.1.map (eInt .u8))), .one (.t (.bool r8.2))]) [] rfl rfl (by kernel_rfl) (by kernel_rfl) (by kernel_rfl) (by kernel_rfl) (by kernel_rfl) (spec_BlockAt_ok u p0 p1 x4 r8 e_r8) (by kernel_rfl) ?_
        refine Runs.all (by kernel_rfl) ?_
        refine thenN ?_
        refine Wp.le (Le.of (s := ⟨[(0, .t (.sl 1 (p0.map (eInt .u8)))), (1, .t (.int .i64 p1)), (4, .nil), (5, .own 327681), (6, .t (.int .i64 x4)), (7, .own 1441792), (10, .t (.int .i64 x4)), (11, .t (.int .i64 p1)), (12, .t (.sl 1 (p0.map (eInt .u8)))), (13, .t (.int .i64 ((p0.length : Int)))), (14, .t (.int .i64 r7)), (15, .t (.bool (decide (x4 < r7)))), (18, .tup [.own 1441792, .t (.bool r8.2)]), (19, .t (.sl 1 (p0.map (eInt .u8)))), (20, .t (.int .i64 p1)), (21, .t (.int .i64 x4)), (22, .tup [.own 1441792, .t (.bool r8.2)]), (23, .own 1441792), (24, .t (.bool r8.2))], [], [(327681, .live 130 2 (x3.map Sum.enc)), (1441792, .live 5 1 (r8.1.map (eInt .u8)))]⟩) (mo := []) (mr := []) (by kernel_rfl) (by kernel_rfl) (by kernel_rfl) (by kernel_rfl)) ?_
        refine Wp.regionS (pOf []) (rhoOf []) (by kernel_rfl) ?_
        refine Runs.batch 2 (by kernel_rfl) ?_
        obtain ⟨r9, e_r9, h⟩ := bind_some h
        refine Runs.callBK 27 159 [] [.own 1441792] [.one (.t (.sl 1 (r8.1.map (eInt .u8))))] (.agg [.t (.int .i64 r9.fW), .t (.int .i64 r9.fS)]) rfl rfl (by kernel_rfl) (by kernel_rfl) (by kernel_rfl) (by kernel_rfl) (by kernel_rfl) (spec_SumOf_ok u r8.1 r9 e_r9) (by simp [V.plain, V.plains, C.plain, T.sc]) (by kernel_rfl) ?_
        refine Runs.batch 1 (by kernel_rfl) ?_
        obtain ⟨_, e_10, h⟩ := bind_some h
        refine Runs.appT (y := .own 1835008) Sum.enc 29 2 130 2 16 327681 x3 ([r9]) rfl rfl rfl rfl (by kernel_rfl) (by kernel_rfl) (by kernel_rfl) (by kernel_rfl) (by kernel_rfl) (by kernel_rfl) (.inl rfl) (by kernel_rfl) (of_decide_eq_true (chk_some e_10)) (by kernel_rfl) (by kernel_rfl) ?_
        refine Runs.all (by kernel_rfl) ?_
        refine blkN ?_
        refine thenN ?_
        refine Wp.regionS (pOf []) (rhoOf []) (by kernel_rfl) ?_
        refine Runs.all (by kernel_rfl) ?_
        refine thenN ?_
        exact ⟨(p0, p1, x3 ++ ([r9]), bAdd .i64 x4 1), h, Le.of (mo := []) (mr := [(327681, 1900544)]) (by kernel_rfl) (by kernel_rfl) (by kernel_rfl) (by kernel_rfl)⟩
      · have h := cond_f h hc
        refine Wp.exit ?_
        refine thenE ?_
        refine thenE ?_
        refine blkE ?_
        refine thenN ?_
        exact ⟨x3, h, Le.of (mo := []) (mr := []) (by kernel_rfl) (by kernel_rfl) (by kernel_rfl) (by kernel_rfl)⟩
theorem spec_ManOf_ok (u : Nat) (p0 : Int) (p1 : List Int) (p2 : Int) (r : Manifest) (h : spec_ManOf u p0 p1 p2 = some r) : CallOK Try.prog 72 [.one (.t (.int .i64 p0)), .one (.t (.sl 1 (p1.map (eInt .u8)))), .one (.t (.int .i64 p2))] (.agg [.t (.int .i64 r.fGen), .t (.int .i64 r.fSize), .t (.int .i64 r.fLen), .ow 130 2 (r.fSums.map Sum.enc)]) [] := by
  unfold spec_ManOf at h
  refine CallOK.of_bodyK (fn := Try.f72) (m := true) [.t (.int .i64 p0), .t (.sl 1 (p1.map (eInt .u8))), .t (.int .i64 p2)] (by kernel_rfl) rfl (by kernel_rfl) (by kernel_rfl) (by kernel_rfl) (by kernel_rfl) (by kernel_rfl) ?_
  refine Wp.seq ?_
  refine Wp.regionS (pOf []) (rhoOf []) (by kernel_rfl) ?_
  refine Runs.all (by kernel_rfl) ?_
  refine thenN ?_
  refine Wp.le (Le.of (s := ⟨[(0, .t (.int .i64 p0)), (1, .t (.sl 1 (p1.map (eInt .u8)))), (2, .t (.int .i64 p2)), (6, .obj 6 0)], [(6, [.t (.int .i64 0), .t (.int .i64 0), .t (.int .i64 0), .nil])], []⟩) (mo := []) (mr := []) (by kernel_rfl) (by kernel_rfl) (by kernel_rfl) (by kernel_rfl)) ?_
  refine Wp.seq ?_
  refine Wp.seqJ (α := Int × (List Int) × Int × Bool) (fun a => ⟨[(0, .t (.int .i64 a.1)), (1, .t (.sl 1 (a.2.1.map (eInt .u8)))), (2, .t (.int .i64 a.2.2.1)), (6, .obj 6 0), (16, .t (.bool a.2.2.2))], [(6, [.t (.int .i64 0), .t (.int .i64 0), .t (.int .i64 0), .nil])], []⟩) (fun a => spec_ManOf_j1 u a.1 a.2.1 a.2.2.1 a.2.2.2 = some r) ?_ ?_
  · rintro ⟨p0, p1, p2, x2001⟩ h
    change spec_ManOf_j1 u p0 p1 p2 x2001 = some r at h
    unfold spec_ManOf_j1 at h
    refine Wp.cond2 (b := x2001) (by kernel_rfl) (fun hc => ?_) (fun hc => ?_)
    · have h := cond_t h hc
      refine Wp.seq ?_
      refine Wp.regionS (pOf []) (rhoOf []) (by kernel_rfl) ?_
      refine Runs.all (by kernel_rfl) ?_
      refine thenN ?_
      refine Wp.le (Le.of (s := ⟨[(0, .t (.int .i64 p0)), (1, .t (.sl 1 (p1.map (eInt .u8)))), (2, .t (.int .i64 p2)), (6, .obj 6 0)], [(6, [.t (.int .i64 0), .t (.int .i64 0), .t (.int .i64 0), .nil])], []⟩) (mo := []) (mr := []) (by kernel_rfl) (by kernel_rfl) (by kernel_rfl) (by kernel_rfl)) ?_
      refine Wp.ret ?_
      refine thenR ?_
      have hr := Option.some.inj h
      subst hr
      exact RetK [.agg [.t (.int .i64 0), .t (.int .i64 0), .t (.int .i64 0), .nil]] (.agg [.t (.int .i64 0), .t (.int .i64 0), .t (.int .i64 0), .nil]) [] (by kernel_rfl) (by kernel_rfl) (.agg (.cons (.refl _) (.cons (.refl _) (.cons (.refl _) (.cons (.nilO _ _) .nil))))) .nil
    · have h := cond_f h hc
      refine Wp.skip ?_
      refine thenN ?_
      refine Wp.seq ?_
      refine Wp.regionS (pOf []) (rhoOf []) (by kernel_rfl) ?_
      refine Runs.batch 3 (by kernel_rfl) ?_
      refine Runs.lenT (y := .t (.sl 1 (p1.map (eInt .u8)))) (e := 5) (eInt .u8) p1 1 rfl rfl rfl (by kernel_rfl) (by kernel_rfl) (by kernel_rfl) (by kernel_rfl) (by kernel_rfl) ?_
      refine Runs.batch 2 (by kernel_rfl) ?_
      obtain ⟨r2002, e_r2002, h⟩ := bind_some h
      refine Runs.callK false 24 134 [] [.t (.sl 1 (p1.map (eInt .u8))), .t (.int .i64 p2)] [.one (.t (.sl 1 (p1.map (eInt .u8)))), .one (.t (.int .i64 p2))] (.one (.ow 130 2 (r2002.map Sum.enc))) [] rfl rfl (by kernel_rfl) (by kernel_rfl) (by kernel_rfl) (by kernel_rfl) (by kernel_rfl) (spec_SumsOf_ok u p1 p2 r2002 e_r2002) (by kernel_rfl) ?_
      refine Runs.all (by kernel_rfl) ?_
      refine thenN ?_
      refine Wp.le (Le.of (s := ⟨[(6, .obj 6 0)], [(6, [.t (.int .i64 p0), .t (.int .i64 p2), .t (.int .i64 ((p1.length : Int))), .own 1572864])], [(1572864, .live 130 2 (r2002.map Sum.enc))]⟩) (mo := []) (mr := []) (by kernel_rfl) (by kernel_rfl) (by kernel_rfl) (by kernel_rfl)) ?_
      refine Wp.ret ?_
      have hr := Option.some.inj h
      subst hr
      exact RetK [.agg [.t (.int .i64 p0), .t (.int .i64 p2), .t (.int .i64 ((p1.length : Int))), .own 1572864]] (.agg [.t (.int .i64 p0), .t (.int .i64 p2), .t (.int .i64 ((p1.length : Int))), .ow 130 2 (r2002.map Sum.enc)]) [] (by kernel_rfl) (by kernel_rfl) (.refl _) .nil
  · refine Wp.regionS (pOf []) (rhoOf []) (by kernel_rfl) ?_
    refine Runs.batch 1 (by kernel_rfl) ?_
    obtain ⟨r1, e_r1, h⟩ := bind_some h
    refine Runs.callK false 8 86 [] [.t (.int .i64 p0), .t (.int .i64 1), .t (.int .i64 1000000)] [.one (.t (.int .i64 p0)), .one (.t (.int .i64 1)), .one (.t (.int .i64 1000000))] (.one (.t (.bool r1))) [] rfl rfl (by kernel_rfl) (by kernel_rfl) (by kernel_rfl) (by kernel_rfl) (by kernel_rfl) (spec_l1In_ok u p0 1 1000000 r1 e_r1) (by kernel_rfl) ?_
    refine Runs.batch 2 (by kernel_rfl) ?_
    rcases tf (!r1) with hc | hc
    · have h := cond_t h hc
      refine Runs.known 10 (v := true) (by kernel_rfl) hc ?_
      refine Runs.all (by kernel_rfl) ?_
      refine thenN ?_
      exact ⟨(p0, p1, p2, true), h, Le.of (mo := []) (mr := []) (by kernel_rfl) (by kernel_rfl) (by kernel_rfl) (by kernel_rfl)⟩
    · have h := cond_f h hc
      refine Runs.known 10 (v := false) (by kernel_rfl) hc ?_
      refine Runs.batch 2 (by kernel_rfl) ?_
      refine Runs.lenT (y := .t (.sl 1 (p1.map (eInt .u8)))) (e := 5) (eInt .u8) p1 1 rfl rfl rfl (by kernel_rfl) (by kernel_rfl) (by kernel_rfl) (by kernel_rfl) (by kernel_rfl) ?_
      obtain ⟨r2, e_r2, h⟩ := bind_some h
      refine Runs.callK false 14 70 [] [.t (.int .i64 p2), .t (.int .i64 ((p1.length : Int)))] [.one (.t (.int .i64 p2)), .one (.t (.int .i64 ((p1.length : Int))))] (.one (.t (.bool r2))) [] rfl rfl (by kernel_rfl) (by kernel_rfl) (by kernel_rfl) (by kernel_rfl) (by kernel_rfl) (spec_SizeOk_ok u p2 ((p1.length : Int)) r2 e_r2) (by kernel_rfl) ?_
      refine Runs.all (by kernel_rfl) ?_
      refine thenN ?_
      exact ⟨(p0, p1, p2, !r2), h, Le.of (mo := []) (mr := []) (by kernel_rfl) (by kernel_rfl) (by kernel_rfl) (by kernel_rfl)⟩
theorem spec_FullSet_ok (u : Nat) (p0 : Int) (r : Int) (h : spec_FullSet u p0 = some r) : CallOK Try.prog 161 [.one (.t (.int .i64 p0))] (.one (.t (.int .i64 r))) [] := by
  unfold spec_FullSet at h
  refine CallOK.of_bodyK (fn := Try.f161) (m := false) [.t (.int .i64 p0)] (by kernel_rfl) rfl (by kernel_rfl) (by kernel_rfl) (by kernel_rfl) (by kernel_rfl) (by kernel_rfl) ?_
  refine Wp.seq ?_
  refine Wp.regionS (pOf []) (rhoOf []) (by kernel_rfl) ?_
  refine Runs.all (by kernel_rfl) ?_
  refine thenN ?_
  refine Wp.le (Le.of (s := ⟨[(0, .t (.int .i64 p0)), (2, .t (.int .i64 0))], [], []⟩) (mo := []) (mr := []) (by kernel_rfl) (by kernel_rfl) (by kernel_rfl) (by kernel_rfl)) ?_
  refine Wp.seq ?_
  refine Wp.seq ?_
  refine Wp.regionS (pOf []) (rhoOf []) (by kernel_rfl) ?_
  refine Runs.batch 1 (by kernel_rfl) ?_
  obtain ⟨r1, e_r1, h⟩ := bind_some h
  refine Runs.callK false 4 86 [] [.t (.int .i64 p0), .t (.int .i64 0), .t (.int .i64 40)] [.one (.t (.int .i64 p0)), .one (.t (.int .i64 0)), .one (.t (.int .i64 40))] (.one (.t (.bool r1))) [] rfl rfl (by kernel_rfl) (by kernel_rfl) (by kernel_rfl) (by kernel_rfl) (by kernel_rfl) (spec_l1In_ok u p0 0 40 r1 e_r1) (by kernel_rfl) ?_
  refine Runs.all (by kernel_rfl) ?_
  refine thenN ?_
  refine Wp.le (Le.of (s := ⟨[(0, .t (.int .i64 p0)), (2, .t (.int .i64 0)), (5, .t (.bool (!r1)))], [], []⟩) (mo := []) (mr := []) (by kernel_rfl) (by kernel_rfl) (by kernel_rfl) (by kernel_rfl)) ?_
  refine Wp.cond2 (b := !r1) (by kernel_rfl) (fun hc => ?_) (fun hc => ?_)
  · have h := cond_t h hc
    refine Wp.seq ?_
    refine Wp.regionS (pOf []) (rhoOf []) (by kernel_rfl) ?_
    refine Runs.all (by kernel_rfl) ?_
    refine thenN ?_
    refine Wp.le (Le.of (s := ⟨[(0, .t (.int .i64 p0)), (2, .t (.int .i64 0))], [], []⟩) (mo := []) (mr := []) (by kernel_rfl) (by kernel_rfl) (by kernel_rfl) (by kernel_rfl)) ?_
    refine Wp.ret ?_
    refine thenR ?_
    have hr := Option.some.inj h
    subst hr
    exact RetK [.t (.int .i64 0)] (.one (.t (.int .i64 0))) [] (by kernel_rfl) (by kernel_rfl) (.refl _) .nil
  · have h := cond_f h hc
    refine Wp.skip ?_
    refine thenN ?_
    refine Wp.seq ?_
    refine Wp.regionS (pOf []) (rhoOf []) (by kernel_rfl) ?_
    refine Runs.batch 1 (by kernel_rfl) ?_
    obtain ⟨_, e_2, h⟩ := bind_some h
    refine Runs.num .shl (.int .i64 1) (.int .i64 p0) (.int .i64 (bShl .i64 1 p0)) rfl (by kernel_rfl) (by kernel_rfl) (by kernel_rfl) (by kernel_rfl) (bin_shl _ _ _ _ _ (chk_some e_2)) ?_
    refine Runs.all (by kernel_rfl) ?_
    refine thenN ?_
    refine Wp.le (Le.of (s := ⟨[(2, .t (.int .i64 (bSub .i64 (bShl .i64 1 p0) 1)))], [], []⟩) (mo := []) (mr := []) (by kernel_rfl) (by kernel_rfl) (by kernel_rfl) (by kernel_rfl)) ?_
    refine Wp.ret ?_
    have hr := Option.some.inj h
    subst hr
    exact RetK [.t (.int .i64 (bSub .i64 (bShl .i64 1 p0) 1))] (.one (.t (.int .i64 (bSub .i64 (bShl .i64 1 p0) 1)))) [] (by kernel_rfl) (by kernel_rfl) (.refl _) .nil
theorem spec_l3Ok_ok (u : Nat) (p0 : Int) (r : Bool) (h : spec_l3Ok u p0 = some r) : CallOK Try.prog 181 [.one (.t (.int .i64 p0))] (.one (.t (.bool r))) [] := by
  unfold spec_l3Ok at h
  refine CallOK.of_bodyK (fn := Try.f181) (m := false) [.t (.int .i64 p0)] (by kernel_rfl) rfl (by kernel_rfl) (by kernel_rfl) (by kernel_rfl) (by kernel_rfl) (by kernel_rfl) ?_
  refine Wp.seq ?_
  refine Wp.regionS (pOf []) (rhoOf []) (by kernel_rfl) ?_
  refine Runs.all (by kernel_rfl) ?_
  refine thenN ?_
  refine Wp.le (Le.of (s := ⟨[(0, .t (.int .i64 p0)), (2, .t (.bool false))], [], []⟩) (mo := []) (mr := []) (by kernel_rfl) (by kernel_rfl) (by kernel_rfl) (by kernel_rfl)) ?_
  refine Wp.seq ?_
  refine Wp.regionS (pOf []) (rhoOf []) (by kernel_rfl) ?_
  refine Runs.batch 1 (by kernel_rfl) ?_
  obtain ⟨r1, e_r1, h⟩ := bind_some h
  refine Runs.callK false 4 86 [] [.t (.int .i64 p0), .t (.int .i64 0), .t (.int .i64 63000)] [.one (.t (.int .i64 p0)), .one (.t (.int .i64 0)), .one (.t (.int .i64 63000))] (.one (.t (.bool r1))) [] rfl rfl (by kernel_rfl) (by kernel_rfl) (by kernel_rfl) (by kernel_rfl) (by kernel_rfl) (spec_l1In_ok u p0 0 63000 r1 e_r1) (by kernel_rfl) ?_
  refine Runs.all (by kernel_rfl) ?_
  refine thenN ?_
  refine Wp.le (Le.of (s := ⟨[(2, .t (.bool r1))], [], []⟩) (mo := []) (mr := []) (by kernel_rfl) (by kernel_rfl) (by kernel_rfl) (by kernel_rfl)) ?_
  refine Wp.ret ?_
  have hr := Option.some.inj h
  subst hr
  exact RetK [.t (.bool r1)] (.one (.t (.bool r1))) [] (by kernel_rfl) (by kernel_rfl) (.refl _) .nil
theorem spec_WeakHalves_ok (u : Nat) (p0 : Int) (r : Int × Int) (h : spec_WeakHalves u p0 = some r) : CallOK Try.prog 182 [.one (.t (.int .i64 p0))] (.tup [.one (.t (.int .i64 r.1)), .one (.t (.int .i64 r.2))]) [] := by
  unfold spec_WeakHalves at h
  refine CallOK.of_bodyK (fn := Try.f182) (m := false) [.t (.int .i64 p0)] (by kernel_rfl) rfl (by kernel_rfl) (by kernel_rfl) (by kernel_rfl) (by kernel_rfl) (by kernel_rfl) ?_
  refine Wp.seq ?_
  refine Wp.regionS (pOf []) (rhoOf []) (by kernel_rfl) ?_
  refine Runs.all (by kernel_rfl) ?_
  refine thenN ?_
  refine Wp.le (Le.of (s := ⟨[(0, .t (.int .i64 p0)), (2, .t (.int .i64 0)), (3, .t (.int .i64 0))], [], []⟩) (mo := []) (mr := []) (by kernel_rfl) (by kernel_rfl) (by kernel_rfl) (by kernel_rfl)) ?_
  refine Wp.seq ?_
  refine Wp.seq ?_
  refine Wp.regionS (pOf []) (rhoOf []) (by kernel_rfl) ?_
  refine Runs.batch 1 (by kernel_rfl) ?_
  obtain ⟨r1, e_r1, h⟩ := bind_some h
  refine Runs.callK false 5 181 [] [.t (.int .i64 p0)] [.one (.t (.int .i64 p0))] (.one (.t (.bool r1))) [] rfl rfl (by kernel_rfl) (by kernel_rfl) (by kernel_rfl) (by kernel_rfl) (by kernel_rfl) (spec_l3Ok_ok u p0 r1 e_r1) (by kernel_rfl) ?_
  refine Runs.all (by kernel_rfl) ?_
  refine thenN ?_
  refine Wp.le (Le.of (s := ⟨[(0, .t (.int .i64 p0)), (2, .t (.int .i64 0)), (3, .t (.int .i64 0)), (6, .t (.bool (!r1)))], [], []⟩) (mo := []) (mr := []) (by kernel_rfl) (by kernel_rfl) (by kernel_rfl) (by kernel_rfl)) ?_
  refine Wp.cond2 (b := !r1) (by kernel_rfl) (fun hc => ?_) (fun hc => ?_)
  · have h := cond_t h hc
    refine Wp.seq ?_
    refine Wp.regionS (pOf []) (rhoOf []) (by kernel_rfl) ?_
    refine Runs.all (by kernel_rfl) ?_
    refine thenN ?_
    refine Wp.le (Le.of (s := ⟨[(0, .t (.int .i64 p0)), (2, .t (.int .i64 0)), (3, .t (.int .i64 0))], [], []⟩) (mo := []) (mr := []) (by kernel_rfl) (by kernel_rfl) (by kernel_rfl) (by kernel_rfl)) ?_
    refine Wp.ret ?_
    refine thenR ?_
    have hr := Option.some.inj h
    subst hr
    exact RetK [.t (.int .i64 0), .t (.int .i64 0)] (.tup [.one (.t (.int .i64 0)), .one (.t (.int .i64 0))]) [] (by kernel_rfl) (by kernel_rfl) (.refl _) .nil
  · have h := cond_f h hc
    refine Wp.skip ?_
    refine thenN ?_
    refine Wp.seq ?_
    refine Wp.regionS (pOf []) (rhoOf []) (by kernel_rfl) ?_
    refine Runs.all (by kernel_rfl) ?_
    refine thenN ?_
    refine Wp.le (Le.of (s := ⟨[(2, .t (.int .i64 (bRem .i64 p0 251))), (3, .t (.int .i64 (bQuo .i64 p0 251)))], [], []⟩) (mo := []) (mr := []) (by kernel_rfl) (by kernel_rfl) (by kernel_rfl) (by kernel_rfl)) ?_
    refine Wp.ret ?_
    have hr := Option.some.inj h
    subst hr
    exact RetK [.t (.int .i64 (bRem .i64 p0 251)), .t (.int .i64 (bQuo .i64 p0 251))] (.tup [.one (.t (.int .i64 (bRem .i64 p0 251))), .one (.t (.int .i64 (bQuo .i64 p0 251)))]) [] (by kernel_rfl) (by kernel_rfl) (.refl _) .nil
theorem spec_Wrap_ok (u : Nat) (p0 : Int) (p1 : Int) (r : Int) (h : spec_Wrap u p0 p1 = some r) : CallOK Try.prog 183 [.one (.t (.int .i64 p0)), .one (.t (.int .i64 p1))] (.one (.t (.int .i64 r))) [] := by
  unfold spec_Wrap at h
  refine CallOK.of_bodyK (fn := Try.f183) (m := false) [.t (.int .i64 p0), .t (.int .i64 p1)] (by kernel_rfl) rfl (by kernel_rfl) (by kernel_rfl) (by kernel_rfl) (by kernel_rfl) (by kernel_rfl) ?_
  refine Wp.seq ?_
  refine Wp.regionS (pOf []) (rhoOf []) (by kernel_rfl) ?_
  refine Runs.all (by kernel_rfl) ?_
  refine thenN ?_
  refine Wp.le (Le.of (s := ⟨[(0, .t (.int .i64 p0)), (1, .t (.int .i64 p1)), (4, .t (.int .i64 0))], [], []⟩) (mo := []) (mr := []) (by kernel_rfl) (by kernel_rfl) (by kernel_rfl) (by kernel_rfl)) ?_
  refine Wp.seq ?_
  refine Wp.seq ?_
  refine Wp.regionS (pOf []) (rhoOf []) (by kernel_rfl) ?_
  refine Runs.batch 1 (by kernel_rfl) ?_
  obtain ⟨r1, e_r1, h⟩ := bind_some h
  refine Runs.callK false 6 86 [] [.t (.int .i64 p1), .t (.int .i64 1), .t (.int .i64 1000000000000)] [.one (.t (.int .i64 p1)), .one (.t (.int .i64 1)), .one (.t (.int .i64 1000000000000))] (.one (.t (.bool r1))) [] rfl rfl (by kernel_rfl) (by kernel_rfl) (by kernel_rfl) (by kernel_rfl) (by kernel_rfl) (spec_l1In_ok u p1 1 1000000000000 r1 e_r1) (by kernel_rfl) ?_
  refine Runs.all (by kernel_rfl) ?_
  refine thenN ?_
  refine Wp.le (Le.of (s := ⟨[(0, .t (.int .i64 p0)), (1, .t (.int .i64 p1)), (4, .t (.int .i64 0)), (7, .t (.bool (!r1)))], [], []⟩) (mo := []) (mr := []) (by kernel_rfl) (by kernel_rfl) (by kernel_rfl) (by kernel_rfl)) ?_
  refine Wp.cond2 (b := !r1) (by kernel_rfl) (fun hc => ?_) (fun hc => ?_)
  · have h := cond_t h hc
    refine Wp.seq ?_
    refine Wp.regionS (pOf []) (rhoOf []) (by kernel_rfl) ?_
    refine Runs.all (by kernel_rfl) ?_
    refine thenN ?_
    refine Wp.le (Le.of (s := ⟨[(0, .t (.int .i64 p0)), (1, .t (.int .i64 p1)), (4, .t (.int .i64 0))], [], []⟩) (mo := []) (mr := []) (by kernel_rfl) (by kernel_rfl) (by kernel_rfl) (by kernel_rfl)) ?_
    refine Wp.ret ?_
    refine thenR ?_
    have hr := Option.some.inj h
    subst hr
    exact RetK [.t (.int .i64 0)] (.one (.t (.int .i64 0))) [] (by kernel_rfl) (by kernel_rfl) (.refl _) .nil
  · have h := cond_f h hc
    refine Wp.skip ?_
    refine thenN ?_
    refine Wp.seq ?_
    refine Wp.regionS (pOf []) (rhoOf []) (by kernel_rfl) ?_
    refine Runs.batch 2 (by kernel_rfl) ?_
    obtain ⟨_, e_2, h⟩ := bind_some h
    refine Runs.num .rem (.int .i64 p0) (.int .i64 p1) (.int .i64 (bRem .i64 p0 p1)) rfl (by kernel_rfl) (by kernel_rfl) (by kernel_rfl) (by kernel_rfl) (bin_rem _ _ _ _ (by simpa using chk_some e_2)) ?_
    refine Runs.batch 3 (by kernel_rfl) ?_
    obtain ⟨_, e_3, h⟩ := bind_some h
    refine Runs.num .rem (.int .i64 (bAdd .i64 (bRem .i64 p0 p1) p1)) (.int .i64 p1) (.int .i64 (bRem .i64 (bAdd .i64 (bRem .i64 p0 p1) p1) p1)) rfl (by kernel_rfl) (by kernel_rfl) (by kernel_rfl) (by kernel_rfl) (bin_rem _ _ _ _ (by simpa using chk_some e_3)) ?_
    refine Runs.all (by kernel_rfl) ?_
    refine thenN ?_
    refine Wp.le (Le.of (s := ⟨[(4, .t (.int .i64 (bRem .i64 (bAdd .i64 (bRem .i64 p0 p1) p1) p1)))], [], []⟩) (mo := []) (mr := []) (by kernel_rfl) (by kernel_rfl) (by kernel_rfl) (by kernel_rfl)) ?_
    refine Wp.ret ?_
    have hr := Option.some.inj h
    subst hr
    exact RetK [.t (.int .i64 (bRem .i64 (bAdd .i64 (bRem .i64 p0 p1) p1) p1))] (.one (.t (.int .i64 (bRem .i64 (bAdd .i64 (bRem .i64 p0 p1) p1) p1)))) [] (by kernel_rfl) (by kernel_rfl) (.refl _) .nil
theorem spec_Roll_ok (u : Nat) (p0 : Int) (p1 : Int) (p2 : Int) (p3 : Int) (r : Int) (h : spec_Roll u p0 p1 p2 p3 = some r) : CallOK Try.prog 180 [.one (.t (.int .i64 p0)), .one (.t (.int .i64 p1)), .one (.t (.int .i64 p2)), .one (.t (.int .i64 p3))] (.one (.t (.int .i64 r))) [] := by
  unfold spec_Roll at h
  refine CallOK.of_bodyK (fn := Try.f180) (m := false) [.t (.int .i64 p0), .t (.int .i64 p1), .t (.int .i64 p2), .t (.int .i64 p3)] (by kernel_rfl) rfl (by kernel_rfl) (by kernel_rfl) (by kernel_rfl) (by kernel_rfl) (by kernel_rfl) ?_
  refine Wp.seq ?_
  refine Wp.regionS (pOf []) (rhoOf []) (by kernel_rfl) ?_
  refine Runs.all (by kernel_rfl) ?_
  refine thenN ?_
  refine Wp.le (Le.of (s := ⟨[(0, .t (.int .i64 p0)), (1, .t (.int .i64 p1)), (2, .t (.int .i64 p2)), (3, .t (.int .i64 p3)), (8, .t (.int .i64 0))], [], []⟩) (mo := []) (mr := []) (by kernel_rfl) (by kernel_rfl) (by kernel_rfl) (by kernel_rfl)) ?_
  refine Wp.seq ?_
  refine Wp.seqJ (α := Int × Int × Int × Int × Bool) (fun a => ⟨[(0, .t (.int .i64 a.1)), (1, .t (.int .i64 a.2.1)), (2, .t (.int .i64 a.2.2.1)), (3, .t (.int .i64 a.2.2.2.1)), (8, .t (.int .i64 0)), (28, .t (.bool a.2.2.2.2))], [], []⟩) (fun a => spec_Roll_j1 u a.1 a.2.1 a.2.2.1 a.2.2.2.1 a.2.2.2.2 = some r) ?_ ?_
  · rintro ⟨p0, p1, p2, p3, x2001⟩ h
    change spec_Roll_j1 u p0 p1 p2 p3 x2001 = some r at h
    unfold spec_Roll_j1 at h
    refine Wp.cond2 (b := x2001) (by kernel_rfl) (fun hc => ?_) (fun hc => ?_)
    · have h := cond_t h hc
      refine Wp.seq ?_
      refine Wp.regionS (pOf []) (rhoOf []) (by kernel_rfl) ?_
      refine Runs.all (by kernel_rfl) ?_
      refine thenN ?_
      refine Wp.le (Le.of (s := ⟨[(0, .t (.int .i64 p0)), (1, .t (.int .i64 p1)), (2, .t (.int .i64 p2)), (3, .t (.int .i64 p3)), (8, .t (.int .i64 p0))], [], []⟩) (mo := []) (mr := []) (by kernel_rfl) (by kernel_rfl) (by kernel_rfl) (by kernel_rfl)) ?_
      refine Wp.ret ?_
      refine thenR ?_
      have hr := Option.some.inj h
      subst hr
      exact RetK [.t (.int .i64 p0)] (.one (.t (.int .i64 p0))) [] (by kernel_rfl) (by kernel_rfl) (.refl _) .nil
    · have h := cond_f h hc
      refine Wp.skip ?_
      refine thenN ?_
      refine Wp.seq ?_
      refine Wp.regionS (pOf []) (rhoOf []) (by kernel_rfl) ?_
      refine Runs.batch 1 (by kernel_rfl) ?_
      obtain ⟨r2002, e_r2002, h⟩ := bind_some h
      refine Runs.callK false 32 182 [] [.t (.int .i64 p0)] [.one (.t (.int .i64 p0))] (.tup [.one (.t (.int .i64 r2002.1)), .one (.t (.int .i64 r2002.2))]) [] rfl rfl (by kernel_rfl) (by kernel_rfl) (by kernel_rfl) (by kernel_rfl) (by kernel_rfl) (spec_WeakHalves_ok u p0 r2002 e_r2002) (by kernel_rfl) ?_
      refine Runs.all (by kernel_rfl) ?_
      refine thenN ?_
      refine Wp.le (Le.of (s := ⟨[(1, .t (.int .i64 p1)), (2, .t (.int .i64 p2)), (3, .t (.int .i64 p3)), (8, .t (.int .i64 0)), (9, .t (.int .i64 r2002.1)), (10, .t (.int .i64 r2002.2))], [], []⟩) (mo := []) (mr := []) (by kernel_rfl) (by kernel_rfl) (by kernel_rfl) (by kernel_rfl)) ?_
      refine Wp.seq ?_
      refine Wp.regionS (pOf []) (rhoOf []) (by kernel_rfl) ?_
      refine Runs.batch 6 (by kernel_rfl) ?_
      obtain ⟨r2003, e_r2003, h⟩ := bind_some h
      refine Runs.callK false 41 183 [] [.t (.int .i64 (bSub .i64 r2002.2 (bMul .i64 (bRem .i64 p1 251) p2))), .t (.int .i64 251)] [.one (.t (.int .i64 (bSub .i64 r2002.2 (bMul .i64 (bRem .i64 p1 251) p2)))), .one (.t (.int .i64 251))] (.one (.t (.int .i64 r2003))) [] rfl rfl (by kernel_rfl) (by kernel_rfl) (by kernel_rfl) (by kernel_rfl) (by kernel_rfl) (spec_Wrap_ok u (bSub .i64 r2002.2 (bMul .i64 (bRem .i64 p1 251) p2)) 251 r2003 e_r2003) (by kernel_rfl) ?_
      refine Runs.all (by kernel_rfl) ?_
      refine thenN ?_
      refine Wp.le (Le.of (s := ⟨[(2, .t (.int .i64 p2)), (3, .t (.int .i64 p3)), (8, .t (.int .i64 0)), (9, .t (.int .i64 r2002.1)), (10, .t (.int .i64 r2003))], [], []⟩) (mo := []) (mr := []) (by kernel_rfl) (by kernel_rfl) (by kernel_rfl) (by kernel_rfl)) ?_
      refine Wp.seq ?_
      refine Wp.regionS (pOf []) (rhoOf []) (by kernel_rfl) ?_
      refine Runs.batch 5 (by kernel_rfl) ?_
      obtain ⟨r2004, e_r2004, h⟩ := bind_some h
      refine Runs.callK false 47 183 [] [.t (.int .i64 (bAdd .i64 (bSub .i64 r2002.1 p2) p3)), .t (.int .i64 251)] [.one (.t (.int .i64 (bAdd .i64 (bSub .i64 r2002.1 p2) p3))), .one (.t (.int .i64 251))] (.one (.t (.int .i64 r2004))) [] rfl rfl (by kernel_rfl) (by kernel_rfl) (by kernel_rfl) (by kernel_rfl) (by kernel_rfl) (spec_Wrap_ok u (bAdd .i64 (bSub .i64 r2002.1 p2) p3) 251 r2004 e_r2004) (by kernel_rfl) ?_
      refine Runs.all (by kernel_rfl) ?_
      refine thenN ?_
      refine Wp.le (Le.of (s := ⟨[(8, .t (.int .i64 0)), (9, .t (.int .i64 r2004)), (10, .t (.int .i64 r2003))], [], []⟩) (mo := []) (mr := []) (by kernel_rfl) (by kernel_rfl) (by kernel_rfl) (by kernel_rfl)) ?_
      refine Wp.seq ?_
      refine Wp.regionS (pOf []) (rhoOf []) (by kernel_rfl) ?_
      refine Runs.batch 4 (by kernel_rfl) ?_
      obtain ⟨r2005, e_r2005, h⟩ := bind_some h
      refine Runs.callK false 52 183 [] [.t (.int .i64 (bAdd .i64 r2003 r2004)), .t (.int .i64 251)] [.one (.t (.int .i64 (bAdd .i64 r2003 r2004))), .one (.t (.int .i64 251))] (.one (.t (.int .i64 r2005))) [] rfl rfl (by kernel_rfl) (by kernel_rfl) (by kernel_rfl) (by kernel_rfl) (by kernel_rfl) (spec_Wrap_ok u (bAdd .i64 r2003 r2004) 251 r2005 e_r2005) (by kernel_rfl) ?_
      refine Runs.all (by kernel_rfl) ?_
      refine thenN ?_
      refine Wp.le (Le.of (s := ⟨[(8, .t (.int .i64 (bAdd .i64 r2004 (bMul .i64 251 r2005))))], [], []⟩) (mo := []) (mr := []) (by kernel_rfl) (by kernel_rfl) (by kernel_rfl) (by kernel_rfl)) ?_
      refine Wp.ret ?_
      have hr := Option.some.inj h
      subst hr
      exact RetK [.t (.int .i64 (bAdd .i64 r2004 (bMul .i64 251 r2005)))] (.one (.t (.int .i64 (bAdd .i64 r2004 (bMul .i64 251 r2005))))) [] (by kernel_rfl) (by kernel_rfl) (.refl _) .nil
  · refine Wp.regionS (pOf []) (rhoOf []) (by kernel_rfl) ?_
    refine Runs.batch 1 (by kernel_rfl) ?_
    obtain ⟨r1, e_r1, h⟩ := bind_some h
    refine Runs.callK false 12 181 [] [.t (.int .i64 p0)] [.one (.t (.int .i64 p0))] (.one (.t (.bool r1))) [] rfl rfl (by kernel_rfl) (by kernel_rfl) (by kernel_rfl) (by kernel_rfl) (by kernel_rfl) (spec_l3Ok_ok u p0 r1 e_r1) (by kernel_rfl) ?_
    refine Runs.batch 2 (by kernel_rfl) ?_
    rcases tf (!r1) with hc | hc
    · have h := cond_t h hc
      refine Runs.known 14 (v := true) (by kernel_rfl) hc ?_
      refine Runs.all (by kernel_rfl) ?_
      refine thenN ?_
      exact ⟨(p0, p1, p2, p3, true), h, Le.of (mo := []) (mr := []) (by kernel_rfl) (by kernel_rfl) (by kernel_rfl) (by kernel_rfl)⟩
    · have h := cond_f h hc
      refine Runs.known 14 (v := false) (by kernel_rfl) hc ?_
      refine Runs.batch 1 (by kernel_rfl) ?_
      obtain ⟨r2, e_r2, h⟩ := bind_some h
      refine Runs.callK false 16 86 [] [.t (.int .i64 p1), .t (.int .i64 1), .t (.int .i64 1000000000000)] [.one (.t (.int .i64 p1)), .one (.t (.int .i64 1)), .one (.t (.int .i64 1000000000000))] (.one (.t (.bool r2))) [] rfl rfl (by kernel_rfl) (by kernel_rfl) (by kernel_rfl) (by kernel_rfl) (by kernel_rfl) (spec_l1In_ok u p1 1 1000000000000 r2 e_r2) (by kernel_rfl) ?_
      refine Runs.batch 3 (by kernel_rfl) ?_
      rcases tf (!r2) with hc | hc
      · have h := cond_t h hc
        refine Runs.known 19 (v := true) (by kernel_rfl) hc ?_
        refine Runs.all (by kernel_rfl) ?_
        refine thenN ?_
        exact ⟨(p0, p1, p2, p3, true), h, Le.of (mo := []) (mr := []) (by kernel_rfl) (by kernel_rfl) (by kernel_rfl) (by kernel_rfl)⟩
      · have h := cond_f h hc
        refine Runs.known 19 (v := false) (by kernel_rfl) hc ?_
        refine Runs.batch 1 (by kernel_rfl) ?_
        obtain ⟨r3, e_r3, h⟩ := bind_some h
        refine Runs.callK false 21 86 [] [.t (.int .i64 p2), .t (.int .i64 0), .t (.int .i64 255)] [.one (.t (.int .i64 p2)), .one (.t (.int .i64 0)), .one (.t (.int .i64 255))] (.one (.t (.bool r3))) [] rfl rfl (by kernel_rfl) (by kernel_rfl) (by kernel_rfl) (by kernel_rfl) (by kernel_rfl) (spec_l1In_ok u p2 0 255 r3 e_r3) (by kernel_rfl) ?_
        refine Runs.batch 3 (by kernel_rfl) ?_
        rcases tf (!r3) with hc | hc
        · have h := cond_t h hc
          refine Runs.known 24 (v := true) (by kernel_rfl) hc ?_
          refine Runs.all (by kernel_rfl) ?_
          refine thenN ?_
          exact ⟨(p0, p1, p2, p3, true), h, Le.of (mo := []) (mr := []) (by kernel_rfl) (by kernel_rfl) (by kernel_rfl) (by kernel_rfl)⟩
        · have h := cond_f h hc
          refine Runs.known 24 (v := false) (by kernel_rfl) hc ?_
          refine Runs.batch 1 (by kernel_rfl) ?_
          obtain ⟨r4, e_r4, h⟩ := bind_some h
          refine Runs.callK false 26 86 [] [.t (.int .i64 p3), .t (.int .i64 0), .t (.int .i64 255)] [.one (.t (.int .i64 p3)), .one (.t (.int .i64 0)), .one (.t (.int .i64 255))] (.one (.t (.bool r4))) [] rfl rfl (by kernel_rfl) (by kernel_rfl) (by kernel_rfl) (by kernel_rfl) (by kernel_rfl) (spec_l1In_ok u p3 0 255 r4 e_r4) (by kernel_rfl) ?_
          refine Runs.all (by kernel_rfl) ?_
          refine thenN ?_
          exact ⟨(p0, p1, p2, p3, !r4), h, Le.of (mo := []) (mr := []) (by kernel_rfl) (by kernel_rfl) (by kernel_rfl) (by kernel_rfl)⟩
theorem spec_Windows_ok (u : Nat) (p0 : List Int) (p1 : Int) (r : (List Int)) (h : spec_Windows u p0 p1 = some r) : CallOK Try.prog 179 [.one (.t (.sl 1 (p0.map (eInt .u8)))), .one (.t (.int .i64 p1))] (.one (.ow 3 1 (r.map (eInt .i64)))) [] := by
  unfold spec_Windows at h
  refine CallOK.of_bodyK (fn := Try.f179) (m := true) [.t (.sl 1 (p0.map (eInt .u8))), .t (.int .i64 p1)] (by kernel_rfl) rfl (by kernel_rfl) (by kernel_rfl) (by kernel_rfl) (by kernel_rfl) (by kernel_rfl) ?_
  refine Wp.seq ?_
  refine Wp.regionS (pOf []) (rhoOf []) (by kernel_rfl) ?_
  refine Runs.all (by kernel_rfl) ?_
  refine thenN ?_
  refine Wp.le (Le.of (s := ⟨[(0, .t (.sl 1 (p0.map (eInt .u8)))), (1, .t (.int .i64 p1)), (4, .nil)], [], []⟩) (mo := []) (mr := []) (by kernel_rfl) (by kernel_rfl) (by kernel_rfl) (by kernel_rfl)) ?_
  refine Wp.seq ?_
  refine Wp.regionS (pOf []) (rhoOf []) (by kernel_rfl) ?_
  refine Runs.all (by kernel_rfl) ?_
  refine thenN ?_
  refine Wp.le (Le.of (s := ⟨[(0, .t (.sl 1 (p0.map (eInt .u8)))), (1, .t (.int .i64 p1)), (4, .nil), (5, .own 524288)], [], [(524288, .live 3 1 ((([] : List Int)).map (eInt .i64)))]⟩) (mo := []) (mr := []) (by kernel_rfl) (by kernel_rfl) (by kernel_rfl) (by kernel_rfl)) ?_
  refine Wp.seq ?_
  refine Wp.seqJ (α := (List Int) × Int × Bool) (fun a => ⟨[(0, .t (.sl 1 (a.1.map (eInt .u8)))), (1, .t (.int .i64 a.2.1)), (4, .nil), (5, .own 327681), (16, .t (.bool a.2.2))], [], [(327681, .live 3 1 ((([] : List Int)).map (eInt .i64)))]⟩) (fun a => spec_Windows_j1 u a.1 a.2.1 a.2.2 = some r) ?_ ?_
  · rintro ⟨p0, p1, x2001⟩ h
    change spec_Windows_j1 u p0 p1 x2001 = some r at h
    unfold spec_Windows_j1 at h
    refine Wp.cond2 (b := x2001) (by kernel_rfl) (fun hc => ?_) (fun hc => ?_)
    · have h := cond_t h hc
      refine Wp.seq ?_
      refine Wp.regionS (pOf []) (rhoOf []) (by kernel_rfl) ?_
      refine Runs.all (by kernel_rfl) ?_
      refine thenN ?_
      refine Wp.le (Le.of (s := ⟨[(0, .t (.sl 1 (p0.map (eInt .u8)))), (1, .t (.int .i64 p1)), (4, .own 327681), (5, .own 327681)], [], [(327681, .live 3 1 ((([] : List Int)).map (eInt .i64)))]⟩) (mo := []) (mr := []) (by kernel_rfl) (by kernel_rfl) (by kernel_rfl) (by kernel_rfl)) ?_
      refine Wp.ret ?_
      refine thenR ?_
      have hr := Option.some.inj h
      subst hr
      exact RetK [.own 327681] (.one (.ow 3 1 ((([] : List Int)).map (eInt .i64)))) [] (by kernel_rfl) (by kernel_rfl) (.refl _) .nil
    · have h := cond_f h hc
      refine Wp.skip ?_
      refine thenN ?_
      refine Wp.seq ?_
      refine Wp.regionS (pOf []) (rhoOf []) (by kernel_rfl) ?_
      refine Runs.batch 2 (by kernel_rfl) ?_
      obtain ⟨_, e_2002, h⟩ := bind_some h
      refine Runs.subsl (e := 5) (ax := .t (.sl 1 (p0.map (eInt .u8)))) (alo := none) (ahi := (some (.t (.int .i64 p1)))) (eInt .u8) p0 1 0 p1 rfl (by kernel_rfl) (by kernel_rfl) (by kernel_rfl) (by kernel_rfl) (by kernel_rfl) (by kernel_rfl) (by kernel_rfl) (by kernel_rfl) (by kernel_rfl) (by kernel_rfl) (chk_some e_2002) ?_
      obtain ⟨r2003, e_r2003, h⟩ := bind_some h
      refine Runs.callK false 21 173 [] [.t (.sl 1 (((p0.take (Int.toNat p1)).drop (Int.toNat 0)).map (eInt .u8)))] [.one (.t (.sl 1 (((p0.take (Int.toNat p1)).drop (Int.toNat 0)).map (eInt .u8))))] (.one (.t (.int .i64 r2003))) [] rfl rfl (by kernel_rfl) (by kernel_rfl) (by kernel_rfl) (by kernel_rfl) (by kernel_rfl) (spec_WeakOf_ok u ((p0.take (Int.toNat p1)).drop (Int.toNat 0)) r2003 e_r2003) (by kernel_rfl) ?_
      refine Runs.all (by kernel_rfl) ?_
      refine thenN ?_
      refine Wp.le (Le.of (s := ⟨[(0, .t (.sl 1 (p0.map (eInt .u8)))), (1, .t (.int .i64 p1)), (4, .nil), (5, .own 327681), (6, .t (.int .i64 r2003))], [], [(327681, .live 3 1 ((([] : List Int)).map (eInt .i64)))]⟩) (mo := []) (mr := []) (by kernel_rfl) (by kernel_rfl) (by kernel_rfl) (by kernel_rfl)) ?_
      refine Wp.seq ?_
      refine Wp.regionS (pOf []) (rhoOf []) (by kernel_rfl) ?_
      refine Runs.batch 3 (by kernel_rfl) ?_
      obtain ⟨_, e_2004, h⟩ := bind_some h
      refine Runs.appT (y := .own 1572864) (eInt .i64) 25 1 3 1 8 327681 (([] : List Int)) ([r2003]) rfl rfl rfl rfl (by kernel_rfl) (by kernel_rfl) (by kernel_rfl) (by kernel_rfl) (by kernel_rfl) (by kernel_rfl) (.inl rfl) (by kernel_rfl) (of_decide_eq_true (chk_some e_2004)) (by kernel_rfl) (by kernel_rfl) ?_
      refine Runs.all (by kernel_rfl) ?_
      refine thenN ?_
      refine Wp.le (Le.of (s := ⟨[(0, .t (.sl 1 (p0.map (eInt .u8)))), (1, .t (.int .i64 p1)), (4, .nil), (5, .own 1638400), (6, .t (.int .i64 r2003))], [], [(1638400, .live 3 1 (((([] : List Int)) ++ ([r2003])).map (eInt .i64)))]⟩) (mo := []) (mr := []) (by kernel_rfl) (by kernel_rfl) (by kernel_rfl) (by kernel_rfl)) ?_
      refine Wp.seqJ (α := (List Int)) (fun a => ⟨[(4, .nil), (5, .own 327681)], [], [(327681, .live 3 1 (a.map (eInt .i64)))]⟩) (fun a => spec_Windows_j2 u a = some r) ?_ ?_
      · rintro x4005 h
        change spec_Windows_j2 u x4005 = some r at h
        unfold spec_Windows_j2 at h
        refine Wp.seq ?_
        refine Wp.regionS (pOf []) (rhoOf []) (by kernel_rfl) ?_
        refine Runs.all (by kernel_rfl) ?_
        refine thenN ?_
        refine Wp.le (Le.of (s := ⟨[(4, .own 327681)], [], [(327681, .live 3 1 (x4005.map (eInt .i64)))]⟩) (mo := []) (mr := []) (by kernel_rfl) (by kernel_rfl) (by kernel_rfl) (by kernel_rfl)) ?_
        refine Wp.ret ?_
        have hr := Option.some.inj h
        subst hr
        exact RetK [.own 327681] (.one (.ow 3 1 (x4005.map (eInt .i64)))) [] (by kernel_rfl) (by kernel_rfl) (.refl _) .nil
      · refine Wp.seq ?_
        refine Wp.regionS (pOf []) (rhoOf []) (by kernel_rfl) ?_
        refine Runs.all (by kernel_rfl) ?_
        refine thenN ?_
        refine Wp.le (Le.of (s := ⟨[(0, .t (.sl 1 (p0.map (eInt .u8)))), (1, .t (.int .i64 p1)), (4, .nil), (5, .own 1638400), (6, .t (.int .i64 r2003)), (7, .t (.int .i64 p1))], [], [(1638400, .live 3 1 (((([] : List Int)) ++ ([r2003])).map (eInt .i64)))]⟩) (mo := []) (mr := []) (by kernel_rfl) (by kernel_rfl) (by kernel_rfl) (by kernel_rfl)) ?_
        refine Wp.block ?_
        refine Wp.loopF (α := (List Int) × Int × (List Int) × Int × Int) (fun a => ⟨[(0, .t (.sl 1 (a.1.map (eInt .u8)))), (1, .t (.int .i64 a.2.1)), (4, .nil), (5, .own 327681), (6, .t (.int .i64 a.2.2.2.1)), (7, .t (.int .i64 a.2.2.2.2))], [], [(327681, .live 3 1 (a.2.2.1.map (eInt .i64)))]⟩) (fun k_spec_Windows_l3 a => spec_Windows_l3 u k_spec_Windows_l3 a.1 a.2.1 a.2.2.1 a.2.2.2.1 a.2.2.2.2 = some r) ?_ ?_ u (p0, p1, (([] : List Int)) ++ ([r2003]), r2003, p1) h (Le.of (mo := []) (mr := [(327681, 1638400)]) (by kernel_rfl) (by kernel_rfl) (by kernel_rfl) (by kernel_rfl))
        · intro a h; unfold spec_Windows_l3 at h; cases h
        · rintro k_spec_Windows_l3 ⟨p0, p1, x2008, x2009, x2010⟩ h
          change spec_Windows_l3 u (k_spec_Windows_l3 + 1) p0 p1 x2008 x2009 x2010 = some r at h
          rw [spec_Windows_l3] at h
          refine Wp.seq ?_
          refine Wp.seq ?_
          refine Wp.regionS (pOf []) (rhoOf []) (by kernel_rfl) ?_
          refine Runs.batch 2 (by kernel_rfl) ?_
          refine Runs.lenT (y := .t (.sl 1 (p0.map (eInt .u8)))) (e := 5) (eInt .u8) p0 1 rfl rfl rfl (by kernel_rfl) (by kernel_rfl) (by kernel_rfl) (by kernel_rfl) (by kernel_rfl) ?_
          refine Runs.all (by kernel_rfl) ?_
          refine thenN ?_
          refine Wp.le (Le.of (s := ⟨[(0, .t (.sl 1 (p0.map (eInt .u8)))), (1, .t (.int .i64 p1)), (4, .nil), (5, .own 327681), (6, .t (.int .i64 x2009)), (7, .t (.int .i64 x2010)), (27, .t (.int .i64 x2010)), (28, .t (.sl 1 (p0.map (eInt .u8)))), (29, .t (.int .i64 ((p0.length : Int)))), (30, .t (.bool (decide (x2010 < ((p0.length : Int))))))], [], [(327681, .live 3 1 (x2008.map (eInt .i64)))]⟩) (mo := []) (mr := []) (by kernel_rfl) (by kernel_rfl) (by kernel_rfl) (by kernel_rfl)) ?_
          refine Wp.cond2 (b := decide (x2010 < ((p0.length : Int)))) (by kernel_rfl) (fun hc => ?_) (fun hc => ?_)
          · have h := cond_t h hc
            refine Wp.skip ?_
            refine thenN ?_
            refine Wp.seq ?_
            refine Wp.block ?_
            refine Wp.seq ?_
            refine Wp.regionA (pOf []) (rhoOf [(0, .frz), (1, .frz), (6, .frz), (7, .frz), (33, .frz), (34, .frz), (35, .frz), (36, .frz), (37, .frz), (38, .frz), (39, .frz), (40, .frz), (41, .frz), (42, .frz), (43, .frz), (44, .frz), (45, .frz), (46, .frz), (47, .frz)]) (by kernel_rfl) (by kernel_rfl) ?_
            refine Runs.batch 6 (by kernel_rfl) ?_
            obtain ⟨y2014, e_y2014, h⟩ := bind_some h
            refine Runs.idxT (e := 5) (kk := .i64) (sz := 1) (eInt .u8) p0 (bSub .i64 x2010 p1) rfl (by kernel_rfl) (by kernel_rfl) (by kernel_rfl) (by kernel_rfl) (by kernel_rfl) (by kernel_rfl) e_y2014 ?_
            refine Runs.batch 4 (by kernel_rfl) ?_
            obtain ⟨y2015, e_y2015, h⟩ := bind_some h
            refine Runs.idxT (e := 5) (kk := .i64) (sz := 1) (eInt .u8) p0 x2010 rfl (by kernel_rfl) (by kernel_rfl) (by kernel_rfl) (by kernel_rfl) (by kernel_rfl) (by kernel_rfl) e_y2015 ?_
            refine Runs.batch 2 (by kernel_rfl) ?_
            obtain ⟨r2016, e_r2016, h⟩ := bind_some h
            refine Runs.callK false 47 180 [] [.t (.int .i64 x2009), .t (.int .i64 p1), .t (.int .i64 (IntKind.wrap .i64 y2014)), .t (.int .i64 (IntKind.wrap .i64 y2015))] [.one (.t (.int .i64 x2009)), .one (.t (.int .i64 p1)), .one (.t (.int .i64 (IntKind.wrap .i64 y2014))), .one (.t (.int .i64 (IntKind.wrap .i64 y2015)))] (.one (.t (.int .i64 r2016))) [] rfl rfl (by kernel_rfl) (by kernel_rfl) (by kernel_rfl) (by kernel_rfl) (by kernel_rfl) (spec_Roll_ok u x2009 p1 (IntKind.wrap .i64 y2014) (IntKind.wrap .i64 y2015) r2016 e_r2016) (by kernel_rfl) ?_
            refine Runs.all (by kernel_rfl) ?_
            refine thenN ?_
            refine Wp.le (Le.of (s := ⟨[(0, .t (.sl 1 (p0.map (eInt .u8)))), (1, .t (.int .i64 p1)), (4, .nil), (5, .own 327681), (6, .t (.int .i64 r2016)), (7, .t (.int .i64 x2010)), (27, .t (.int .i64 x2010)), (28, .t (.sl 1 (p0.map (eInt .u8)))), (29, .t (.int .i64 ((p0.length : Int)))), (30, .t (.bool (decide (x2010 < ((p0.length : Int)))))), (33, .t (.int .i64 x2009)), (34, .t (.int .i64 p1)), (35, .t (.sl 1 (p0.map (eInt .u8)))), (36, .t (.int .i64 x2010)), (37, .t (.int .i64 p1)), (38, .t (.int .i64 (bSub .i64 x2010 p1))), (39, .fadr [.int .u8 y2014]), (40, .t (.int .u8 y2014)), (41, .t (.int .i64 (IntKind.wrap .i64 y2014))), (42, .t (.sl 1 (p0.map (eInt .u8)))), (43, .t (.int .i64 x2010)), (44, .fadr [.int .u8 y2015]), (45, .t (.int .u8 y2015)), (46, .t (.int .i64 (IntKind.wrap .i64 y2015))), (47, .t (.int .i64 r2016))], [], [(327681, .live 3 1 (x2008.map (eInt .i64)))]⟩) (mo := []) (mr := []) (by kernel_rfl) (by kernel_rfl) (by kernel_rfl) (by kernel_rfl)) ?_
            refine Wp.regionS (pOf []) (rhoOf []) (by kernel_rfl) ?_
            refine Runs.batch 3 (by kernel_rfl) ?_
            obtain ⟨_, e_2017, h⟩ := bind_some h
            refine Runs.appT (y := .own 3276800) (eInt .i64) 51 1 3 1 8 327681 x2008 ([r2016]) rfl rfl rfl rfl (by kernel_rfl) (by kernel_rfl) (by kernel_rfl) (by kernel_rfl) (by kernel_rfl) (by kernel_rfl) (.inl rfl) (by kernel_rfl) (of_decide_eq_true (chk_some e_2017)) (by kernel_rfl) (by kernel_rfl) ?_
            refine Runs.all (by kernel_rfl) ?_
            refine blkN ?_
            refine thenN ?_
            refine Wp.regionS (pOf []) (rhoOf []) (by kernel_rfl) ?_
            refine Runs.all (by kernel_rfl) ?_
            refine thenN ?_
            exact ⟨(p0, p1, x2008 ++ ([r2016]), r2016, bAdd .i64 x2010 1), h, Le.of (mo := []) (mr := [(327681, 3342336)]) (by kernel_rfl) (by kernel_rfl) (by kernel_rfl) (by kernel_rfl)⟩
          · have h := cond_f h hc
            refine Wp.exit ?_
            refine thenE ?_
            refine thenE ?_
            refine blkE ?_
            refine thenN ?_
            exact ⟨x2008, h, Le.of (mo := []) (mr := []) (by kernel_rfl) (by kernel_rfl) (by kernel_rfl) (by kernel_rfl)⟩
  · refine Wp.regionS (pOf []) (rhoOf []) (by kernel_rfl) ?_
    refine Runs.batch 3 (by kernel_rfl) ?_
    rcases tf (decide (p1 < 1)) with hc | hc
    · have h := cond_t h hc
      refine Runs.known 11 (v := true) (by kernel_rfl) hc ?_
      refine Runs.all (by kernel_rfl) ?_
      refine thenN ?_
      exact ⟨(p0, p1, true), h, Le.of (mo := []) (mr := [(327681, 524288)]) (by kernel_rfl) (by kernel_rfl) (by kernel_rfl) (by kernel_rfl)⟩
    · have h := cond_f h hc
      refine Runs.known 11 (v := false) (by kernel_rfl) hc ?_
      refine Runs.batch 2 (by kernel_rfl) ?_
      refine Runs.lenT (y := .t (.sl 1 (p0.map (eInt .u8)))) (e := 5) (eInt .u8) p0 1 rfl rfl rfl (by kernel_rfl) (by kernel_rfl) (by kernel_rfl) (by kernel_rfl) (by kernel_rfl) ?_
      refine Runs.all (by kernel_rfl) ?_
      refine thenN ?_
      exact ⟨(p0, p1, decide (p1 > ((p0.length : Int)))), h, Le.of (mo := []) (mr := [(327681, 524288)]) (by kernel_rfl) (by kernel_rfl) (by kernel_rfl) (by kernel_rfl)⟩
theorem spec_FindSum_ok (u : Nat) (p0 : List Int) (p1 : Sum) (p2 : Int) (r : Int) (h : spec_FindSum u p0 p1 p2 = some r) : CallOK Try.prog 178 [.one (.t (.sl 1 (p0.map (eInt .u8)))), .agg [.t (.int .i64 p1.fW), .t (.int .i64 p1.fS)], .one (.t (.int .i64 p2))] (.one (.t (.int .i64 r))) [] := by
  unfold spec_FindSum at h
  refine CallOK.of_bodyK (fn := Try.f178) (m := false) [.t (.sl 1 (p0.map (eInt .u8))), .agg [.t (.int .i64 p1.fW), .t (.int .i64 p1.fS)], .t (.int .i64 p2)] (by kernel_rfl) rfl (by kernel_rfl) (by kernel_rfl) (by kernel_rfl) (by kernel_rfl) (by kernel_rfl) ?_
  refine Wp.seq ?_
  refine Wp.regionS (pOf []) (rhoOf []) (by kernel_rfl) ?_
  refine Runs.all (by kernel_rfl) ?_
  refine thenN ?_
  refine Wp.le (Le.of (s := ⟨[(0, .t (.sl 1 (p0.map (eInt .u8)))), (2, .t (.int .i64 p2)), (4, .obj 4 0), (6, .t (.int .i64 0))], [(4, [.t (.int .i64 p1.fW), .t (.int .i64 p1.fS)])], []⟩) (mo := []) (mr := []) (by kernel_rfl) (by kernel_rfl) (by kernel_rfl) (by kernel_rfl)) ?_
  refine Wp.seq ?_
  refine Wp.seq ?_
  refine Wp.regionS (pOf []) (rhoOf []) (by kernel_rfl) ?_
  refine Runs.batch 1 (by kernel_rfl) ?_
  obtain ⟨r1, e_r1, h⟩ := bind_some h
  refine Runs.callK false 10 86 [] [.t (.int .i64 p2), .t (.int .i64 1), .t (.int .i64 6)] [.one (.t (.int .i64 p2)), .one (.t (.int .i64 1)), .one (.t (.int .i64 6))] (.one (.t (.bool r1))) [] rfl rfl (by kernel_rfl) (by kernel_rfl) (by kernel_rfl) (by kernel_rfl) (by kernel_rfl) (spec_l1In_ok u p2 1 6 r1 e_r1) (by kernel_rfl) ?_
  refine Runs.all (by kernel_rfl) ?_
  refine thenN ?_
  refine Wp.le (Le.of (s := ⟨[(0, .t (.sl 1 (p0.map (eInt .u8)))), (2, .t (.int .i64 p2)), (4, .obj 4 0), (6, .t (.int .i64 0)), (11, .t (.bool (!r1)))], [(4, [.t (.int .i64 p1.fW), .t (.int .i64 p1.fS)])], []⟩) (mo := []) (mr := []) (by kernel_rfl) (by kernel_rfl) (by kernel_rfl) (by kernel_rfl)) ?_
  refine Wp.cond2 (b := !r1) (by kernel_rfl) (fun hc => ?_) (fun hc => ?_)
  · have h := cond_t h hc
    refine Wp.seq ?_
    refine Wp.regionS (pOf []) (rhoOf []) (by kernel_rfl) ?_
    refine Runs.all (by kernel_rfl) ?_
    refine thenN ?_
    refine Wp.le (Le.of (s := ⟨[(0, .t (.sl 1 (p0.map (eInt .u8)))), (2, .t (.int .i64 p2)), (4, .obj 4 0), (6, .t (.int .i64 (-1)))], [(4, [.t (.int .i64 p1.fW), .t (.int .i64 p1.fS)])], []⟩) (mo := []) (mr := []) (by kernel_rfl) (by kernel_rfl) (by kernel_rfl) (by kernel_rfl)) ?_
    refine Wp.ret ?_
    refine thenR ?_
    have hr := Option.some.inj h
    subst hr
    exact RetK [.t (.int .i64 (-1))] (.one (.t (.int .i64 (-1)))) [] (by kernel_rfl) (by kernel_rfl) (.refl _) .nil
  · have h := cond_f h hc
    refine Wp.skip ?_
    refine thenN ?_
    refine Wp.seq ?_
    refine Wp.regionS (pOf []) (rhoOf []) (by kernel_rfl) ?_
    refine Runs.batch 2 (by kernel_rfl) ?_
    obtain ⟨r2, e_r2, h⟩ := bind_some h
    refine Runs.callK false 14 179 [] [.t (.sl 1 (p0.map (eInt .u8))), .t (.int .i64 p2)] [.one (.t (.sl 1 (p0.map (eInt .u8)))), .one (.t (.int .i64 p2))] (.one (.ow 3 1 (r2.map (eInt .i64)))) [] rfl rfl (by kernel_rfl) (by kernel_rfl) (by kernel_rfl) (by kernel_rfl) (by kernel_rfl) (spec_Windows_ok u p0 p2 r2 e_r2) (by kernel_rfl) ?_
    refine Runs.all (by kernel_rfl) ?_
    refine thenN ?_
    refine Wp.le (Le.of (s := ⟨[(0, .t (.sl 1 (p0.map (eInt .u8)))), (2, .t (.int .i64 p2)), (4, .obj 4 0), (6, .t (.int .i64 0)), (7, .own 917504)], [(4, [.t (.int .i64 p1.fW), .t (.int .i64 p1.fS)])], [(917504, .live 3 1 (r2.map (eInt .i64)))]⟩) (mo := []) (mr := []) (by kernel_rfl) (by kernel_rfl) (by kernel_rfl) (by kernel_rfl)) ?_
    refine Wp.seqJ (α := Unit) (fun a => ⟨[(6, .t (.int .i64 0))], [], []⟩) (fun a => spec_FindSum_j1 u = some r) ?_ ?_
    · rintro ⟨⟩ h
      change spec_FindSum_j1 u = some r at h
      unfold spec_FindSum_j1 at h
      refine Wp.seq ?_
      refine Wp.regionS (pOf []) (rhoOf []) (by kernel_rfl) ?_
      refine Runs.all (by kernel_rfl) ?_
      refine thenN ?_
      refine Wp.le (Le.of (s := ⟨[(6, .t (.int .i64 (-1)))], [], []⟩) (mo := []) (mr := []) (by kernel_rfl) (by kernel_rfl) (by kernel_rfl) (by kernel_rfl)) ?_
      refine Wp.ret ?_
      have hr := Option.some.inj h
      subst hr
      exact RetK [.t (.int .i64 (-1))] (.one (.t (.int .i64 (-1)))) [] (by kernel_rfl) (by kernel_rfl) (.refl _) .nil
    · refine Wp.seq ?_
      refine Wp.regionS (pOf []) (rhoOf []) (by kernel_rfl) ?_
      refine Runs.all (by kernel_rfl) ?_
      refine thenN ?_
      refine Wp.le (Le.of (s := ⟨[(0, .t (.sl 1 (p0.map (eInt .u8)))), (2, .t (.int .i64 p2)), (4, .obj 4 0), (6, .t (.int .i64 0)), (7, .own 917504), (8, .t (.int .i64 0))], [(4, [.t (.int .i64 p1.fW), .t (.int .i64 p1.fS)])], [(917504, .live 3 1 (r2.map (eInt .i64)))]⟩) (mo := []) (mr := []) (by kernel_rfl) (by kernel_rfl) (by kernel_rfl) (by kernel_rfl)) ?_
      refine Wp.block ?_
      refine Wp.loopF (α := (List Int) × Int × ((List Int)) × Int × Sum) (fun a => ⟨[(0, .t (.sl 1 (a.1.map (eInt .u8)))), (2, .t (.int .i64 a.2.1)), (4, .obj 4 0), (6, .t (.int .i64 0)), (7, .own 458753), (8, .t (.int .i64 a.2.2.2.1))], [(4, [.t (.int .i64 a.2.2.2.2.fW), .t (.int .i64 a.2.2.2.2.fS)])], [(458753, .live 3 1 (a.2.2.1.map (eInt .i64)))]⟩) (fun k_spec_FindSum_l2 a => spec_FindSum_l2 u k_spec_FindSum_l2 a.1 a.2.1 a.2.2.1 a.2.2.2.1 a.2.2.2.2 = some r) ?_ ?_ u (p0, p2, r2, 0, p1) h (Le.of (mo := []) (mr := [(458753, 917504)]) (by kernel_rfl) (by kernel_rfl) (by kernel_rfl) (by kernel_rfl))
      · intro a h; unfold spec_FindSum_l2 at h; cases h
      · rintro k_spec_FindSum_l2 ⟨p0, p2, r2, x4, p1⟩ h
        change spec_FindSum_l2 u (k_spec_FindSum_l2 + 1) p0 p2 r2 x4 p1 = some r at h
        rw [spec_FindSum_l2] at h
        refine Wp.seq ?_
        refine Wp.seq ?_
        refine Wp.regionS (pOf []) (rhoOf []) (by kernel_rfl) ?_
        refine Runs.batch 2 (by kernel_rfl) ?_
        refine Runs.lenT (y := .own 458753) (e := 3) (eInt .i64) r2 1 rfl rfl rfl (by kernel_rfl) (by kernel_rfl) (by kernel_rfl) (by kernel_rfl) (by kernel_rfl) ?_
        refine Runs.all (by kernel_rfl) ?_
        refine thenN ?_
        refine Wp.le (Le.of (s := ⟨[(0, .t (.sl 1 (p0.map (eInt .u8)))), (2, .t (.int .i64 p2)), (4, .obj 4 0), (6, .t (.int .i64 0)), (7, .own 458753), (8, .t (.int .i64 x4)), (15, .t (.int .i64 x4)), (16, .own 458753), (17, .t (.int .i64 ((r2.length : Int)))), (18, .t (.bool (decide (x4 < ((r2.length : Int))))))], [(4, [.t (.int .i64 p1.fW), .t (.int .i64 p1.fS)])], [(458753, .live 3 1 (r2.map (eInt .i64)))]⟩) (mo := []) (mr := []) (by kernel_rfl) (by kernel_rfl) (by kernel_rfl) (by kernel_rfl)) ?_
        refine Wp.cond2 (b := decide (x4 < ((r2.length : Int)))) (by kernel_rfl) (fun hc => ?_) (fun hc => ?_)
        · have h := cond_t h hc
          refine Wp.skip ?_
          refine thenN ?_
          refine Wp.seq ?_
          refine Wp.block ?_
          refine Wp.seqJ (α := (List Int) × Int × ((List Int)) × Int × Int × Sum × Bool × Bool) (fun a => ⟨[(0, .t (.sl 1 (a.1.map (eInt .u8)))), (2, .t (.int .i64 a.2.1)), (4, .obj 4 0), (6, .t (.int .i64 0)), (7, .own 458753), (8, .t (.int .i64 a.2.2.2.1)), (15, .t (.int .i64 a.2.2.2.1)), (16, .own 458753), (17, .t (.int .i64 ((a.2.2.1.length : Int)))), (18, .t (.bool (decide (a.2.2.2.1 < ((a.2.2.1.length : Int)))))), (21, .own 458753), (22, .t (.int .i64 a.2.2.2.1)), (24, .t (.int .i64 a.2.2.2.2.1)), (25, .obj 4 0), (26, .t (.int .i64 a.2.2.2.2.2.1.fW)), (27, .t (.bool (a.2.2.2.2.1 == a.2.2.2.2.2.1.fW))), (28, .t (.bool a.2.2.2.2.2.2.1)), (38, .t (.bool a.2.2.2.2.2.2.2))], [(4, [.t (.int .i64 a.2.2.2.2.2.1.fW), .t (.int .i64 a.2.2.2.2.2.1.fS)])], [(458753, .live 3 1 (a.2.2.1.map (eInt .i64)))]⟩) (fun a => spec_FindSum_j3 u (fun z0 z1 z2 z3 z4 => spec_FindSum_l2 u k_spec_FindSum_l2 z0 z1 z2 z3 z4) a.1 a.2.1 a.2.2.1 a.2.2.2.1 a.2.2.2.2.1 a.2.2.2.2.2.1 a.2.2.2.2.2.2.1 a.2.2.2.2.2.2.2 = some r) ?_ ?_
          · rintro ⟨p0, p2, r2, x4, y6, p1, x2006, x2007⟩ h
            change spec_FindSum_j3 u (fun z0 z1 z2 z3 z4 => spec_FindSum_l2 u k_spec_FindSum_l2 z0 z1 z2 z3 z4) p0 p2 r2 x4 y6 p1 x2006 x2007 = some r at h
            unfold spec_FindSum_j3 at h
            refine Wp.cond2 (b := x2007) (by kernel_rfl) (fun hc => ?_) (fun hc => ?_)
            · have h := cond_t h hc
              refine Wp.seq ?_
              refine Wp.regionS (pOf []) (rhoOf []) (by kernel_rfl) ?_
              refine Runs.all (by kernel_rfl) ?_
              refine thenN ?_
              refine Wp.le (Le.of (s := ⟨[(0, .t (.sl 1 (p0.map (eInt .u8)))), (2, .t (.int .i64 p2)), (4, .obj 4 0), (6, .t (.int .i64 x4)), (7, .own 458753), (8, .t (.int .i64 x4)), (15, .t (.int .i64 x4)), (16, .own 458753), (17, .t (.int .i64 ((r2.length : Int)))), (18, .t (.bool (decide (x4 < ((r2.length : Int)))))), (21, .own 458753), (22, .t (.int .i64 x4)), (24, .t (.int .i64 y6)), (25, .obj 4 0), (26, .t (.int .i64 p1.fW)), (27, .t (.bool (y6 == p1.fW))), (28, .t (.bool x2006)), (38, .t (.bool x2007)), (39, .t (.int .i64 x4))], [(4, [.t (.int .i64 p1.fW), .t (.int .i64 p1.fS)])], [(458753, .live 3 1 (r2.map (eInt .i64)))]⟩) (mo := []) (mr := []) (by kernel_rfl) (by kernel_rfl) (by kernel_rfl) (by kernel_rfl)) ?_
              refine Wp.ret ?_
              refine blkR ?_
              refine thenR ?_
              refine thenR ?_
              refine blkR ?_
              refine thenR ?_
              have hr := Option.some.inj h
              subst hr
              exact RetK [.t (.int .i64 x4)] (.one (.t (.int .i64 x4))) [] (by kernel_rfl) (by kernel_rfl) (.refl _) .nil
            · have h := cond_f h hc
              refine Wp.skip ?_
              refine blkN ?_
              refine thenN ?_
              refine Wp.regionS (pOf []) (rhoOf []) (by kernel_rfl) ?_
              refine Runs.all (by kernel_rfl) ?_
              refine thenN ?_
              exact ⟨(p0, p2, r2, bAdd .i64 x4 1, p1), h, Le.of (mo := []) (mr := []) (by kernel_rfl) (by kernel_rfl) (by kernel_rfl) (by kernel_rfl)⟩
          · refine Wp.regionA (pOf []) (rhoOf [(0, .frz), (2, .frz), (4, .obj 4), (7, .own 7), (8, .frz), (21, .own 7), (22, .frz), (23, .el 7), (24, .frz), (25, .obj 4), (26, .frz), (27, .frz), (28, .frz), (29, .frz), (30, .frz), (31, .frz), (32, .frz), (33, .frz), (34, .frz), (35, .frz), (36, .frz)]) (by kernel_rfl) (by kernel_rfl) ?_
            refine Runs.batch 2 (by kernel_rfl) ?_
            obtain ⟨y6, e_y6, h⟩ := bind_some h
            refine Runs.idxO (e := 3) (e' := 3) (kk := .i64) (sz := 1) (eInt .i64) r2 x4 458753 rfl (by kernel_rfl) (by kernel_rfl) (by kernel_rfl) (by kernel_rfl) (by kernel_rfl) (by kernel_rfl) (by kernel_rfl) e_y6 ?_
            refine Runs.loadE (e' := 3) (sz := 1) (m := 1) (gg := false) (eInt .i64) r2 458753 (Int.toNat x4) 0 (.t (.int .i64 y6)) rfl (by kernel_rfl) (by kernel_rfl) (by kernel_rfl) (by kernel_rfl) (by kernel_rfl) (by kernel_rfl) (idx_some e_y6).2 (by kernel_rfl) ?_
            refine Runs.batch 4 (by kernel_rfl) ?_
            rcases tf (y6 == p1.fW) with hc | hc
            · have h := cond_t h hc
              refine Runs.known 28 (v := true) (by kernel_rfl) hc ?_
              refine Runs.batch 5 (by kernel_rfl) ?_
              obtain ⟨_, e_7, h⟩ := bind_some h
              refine Runs.subsl (e := 5) (ax := .t (.sl 1 (p0.map (eInt .u8)))) (alo := (some (.t (.int .i64 x4)))) (ahi := (some (.t (.int .i64 (bAdd .i64 x4 p2))))) (eInt .u8) p0 1 x4 (bAdd .i64 x4 p2) rfl (by kernel_rfl) (by kernel_rfl) (by kernel_rfl) (by kernel_rfl) (by kernel_rfl) (by kernel_rfl) (by kernel_rfl) (by kernel_rfl) (by kernel_rfl) (by kernel_rfl) (chk_some e_7) ?_
              obtain ⟨r8, e_r8, h⟩ := bind_some h
              refine Runs.callK false 35 159 [] [.t (.sl 1 (((p0.take (Int.toNat (bAdd .i64 x4 p2))).drop (Int.toNat x4)).map (eInt .u8)))] [.one (.t (.sl 1 (((p0.take (Int.toNat (bAdd .i64 x4 p2))).drop (Int.toNat x4)).map (eInt .u8))))] (.agg [.t (.int .i64 r8.fW), .t (.int .i64 r8.fS)]) [] rfl rfl (by kernel_rfl) (by kernel_rfl) (by kernel_rfl) (by kernel_rfl) (by kernel_rfl) (spec_SumOf_ok u ((p0.take (Int.toNat (bAdd .i64 x4 p2))).drop (Int.toNat x4)) r8 e_r8) (by kernel_rfl) ?_
              refine Runs.all (by kernel_rfl) ?_
              refine thenN ?_
              exact ⟨(p0, p2, r2, x4, y6, p1, true, [r8.fW, r8.fS] == [p1.fW, p1.fS]), h, Le.of (mo := []) (mr := []) (by kernel_rfl) (by kernel_rfl) (by kernel_rfl) (by kernel_rfl)⟩
            · have h := cond_f h hc
              refine Runs.known 28 (v := false) (by kernel_rfl) hc ?_
              refine Runs.all (by kernel_rfl) ?_
              refine thenN ?_
              exact ⟨(p0, p2, r2, x4, y6, p1, false, false), h, Le.of (mo := []) (mr := []) (by kernel_rfl) (by kernel_rfl) (by kernel_rfl) (by kernel_rfl)⟩
        · have h := cond_f h hc
          refine Wp.exit ?_
          refine thenE ?_
          refine thenE ?_
          refine blkE ?_
          refine thenN ?_
          exact ⟨(), h, Le.of (mo := []) (mr := []) (by kernel_rfl) (by kernel_rfl) (by kernel_rfl) (by kernel_rfl)⟩
theorem spec_PlaceOf_ok (u : Nat) (p0 : List Int) (p1 : Manifest) (p2 : Int) (r : Int) (h : spec_PlaceOf u p0 p1 p2 = some r) : CallOK Try.prog 174 [.one (.t (.sl 1 (p0.map (eInt .u8)))), .agg [.t (.int .i64 p1.fGen), .t (.int .i64 p1.fSize), .t (.int .i64 p1.fLen), .t (.sl 2 (p1.fSums.map Sum.enc))], .one (.t (.int .i64 p2))] (.one (.t (.int .i64 r))) [] := by
  unfold spec_PlaceOf at h
  refine CallOK.of_bodyK (fn := Try.f174) (m := false) [.t (.sl 1 (p0.map (eInt .u8))), .agg [.t (.int .i64 p1.fGen), .t (.int .i64 p1.fSize), .t (.int .i64 p1.fLen), .t (.sl 2 (p1.fSums.map Sum.enc))], .t (.int .i64 p2)] (by kernel_rfl) rfl (by kernel_rfl) (by kernel_rfl) (by kernel_rfl) (by kernel_rfl) (by kernel_rfl) ?_
  refine Wp.seq ?_
  refine Wp.regionS (pOf []) (rhoOf []) (by kernel_rfl) ?_
  refine Runs.all (by kernel_rfl) ?_
  refine thenN ?_
  refine Wp.le (Le.of (s := ⟨[(0, .t (.sl 1 (p0.map (eInt .u8)))), (2, .t (.int .i64 p2)), (4, .obj 4 0), (6, .t (.int .i64 0))], [(4, [.t (.int .i64 p1.fGen), .t (.int .i64 p1.fSize), .t (.int .i64 p1.fLen), .t (.sl 2 (p1.fSums.map Sum.enc))])], []⟩) (mo := []) (mr := []) (by kernel_rfl) (by kernel_rfl) (by kernel_rfl) (by kernel_rfl)) ?_
  refine Wp.seq ?_
  refine Wp.regionS (pOf []) (rhoOf []) (by kernel_rfl) ?_
  refine Runs.batch 5 (by kernel_rfl) ?_
  obtain ⟨r1, e_r1, h⟩ := bind_some h
  refine Runs.callK false 15 133 [] [.t (.int .i64 p1.fSize), .t (.int .i64 p1.fLen), .t (.int .i64 p2)] [.one (.t (.int .i64 p1.fSize)), .one (.t (.int .i64 p1.fLen)), .one (.t (.int .i64 p2))] (.tup [.one (.t (.int .i64 r1.1)), .one (.t (.int .i64 r1.2))]) [] rfl rfl (by kernel_rfl) (by kernel_rfl) (by kernel_rfl) (by kernel_rfl) (by kernel_rfl) (spec_SpanOf_ok u p1.fSize p1.fLen p2 r1 e_r1) (by kernel_rfl) ?_
  refine Runs.all (by kernel_rfl) ?_
  refine thenN ?_
  refine Wp.le (Le.of (s := ⟨[(0, .t (.sl 1 (p0.map (eInt .u8)))), (2, .t (.int .i64 p2)), (4, .obj 4 0), (6, .t (.int .i64 0)), (8, .t (.int .i64 r1.2))], [(4, [.t (.int .i64 p1.fGen), .t (.int .i64 p1.fSize), .t (.int .i64 p1.fLen), .t (.sl 2 (p1.fSums.map Sum.enc))])], []⟩) (mo := []) (mr := []) (by kernel_rfl) (by kernel_rfl) (by kernel_rfl) (by kernel_rfl)) ?_
  refine Wp.seq ?_
  refine Wp.seqJ (α := (List Int) × Int × (Int × Int) × Bool × Manifest) (fun a => ⟨[(0, .t (.sl 1 (a.1.map (eInt .u8)))), (2, .t (.int .i64 a.2.1)), (4, .obj 4 0), (6, .t (.int .i64 0)), (8, .t (.int .i64 a.2.2.1.2)), (26, .t (.bool a.2.2.2.1))], [(4, [.t (.int .i64 a.2.2.2.2.fGen), .t (.int .i64 a.2.2.2.2.fSize), .t (.int .i64 a.2.2.2.2.fLen), .t (.sl 2 (a.2.2.2.2.fSums.map Sum.enc))])], []⟩) (fun a => spec_PlaceOf_j1 u a.1 a.2.1 a.2.2.1 a.2.2.2.1 a.2.2.2.2 = some r) ?_ ?_
  · rintro ⟨p0, p2, r1, x2002, p1⟩ h
    change spec_PlaceOf_j1 u p0 p2 r1 x2002 p1 = some r at h
    unfold spec_PlaceOf_j1 at h
    refine Wp.cond2 (b := x2002) (by kernel_rfl) (fun hc => ?_) (fun hc => ?_)
    · have h := cond_t h hc
      refine Wp.seq ?_
      refine Wp.regionS (pOf []) (rhoOf []) (by kernel_rfl) ?_
      refine Runs.all (by kernel_rfl) ?_
      refine thenN ?_
      refine Wp.le (Le.of (s := ⟨[(0, .t (.sl 1 (p0.map (eInt .u8)))), (2, .t (.int .i64 p2)), (4, .obj 4 0), (6, .t (.int .i64 (-1))), (8, .t (.int .i64 r1.2))], [(4, [.t (.int .i64 p1.fGen), .t (.int .i64 p1.fSize), .t (.int .i64 p1.fLen), .t (.sl 2 (p1.fSums.map Sum.enc))])], []⟩) (mo := []) (mr := []) (by kernel_rfl) (by kernel_rfl) (by kernel_rfl) (by kernel_rfl)) ?_
      refine Wp.ret ?_
      refine thenR ?_
      have hr := Option.some.inj h
      subst hr
      exact RetK [.t (.int .i64 (-1))] (.one (.t (.int .i64 (-1)))) [] (by kernel_rfl) (by kernel_rfl) (.refl _) .nil
    · have h := cond_f h hc
      refine Wp.skip ?_
      refine thenN ?_
      refine Wp.seq ?_
      refine Wp.regionS (pOf []) (rhoOf []) (by kernel_rfl) ?_
      refine Runs.batch 4 (by kernel_rfl) ?_
      obtain ⟨y2003, e_y2003, h⟩ := bind_some h
      refine Runs.idxT (e := 130) (kk := .i64) (sz := 2) Sum.enc p1.fSums p2 rfl (by kernel_rfl) (by kernel_rfl) (by kernel_rfl) (by kernel_rfl) (by kernel_rfl) (by kernel_rfl) e_y2003 ?_
      refine Runs.batch 2 (by kernel_rfl) ?_
      obtain ⟨r2004, e_r2004, h⟩ := bind_some h
      refine Runs.callK false 34 178 [] [.t (.sl 1 (p0.map (eInt .u8))), .agg [.t (.int .i64 y2003.fW), .t (.int .i64 y2003.fS)], .t (.int .i64 r1.2)] [.one (.t (.sl 1 (p0.map (eInt .u8)))), .agg [.t (.int .i64 y2003.fW), .t (.int .i64 y2003.fS)], .one (.t (.int .i64 r1.2))] (.one (.t (.int .i64 r2004))) [] rfl rfl (by kernel_rfl) (by kernel_rfl) (by kernel_rfl) (by kernel_rfl) (by kernel_rfl) (spec_FindSum_ok u p0 y2003 r1.2 r2004 e_r2004) (by kernel_rfl) ?_
      refine Runs.all (by kernel_rfl) ?_
      refine thenN ?_
      refine Wp.le (Le.of (s := ⟨[(6, .t (.int .i64 r2004))], [], []⟩) (mo := []) (mr := []) (by kernel_rfl) (by kernel_rfl) (by kernel_rfl) (by kernel_rfl)) ?_
      refine Wp.ret ?_
      have hr := Option.some.inj h
      subst hr
      exact RetK [.t (.int .i64 r2004)] (.one (.t (.int .i64 r2004))) [] (by kernel_rfl) (by kernel_rfl) (.refl _) .nil
  · refine Wp.regionS (pOf []) (rhoOf []) (by kernel_rfl) ?_
    refine Runs.batch 3 (by kernel_rfl) ?_
    rcases tf (r1.2 == 0) with hc | hc
    · have h := cond_t h hc
      refine Runs.known 20 (v := true) (by kernel_rfl) hc ?_
      refine Runs.all (by kernel_rfl) ?_
      refine thenN ?_
      exact ⟨(p0, p2, r1, true, p1), h, Le.of (mo := []) (mr := []) (by kernel_rfl) (by kernel_rfl) (by kernel_rfl) (by kernel_rfl)⟩
    · have h := cond_f h hc
      refine Runs.known 20 (v := false) (by kernel_rfl) hc ?_
      refine Runs.batch 3 (by kernel_rfl) ?_
      refine Runs.lenT (y := .t (.sl 2 (p1.fSums.map Sum.enc))) (e := 130) Sum.enc p1.fSums 2 rfl rfl rfl (by kernel_rfl) (by kernel_rfl) (by kernel_rfl) (by kernel_rfl) (by kernel_rfl) ?_
      refine Runs.all (by kernel_rfl) ?_
      refine thenN ?_
      exact ⟨(p0, p2, r1, decide (p2 ≥ ((p1.fSums.length : Int))), p1), h, Le.of (mo := []) (mr := []) (by kernel_rfl) (by kernel_rfl) (by kernel_rfl) (by kernel_rfl)⟩
theorem spec_SetOk_ok (u : Nat) (p0 : Int) (r : Bool) (h : spec_SetOk u p0 = some r) : CallOK Try.prog 142 [.one (.t (.int .i64 p0))] (.one (.t (.bool r))) [] := by
  unfold spec_SetOk at h
  refine CallOK.of_bodyK (fn := Try.f142) (m := false) [.t (.int .i64 p0)] (by kernel_rfl) rfl (by kernel_rfl) (by kernel_rfl) (by kernel_rfl) (by kernel_rfl) (by kernel_rfl) ?_
  refine Wp.seq ?_
  refine Wp.regionS (pOf []) (rhoOf []) (by kernel_rfl) ?_
  refine Runs.all (by kernel_rfl) ?_
  refine thenN ?_
  refine Wp.le (Le.of (s := ⟨[(0, .t (.int .i64 p0)), (2, .t (.bool false))], [], []⟩) (mo := []) (mr := []) (by kernel_rfl) (by kernel_rfl) (by kernel_rfl) (by kernel_rfl)) ?_
  refine Wp.seq ?_
  refine Wp.regionS (pOf []) (rhoOf []) (by kernel_rfl) ?_
  refine Runs.batch 1 (by kernel_rfl) ?_
  obtain ⟨r1, e_r1, h⟩ := bind_some h
  refine Runs.callK false 4 86 [] [.t (.int .i64 p0), .t (.int .i64 0), .t (.int .i64 1099511627775)] [.one (.t (.int .i64 p0)), .one (.t (.int .i64 0)), .one (.t (.int .i64 1099511627775))] (.one (.t (.bool r1))) [] rfl rfl (by kernel_rfl) (by kernel_rfl) (by kernel_rfl) (by kernel_rfl) (by kernel_rfl) (spec_l1In_ok u p0 0 1099511627775 r1 e_r1) (by kernel_rfl) ?_
  refine Runs.all (by kernel_rfl) ?_
  refine thenN ?_
  refine Wp.le (Le.of (s := ⟨[(2, .t (.bool r1))], [], []⟩) (mo := []) (mr := []) (by kernel_rfl) (by kernel_rfl) (by kernel_rfl) (by kernel_rfl)) ?_
  refine Wp.ret ?_
  have hr := Option.some.inj h
  subst hr
  exact RetK [.t (.bool r1)] (.one (.t (.bool r1))) [] (by kernel_rfl) (by kernel_rfl) (.refl _) .nil
theorem spec_WithPart_ok (u : Nat) (p0 : Int) (p1 : Int) (r : Int) (h : spec_WithPart u p0 p1 = some r) : CallOK Try.prog 175 [.one (.t (.int .i64 p0)), .one (.t (.int .i64 p1))] (.one (.t (.int .i64 r))) [] := by
  unfold spec_WithPart at h
  refine CallOK.of_bodyK (fn := Try.f175) (m := false) [.t (.int .i64 p0), .t (.int .i64 p1)] (by kernel_rfl) rfl (by kernel_rfl) (by kernel_rfl) (by kernel_rfl) (by kernel_rfl) (by kernel_rfl) ?_
  refine Wp.seq ?_
  refine Wp.regionS (pOf []) (rhoOf []) (by kernel_rfl) ?_
  refine Runs.all (by kernel_rfl) ?_
  refine thenN ?_
  refine Wp.le (Le.of (s := ⟨[(0, .t (.int .i64 p0)), (1, .t (.int .i64 p1)), (4, .t (.int .i64 0))], [], []⟩) (mo := []) (mr := []) (by kernel_rfl) (by kernel_rfl) (by kernel_rfl) (by kernel_rfl)) ?_
  refine Wp.seq ?_
  refine Wp.seqJ (α := Int × Int × Bool) (fun a => ⟨[(0, .t (.int .i64 a.1)), (1, .t (.int .i64 a.2.1)), (4, .t (.int .i64 0)), (12, .t (.bool a.2.2))], [], []⟩) (fun a => spec_WithPart_j1 u a.1 a.2.1 a.2.2 = some r) ?_ ?_
  · rintro ⟨p0, p1, x2001⟩ h
    change spec_WithPart_j1 u p0 p1 x2001 = some r at h
    unfold spec_WithPart_j1 at h
    refine Wp.cond2 (b := x2001) (by kernel_rfl) (fun hc => ?_) (fun hc => ?_)
    · have h := cond_t h hc
      refine Wp.seq ?_
      refine Wp.regionS (pOf []) (rhoOf []) (by kernel_rfl) ?_
      refine Runs.all (by kernel_rfl) ?_
      refine thenN ?_
      refine Wp.le (Le.of (s := ⟨[(0, .t (.int .i64 p0)), (1, .t (.int .i64 p1)), (4, .t (.int .i64 p0))], [], []⟩) (mo := []) (mr := []) (by kernel_rfl) (by kernel_rfl) (by kernel_rfl) (by kernel_rfl)) ?_
      refine Wp.ret ?_
      refine thenR ?_
      have hr := Option.some.inj h
      subst hr
      exact RetK [.t (.int .i64 p0)] (.one (.t (.int .i64 p0))) [] (by kernel_rfl) (by kernel_rfl) (.refl _) .nil
    · have h := cond_f h hc
      refine Wp.skip ?_
      refine thenN ?_
      refine Wp.seq ?_
      refine Wp.regionS (pOf []) (rhoOf []) (by kernel_rfl) ?_
      refine Runs.batch 2 (by kernel_rfl) ?_
      obtain ⟨_, e_2002, h⟩ := bind_some h
      refine Runs.num .shl (.int .i64 1) (.int .i64 p1) (.int .i64 (bShl .i64 1 p1)) rfl (by kernel_rfl) (by kernel_rfl) (by kernel_rfl) (by kernel_rfl) (bin_shl _ _ _ _ _ (chk_some e_2002)) ?_
      refine Runs.all (by kernel_rfl) ?_
      refine thenN ?_
      refine Wp.le (Le.of (s := ⟨[(4, .t (.int .i64 (bOr .i64 p0 (bShl .i64 1 p1))))], [], []⟩) (mo := []) (mr := []) (by kernel_rfl) (by kernel_rfl) (by kernel_rfl) (by kernel_rfl)) ?_
      refine Wp.ret ?_
      have hr := Option.some.inj h
      subst hr
      exact RetK [.t (.int .i64 (bOr .i64 p0 (bShl .i64 1 p1)))] (.one (.t (.int .i64 (bOr .i64 p0 (bShl .i64 1 p1))))) [] (by kernel_rfl) (by kernel_rfl) (.refl _) .nil
  · refine Wp.regionS (pOf []) (rhoOf []) (by kernel_rfl) ?_
    refine Runs.batch 1 (by kernel_rfl) ?_
    obtain ⟨r1, e_r1, h⟩ := bind_some h
    refine Runs.callK false 6 142 [] [.t (.int .i64 p0)] [.one (.t (.int .i64 p0))] (.one (.t (.bool r1))) [] rfl rfl (by kernel_rfl) (by kernel_rfl) (by kernel_rfl) (by kernel_rfl) (by kernel_rfl) (spec_SetOk_ok u p0 r1 e_r1) (by kernel_rfl) ?_
    refine Runs.batch 2 (by kernel_rfl) ?_
    rcases tf (!r1) with hc | hc
    · have h := cond_t h hc
      refine Runs.known 8 (v := true) (by kernel_rfl) hc ?_
      refine Runs.all (by kernel_rfl) ?_
      refine thenN ?_
      exact ⟨(p0, p1, true), h, Le.of (mo := []) (mr := []) (by kernel_rfl) (by kernel_rfl) (by kernel_rfl) (by kernel_rfl)⟩
    · have h := cond_f h hc
      refine Runs.known 8 (v := false) (by kernel_rfl) hc ?_
      refine Runs.batch 1 (by kernel_rfl) ?_
      obtain ⟨r2, e_r2, h⟩ := bind_some h
      refine Runs.callK false 10 86 [] [.t (.int .i64 p1), .t (.int .i64 0), .t (.int .i64 39)] [.one (.t (.int .i64 p1)), .one (.t (.int .i64 0)), .one (.t (.int .i64 39))] (.one (.t (.bool r2))) [] rfl rfl (by kernel_rfl) (by kernel_rfl) (by kernel_rfl) (by kernel_rfl) (by kernel_rfl) (spec_l1In_ok u p1 0 39 r2 e_r2) (by kernel_rfl) ?_
      refine Runs.all (by kernel_rfl) ?_
      refine thenN ?_
      exact ⟨(p0, p1, !r2), h, Le.of (mo := []) (mr := []) (by kernel_rfl) (by kernel_rfl) (by kernel_rfl) (by kernel_rfl)⟩
theorem spec_Found_ok (u : Nat) (p0 : List Int) (p1 : Manifest) (r : Int) (h : spec_Found u p0 p1 = some r) : CallOK Try.prog 162 [.one (.t (.sl 1 (p0.map (eInt .u8)))), .agg [.t (.int .i64 p1.fGen), .t (.int .i64 p1.fSize), .t (.int .i64 p1.fLen), .t (.sl 2 (p1.fSums.map Sum.enc))]] (.one (.t (.int .i64 r))) [] := by
  unfold spec_Found at h
  refine CallOK.of_bodyK (fn := Try.f162) (m := false) [.t (.sl 1 (p0.map (eInt .u8))), .agg [.t (.int .i64 p1.fGen), .t (.int .i64 p1.fSize), .t (.int .i64 p1.fLen), .t (.sl 2 (p1.fSums.map Sum.enc))]] (by kernel_rfl) rfl (by kernel_rfl) (by kernel_rfl) (by kernel_rfl) (by kernel_rfl) (by kernel_rfl) ?_
  refine Wp.seq ?_
  refine Wp.regionS (pOf []) (rhoOf []) (by kernel_rfl) ?_
  refine Runs.all (by kernel_rfl) ?_
  refine thenN ?_
  refine Wp.le (Le.of (s := ⟨[(0, .t (.sl 1 (p0.map (eInt .u8)))), (3, .obj 3 0), (4, .t (.int .i64 0))], [(3, [.t (.int .i64 p1.fGen), .t (.int .i64 p1.fSize), .t (.int .i64 p1.fLen), .t (.sl 2 (p1.fSums.map Sum.enc))])], []⟩) (mo := []) (mr := []) (by kernel_rfl) (by kernel_rfl) (by kernel_rfl) (by kernel_rfl)) ?_
  refine Wp.seq ?_
  refine Wp.regionS (pOf []) (rhoOf []) (by kernel_rfl) ?_
  refine Runs.all (by kernel_rfl) ?_
  refine thenN ?_
  refine Wp.le (Le.of (s := ⟨[(0, .t (.sl 1 (p0.map (eInt .u8)))), (3, .obj 3 0), (4, .t (.int .i64 0)), (5, .t (.int .i64 0))], [(3, [.t (.int .i64 p1.fGen), .t (.int .i64 p1.fSize), .t (.int .i64 p1.fLen), .t (.sl 2 (p1.fSums.map Sum.enc))])], []⟩) (mo := []) (mr := []) (by kernel_rfl) (by kernel_rfl) (by kernel_rfl) (by kernel_rfl)) ?_
  refine Wp.seqJ (α := Int) (fun a => ⟨[(4, .t (.int .i64 0)), (5, .t (.int .i64 a))], [], []⟩) (fun a => spec_Found_j1 u a = some r) ?_ ?_
  · rintro x2001 h
    change spec_Found_j1 u x2001 = some r at h
    unfold spec_Found_j1 at h
    refine Wp.seq ?_
    refine Wp.regionS (pOf []) (rhoOf []) (by kernel_rfl) ?_
    refine Runs.all (by kernel_rfl) ?_
    refine thenN ?_
    refine Wp.le (Le.of (s := ⟨[(4, .t (.int .i64 x2001))], [], []⟩) (mo := []) (mr := []) (by kernel_rfl) (by kernel_rfl) (by kernel_rfl) (by kernel_rfl)) ?_
    refine Wp.ret ?_
    have hr := Option.some.inj h
    subst hr
    exact RetK [.t (.int .i64 x2001)] (.one (.t (.int .i64 x2001))) [] (by kernel_rfl) (by kernel_rfl) (.refl _) .nil
  · refine Wp.seq ?_
    refine Wp.regionS (pOf []) (rhoOf []) (by kernel_rfl) ?_
    refine Runs.all (by kernel_rfl) ?_
    refine thenN ?_
    refine Wp.le (Le.of (s := ⟨[(0, .t (.sl 1 (p0.map (eInt .u8)))), (3, .obj 3 0), (4, .t (.int .i64 0)), (5, .t (.int .i64 0)), (6, .t (.int .i64 0))], [(3, [.t (.int .i64 p1.fGen), .t (.int .i64 p1.fSize), .t (.int .i64 p1.fLen), .t (.sl 2 (p1.fSums.map Sum.enc))])], []⟩) (mo := []) (mr := []) (by kernel_rfl) (by kernel_rfl) (by kernel_rfl) (by kernel_rfl)) ?_
    refine Wp.block ?_
    refine Wp.loopF (α := (List Int) × Int × Int × Manifest) (fun a => ⟨[(0, .t (.sl 1 (a.1.map (eInt .u8)))), (3, .obj 3 0), (4, .t (.int .i64 0)), (5, .t (.int .i64 a.2.1)), (6, .t (.int .i64 a.2.2.1))], [(3, [.t (.int .i64 a.2.2.2.fGen), .t (.int .i64 a.2.2.2.fSize), .t (.int .i64 a.2.2.2.fLen), .t (.sl 2 (a.2.2.2.fSums.map Sum.enc))])], []⟩) (fun k_spec_Found_l2 a => spec_Found_l2 u k_spec_Found_l2 a.1 a.2.1 a.2.2.1 a.2.2.2 = some r) ?_ ?_ u (p0, 0, 0, p1) h (Le.of (mo := []) (mr := []) (by kernel_rfl) (by kernel_rfl) (by kernel_rfl) (by kernel_rfl))
    · intro a h; unfold spec_Found_l2 at h; cases h
    · rintro k_spec_Found_l2 ⟨p0, x3, x4, p1⟩ h
      change spec_Found_l2 u (k_spec_Found_l2 + 1) p0 x3 x4 p1 = some r at h
      rw [spec_Found_l2] at h
      refine Wp.seq ?_
      refine Wp.seqJ (α := (List Int) × Int × Int × Manifest × Bool × Bool) (fun a => ⟨[(0, .t (.sl 1 (a.1.map (eInt .u8)))), (3, .obj 3 0), (4, .t (.int .i64 0)), (5, .t (.int .i64 a.2.1)), (6, .t (.int .i64 a.2.2.1)), (7, .t (.int .i64 a.2.2.1)), (8, .obj 3 3), (9, .t (.sl 2 (a.2.2.2.1.fSums.map Sum.enc))), (10, .t (.int .i64 ((a.2.2.2.1.fSums.length : Int)))), (11, .t (.bool (decide (a.2.2.1 < ((a.2.2.2.1.fSums.length : Int)))))), (12, .t (.bool a.2.2.2.2.1)), (15, .t (.bool a.2.2.2.2.2))], [(3, [.t (.int .i64 a.2.2.2.1.fGen), .t (.int .i64 a.2.2.2.1.fSize), .t (.int .i64 a.2.2.2.1.fLen), .t (.sl 2 (a.2.2.2.1.fSums.map Sum.enc))])], []⟩) (fun a => spec_Found_j3 u (fun z0 z1 z2 z3 => spec_Found_l2 u k_spec_Found_l2 z0 z1 z2 z3) a.1 a.2.1 a.2.2.1 a.2.2.2.1 a.2.2.2.2.1 a.2.2.2.2.2 = some r) ?_ ?_
      · rintro ⟨p0, x3, x4, p1, x2007, x2008⟩ h
        change spec_Found_j3 u (fun z0 z1 z2 z3 => spec_Found_l2 u k_spec_Found_l2 z0 z1 z2 z3) p0 x3 x4 p1 x2007 x2008 = some r at h
        unfold spec_Found_j3 at h
        refine Wp.cond2 (b := x2008) (by kernel_rfl) (fun hc => ?_) (fun hc => ?_)
        · have h := cond_t h hc
          refine Wp.skip ?_
          refine thenN ?_
          refine Wp.seqJ (α := (List Int) × Int × Int × Manifest × Bool × Bool × Int) (fun a => ⟨[(0, .t (.sl 1 (a.1.map (eInt .u8)))), (3, .obj 3 0), (4, .t (.int .i64 0)), (5, .t (.int .i64 a.2.1)), (6, .t (.int .i64 a.2.2.1)), (7, .t (.int .i64 a.2.2.1)), (8, .obj 3 3), (9, .t (.sl 2 (a.2.2.2.1.fSums.map Sum.enc))), (10, .t (.int .i64 ((a.2.2.2.1.fSums.length : Int)))), (11, .t (.bool (decide (a.2.2.1 < ((a.2.2.2.1.fSums.length : Int)))))), (12, .t (.bool a.2.2.2.2.1)), (15, .t (.bool a.2.2.2.2.2.1)), (18, .t (.sl 1 (a.1.map (eInt .u8)))), (19, .agg [.t (.int .i64 a.2.2.2.1.fGen), .t (.int .i64 a.2.2.2.1.fSize), .t (.int .i64 a.2.2.2.1.fLen), .t (.sl 2 (a.2.2.2.1.fSums.map Sum.enc))]), (20, .t (.int .i64 a.2.2.1)), (21, .t (.int .i64 a.2.2.2.2.2.2)), (22, .t (.bool (decide (a.2.2.2.2.2.2 ≥ 0))))], [(3, [.t (.int .i64 a.2.2.2.1.fGen), .t (.int .i64 a.2.2.2.1.fSize), .t (.int .i64 a.2.2.2.1.fLen), .t (.sl 2 (a.2.2.2.1.fSums.map Sum.enc))])], []⟩) (fun a => spec_Found_j4 u (fun z0 z1 z2 z3 => spec_Found_l2 u k_spec_Found_l2 z0 z1 z2 z3) a.1 a.2.1 a.2.2.1 a.2.2.2.1 a.2.2.2.2.1 a.2.2.2.2.2.1 a.2.2.2.2.2.2 = some r) ?_ ?_
          · rintro ⟨p0, x4009, x4, p1, x2007, x2008, r2009⟩ h
            change spec_Found_j4 u (fun z0 z1 z2 z3 => spec_Found_l2 u k_spec_Found_l2 z0 z1 z2 z3) p0 x4009 x4 p1 x2007 x2008 r2009 = some r at h
            unfold spec_Found_j4 at h
            refine Wp.regionS (pOf []) (rhoOf []) (by kernel_rfl) ?_
            refine Runs.all (by kernel_rfl) ?_
            refine thenN ?_
            exact ⟨(p0, x4009, bAdd .i64 x4 1, p1), h, Le.of (mo := []) (mr := []) (by kernel_rfl) (by kernel_rfl) (by kernel_rfl) (by kernel_rfl)⟩
          · refine Wp.block ?_
            refine Wp.seq ?_
            refine Wp.regionS (pOf []) (rhoOf []) (by kernel_rfl) ?_
            refine Runs.batch 3 (by kernel_rfl) ?_
            obtain ⟨r2009, e_r2009, h⟩ := bind_some h
            refine Runs.callK false 21 174 [] [.t (.sl 1 (p0.map (eInt .u8))), .agg [.t (.int .i64 p1.fGen), .t (.int .i64 p1.fSize), .t (.int .i64 p1.fLen), .t (.sl 2 (p1.fSums.map Sum.enc))], .t (.int .i64 x4)] [.one (.t (.sl 1 (p0.map (eInt .u8)))), .agg [.t (.int .i64 p1.fGen), .t (.int .i64 p1.fSize), .t (.int .i64 p1.fLen), .t (.sl 2 (p1.fSums.map Sum.enc))], .one (.t (.int .i64 x4))] (.one (.t (.int .i64 r2009))) [] rfl rfl (by kernel_rfl) (by kernel_rfl) (by kernel_rfl) (by kernel_rfl) (by kernel_rfl) (spec_PlaceOf_ok u p0 p1 x4 r2009 e_r2009) (by kernel_rfl) ?_
            refine Runs.all (by kernel_rfl) ?_
            refine thenN ?_
            refine Wp.le (Le.of (s := ⟨[(0, .t (.sl 1 (p0.map (eInt .u8)))), (3, .obj 3 0), (4, .t (.int .i64 0)), (5, .t (.int .i64 x3)), (6, .t (.int .i64 x4)), (7, .t (.int .i64 x4)), (8, .obj 3 3), (9, .t (.sl 2 (p1.fSums.map Sum.enc))), (10, .t (.int .i64 ((p1.fSums.length : Int)))), (11, .t (.bool (decide (x4 < ((p1.fSums.length : Int)))))), (12, .t (.bool x2007)), (15, .t (.bool x2008)), (18, .t (.sl 1 (p0.map (eInt .u8)))), (19, .agg [.t (.int .i64 p1.fGen), .t (.int .i64 p1.fSize), .t (.int .i64 p1.fLen), .t (.sl 2 (p1.fSums.map Sum.enc))]), (20, .t (.int .i64 x4)), (21, .t (.int .i64 r2009)), (22, .t (.bool (decide (r2009 ≥ 0))))], [(3, [.t (.int .i64 p1.fGen), .t (.int .i64 p1.fSize), .t (.int .i64 p1.fLen), .t (.sl 2 (p1.fSums.map Sum.enc))])], []⟩) (mo := []) (mr := []) (by kernel_rfl) (by kernel_rfl) (by kernel_rfl) (by kernel_rfl)) ?_
            refine Wp.cond2 (b := decide (r2009 ≥ 0)) (by kernel_rfl) (fun hc => ?_) (fun hc => ?_)
            · have h := cond_t h hc
              refine Wp.regionS (pOf []) (rhoOf []) (by kernel_rfl) ?_
              refine Runs.batch 2 (by kernel_rfl) ?_
              obtain ⟨r2010, e_r2010, h⟩ := bind_some h
              refine Runs.callK false 25 175 [] [.t (.int .i64 x3), .t (.int .i64 x4)] [.one (.t (.int .i64 x3)), .one (.t (.int .i64 x4))] (.one (.t (.int .i64 r2010))) [] rfl rfl (by kernel_rfl) (by kernel_rfl) (by kernel_rfl) (by kernel_rfl) (by kernel_rfl) (spec_WithPart_ok u x3 x4 r2010 e_r2010) (by kernel_rfl) ?_
              refine Runs.all (by kernel_rfl) ?_
              refine blkN ?_
              refine thenN ?_
              exact ⟨(p0, r2010, x4, p1, x2007, x2008, r2009), h, Le.of (mo := []) (mr := []) (by kernel_rfl) (by kernel_rfl) (by kernel_rfl) (by kernel_rfl)⟩
            · have h := cond_f h hc
              refine Wp.skip ?_
              refine blkN ?_
              refine thenN ?_
              exact ⟨(p0, x3, x4, p1, x2007, x2008, r2009), h, Le.of (mo := []) (mr := []) (by kernel_rfl) (by kernel_rfl) (by kernel_rfl) (by kernel_rfl)⟩
        · have h := cond_f h hc
          refine Wp.exit ?_
          refine thenE ?_
          refine thenE ?_
          refine blkE ?_
          refine thenN ?_
          exact ⟨x3, h, Le.of (mo := []) (mr := []) (by kernel_rfl) (by kernel_rfl) (by kernel_rfl) (by kernel_rfl)⟩
      · refine Wp.regionS (pOf []) (rhoOf []) (by kernel_rfl) ?_
        refine Runs.batch 3 (by kernel_rfl) ?_
        refine Runs.lenT (y := .t (.sl 2 (p1.fSums.map Sum.enc))) (e := 130) Sum.enc p1.fSums 2 rfl rfl rfl (by kernel_rfl) (by kernel_rfl) (by kernel_rfl) (by kernel_rfl) (by kernel_rfl) ?_
        refine Runs.batch 2 (by kernel_rfl) ?_
        rcases tf (decide (x4 < ((p1.fSums.length : Int)))) with hc | hc
        · have h := cond_t h hc
          refine Runs.known 12 (v := true) (by kernel_rfl) hc ?_
          refine Runs.all (by kernel_rfl) ?_
          refine thenN ?_
          exact ⟨(p0, x3, x4, p1, true, decide (x4 < 40)), h, Le.of (mo := []) (mr := []) (by kernel_rfl) (by kernel_rfl) (by kernel_rfl) (by kernel_rfl)⟩
        · have h := cond_f h hc
          refine Runs.known 12 (v := false) (by kernel_rfl) hc ?_
          refine Runs.all (by kernel_rfl) ?_
          refine thenN ?_
          exact ⟨(p0, x3, x4, p1, false, false), h, Le.of (mo := []) (mr := []) (by kernel_rfl) (by kernel_rfl) (by kernel_rfl) (by kernel_rfl)⟩
theorem spec_Without_ok (u : Nat) (p0 : Int) (p1 : Int) (r : Int) (h : spec_Without u p0 p1 = some r) : CallOK Try.prog 160 [.one (.t (.int .i64 p0)), .one (.t (.int .i64 p1))] (.one (.t (.int .i64 r))) [] := by
  unfold spec_Without at h
  refine CallOK.of_bodyK (fn := Try.f160) (m := false) [.t (.int .i64 p0), .t (.int .i64 p1)] (by kernel_rfl) rfl (by kernel_rfl) (by kernel_rfl) (by kernel_rfl) (by kernel_rfl) (by kernel_rfl) ?_
  refine Wp.seq ?_
  refine Wp.regionS (pOf []) (rhoOf []) (by kernel_rfl) ?_
  refine Runs.all (by kernel_rfl) ?_
  refine thenN ?_
  refine Wp.le (Le.of (s := ⟨[(0, .t (.int .i64 p0)), (1, .t (.int .i64 p1)), (4, .t (.int .i64 0))], [], []⟩) (mo := []) (mr := []) (by kernel_rfl) (by kernel_rfl) (by kernel_rfl) (by kernel_rfl)) ?_
  refine Wp.seq ?_
  refine Wp.seqJ (α := Int × Int × Bool) (fun a => ⟨[(0, .t (.int .i64 a.1)), (1, .t (.int .i64 a.2.1)), (4, .t (.int .i64 0)), (12, .t (.bool a.2.2))], [], []⟩) (fun a => spec_Without_j1 u a.1 a.2.1 a.2.2 = some r) ?_ ?_
  · rintro ⟨p0, p1, x2001⟩ h
    change spec_Without_j1 u p0 p1 x2001 = some r at h
    unfold spec_Without_j1 at h
    refine Wp.cond2 (b := x2001) (by kernel_rfl) (fun hc => ?_) (fun hc => ?_)
    · have h := cond_t h hc
      refine Wp.seq ?_
      refine Wp.regionS (pOf []) (rhoOf []) (by kernel_rfl) ?_
      refine Runs.all (by kernel_rfl) ?_
      refine thenN ?_
      refine Wp.le (Le.of (s := ⟨[(0, .t (.int .i64 p0)), (1, .t (.int .i64 p1)), (4, .t (.int .i64 0))], [], []⟩) (mo := []) (mr := []) (by kernel_rfl) (by kernel_rfl) (by kernel_rfl) (by kernel_rfl)) ?_
      refine Wp.ret ?_
      refine thenR ?_
      have hr := Option.some.inj h
      subst hr
      exact RetK [.t (.int .i64 0)] (.one (.t (.int .i64 0))) [] (by kernel_rfl) (by kernel_rfl) (.refl _) .nil
    · have h := cond_f h hc
      refine Wp.skip ?_
      refine thenN ?_
      refine Wp.seq ?_
      refine Wp.regionS (pOf []) (rhoOf []) (by kernel_rfl) ?_
      refine Runs.all (by kernel_rfl) ?_
      refine thenN ?_
      refine Wp.le (Le.of (s := ⟨[(4, .t (.int .i64 (bAndNot .i64 p0 p1)))], [], []⟩) (mo := []) (mr := []) (by kernel_rfl) (by kernel_rfl) (by kernel_rfl) (by kernel_rfl)) ?_
      refine Wp.ret ?_
      have hr := Option.some.inj h
      subst hr
      exact RetK [.t (.int .i64 (bAndNot .i64 p0 p1))] (.one (.t (.int .i64 (bAndNot .i64 p0 p1)))) [] (by kernel_rfl) (by kernel_rfl) (.refl _) .nil
  · refine Wp.regionS (pOf []) (rhoOf []) (by kernel_rfl) ?_
    refine Runs.batch 1 (by kernel_rfl) ?_
    obtain ⟨r1, e_r1, h⟩ := bind_some h
    refine Runs.callK false 6 142 [] [.t (.int .i64 p0)] [.one (.t (.int .i64 p0))] (.one (.t (.bool r1))) [] rfl rfl (by kernel_rfl) (by kernel_rfl) (by kernel_rfl) (by kernel_rfl) (by kernel_rfl) (spec_SetOk_ok u p0 r1 e_r1) (by kernel_rfl) ?_
    refine Runs.batch 2 (by kernel_rfl) ?_
    rcases tf (!r1) with hc | hc
    · have h := cond_t h hc
      refine Runs.known 8 (v := true) (by kernel_rfl) hc ?_
      refine Runs.all (by kernel_rfl) ?_
      refine thenN ?_
      exact ⟨(p0, p1, true), h, Le.of (mo := []) (mr := []) (by kernel_rfl) (by kernel_rfl) (by kernel_rfl) (by kernel_rfl)⟩
    · have h := cond_f h hc
      refine Runs.known 8 (v := false) (by kernel_rfl) hc ?_
      refine Runs.batch 1 (by kernel_rfl) ?_
      obtain ⟨r2, e_r2, h⟩ := bind_some h
      refine Runs.callK false 10 142 [] [.t (.int .i64 p1)] [.one (.t (.int .i64 p1))] (.one (.t (.bool r2))) [] rfl rfl (by kernel_rfl) (by kernel_rfl) (by kernel_rfl) (by kernel_rfl) (by kernel_rfl) (spec_SetOk_ok u p1 r2 e_r2) (by kernel_rfl) ?_
      refine Runs.all (by kernel_rfl) ?_
      refine thenN ?_
      exact ⟨(p0, p1, !r2), h, Le.of (mo := []) (mr := []) (by kernel_rfl) (by kernel_rfl) (by kernel_rfl) (by kernel_rfl)⟩
theorem spec_Lacking_ok (u : Nat) (p0 : List Int) (p1 : Manifest) (r : Int) (h : spec_Lacking u p0 p1 = some r) : CallOK Try.prog 132 [.one (.t (.sl 1 (p0.map (eInt .u8)))), .agg [.t (.int .i64 p1.fGen), .t (.int .i64 p1.fSize), .t (.int .i64 p1.fLen), .t (.sl 2 (p1.fSums.map Sum.enc))]] (.one (.t (.int .i64 r))) [] := by
  unfold spec_Lacking at h
  refine CallOK.of_bodyK (fn := Try.f132) (m := false) [.t (.sl 1 (p0.map (eInt .u8))), .agg [.t (.int .i64 p1.fGen), .t (.int .i64 p1.fSize), .t (.int .i64 p1.fLen), .t (.sl 2 (p1.fSums.map Sum.enc))]] (by kernel_rfl) rfl (by kernel_rfl) (by kernel_rfl) (by kernel_rfl) (by kernel_rfl) (by kernel_rfl) ?_
  refine Wp.seq ?_
  refine Wp.regionS (pOf []) (rhoOf []) (by kernel_rfl) ?_
  refine Runs.all (by kernel_rfl) ?_
  refine thenN ?_
  refine Wp.le (Le.of (s := ⟨[(0, .t (.sl 1 (p0.map (eInt .u8)))), (3, .obj 3 0), (4, .t (.int .i64 0))], [(3, [.t (.int .i64 p1.fGen), .t (.int .i64 p1.fSize), .t (.int .i64 p1.fLen), .t (.sl 2 (p1.fSums.map Sum.enc))])], []⟩) (mo := []) (mr := []) (by kernel_rfl) (by kernel_rfl) (by kernel_rfl) (by kernel_rfl)) ?_
  refine Wp.seq ?_
  refine Wp.regionA (pOf []) (rhoOf [(0, .frz), (3, .obj 3), (5, .obj 3), (6, .frz), (7, .frz), (8, .frz), (9, .frz), (10, .frz), (11, .frz), (12, .frz), (13, .frz)]) (by kernel_rfl) (by kernel_rfl) ?_
  refine Runs.batch 2 (by kernel_rfl) ?_
  refine Runs.lenT (y := .t (.sl 2 (p1.fSums.map Sum.enc))) (e := 130) Sum.enc p1.fSums 2 rfl rfl rfl (by kernel_rfl) (by kernel_rfl) (by kernel_rfl) (by kernel_rfl) (by kernel_rfl) ?_
  obtain ⟨r1, e_r1, h⟩ := bind_some h
  refine Runs.callK false 8 108 [] [.t (.int .i64 ((p1.fSums.length : Int))), .t (.int .i64 40)] [.one (.t (.int .i64 ((p1.fSums.length : Int)))), .one (.t (.int .i64 40))] (.one (.t (.int .i64 r1))) [] rfl rfl (by kernel_rfl) (by kernel_rfl) (by kernel_rfl) (by kernel_rfl) (by kernel_rfl) (spec_Least_ok u ((p1.fSums.length : Int)) 40 r1 e_r1) (by kernel_rfl) ?_
  obtain ⟨r2, e_r2, h⟩ := bind_some h
  refine Runs.callK false 9 161 [] [.t (.int .i64 r1)] [.one (.t (.int .i64 r1))] (.one (.t (.int .i64 r2))) [] rfl rfl (by kernel_rfl) (by kernel_rfl) (by kernel_rfl) (by kernel_rfl) (by kernel_rfl) (spec_FullSet_ok u r1 r2 e_r2) (by kernel_rfl) ?_
  refine Runs.batch 2 (by kernel_rfl) ?_
  obtain ⟨r3, e_r3, h⟩ := bind_some h
  refine Runs.callK false 12 162 [] [.t (.sl 1 (p0.map (eInt .u8))), .agg [.t (.int .i64 p1.fGen), .t (.int .i64 p1.fSize), .t (.int .i64 p1.fLen), .t (.sl 2 (p1.fSums.map Sum.enc))]] [.one (.t (.sl 1 (p0.map (eInt .u8)))), .agg [.t (.int .i64 p1.fGen), .t (.int .i64 p1.fSize), .t (.int .i64 p1.fLen), .t (.sl 2 (p1.fSums.map Sum.enc))]] (.one (.t (.int .i64 r3))) [] rfl rfl (by kernel_rfl) (by kernel_rfl) (by kernel_rfl) (by kernel_rfl) (by kernel_rfl) (spec_Found_ok u p0 p1 r3 e_r3) (by kernel_rfl) ?_
  obtain ⟨r4, e_r4, h⟩ := bind_some h
  refine Runs.callK false 13 160 [] [.t (.int .i64 r2), .t (.int .i64 r3)] [.one (.t (.int .i64 r2)), .one (.t (.int .i64 r3))] (.one (.t (.int .i64 r4))) [] rfl rfl (by kernel_rfl) (by kernel_rfl) (by kernel_rfl) (by kernel_rfl) (by kernel_rfl) (spec_Without_ok u r2 r3 r4 e_r4) (by kernel_rfl) ?_
  refine Runs.all (by kernel_rfl) ?_
  refine thenN ?_
  refine Wp.le (Le.of (s := ⟨[(4, .t (.int .i64 r4))], [], []⟩) (mo := []) (mr := []) (by kernel_rfl) (by kernel_rfl) (by kernel_rfl) (by kernel_rfl)) ?_
  refine Wp.ret ?_
  have hr := Option.some.inj h
  subst hr
  exact RetK [.t (.int .i64 r4)] (.one (.t (.int .i64 r4))) [] (by kernel_rfl) (by kernel_rfl) (.refl _) .nil
theorem spec_InSet_ok (u : Nat) (p0 : Int) (p1 : Int) (r : Bool) (h : spec_InSet u p0 p1 = some r) : CallOK Try.prog 92 [.one (.t (.int .i64 p0)), .one (.t (.int .i64 p1))] (.one (.t (.bool r))) [] := by
  unfold spec_InSet at h
  refine CallOK.of_bodyK (fn := Try.f92) (m := false) [.t (.int .i64 p0), .t (.int .i64 p1)] (by kernel_rfl) rfl (by kernel_rfl) (by kernel_rfl) (by kernel_rfl) (by kernel_rfl) (by kernel_rfl) ?_
  refine Wp.seq ?_
  refine Wp.regionS (pOf []) (rhoOf []) (by kernel_rfl) ?_
  refine Runs.all (by kernel_rfl) ?_
  refine thenN ?_
  refine Wp.le (Le.of (s := ⟨[(0, .t (.int .i64 p0)), (1, .t (.int .i64 p1)), (4, .t (.bool false))], [], []⟩) (mo := []) (mr := []) (by kernel_rfl) (by kernel_rfl) (by kernel_rfl) (by kernel_rfl)) ?_
  refine Wp.seq ?_
  refine Wp.regionS (pOf []) (rhoOf []) (by kernel_rfl) ?_
  refine Runs.batch 1 (by kernel_rfl) ?_
  obtain ⟨r1, e_r1, h⟩ := bind_some h
  refine Runs.callK false 6 142 [] [.t (.int .i64 p0)] [.one (.t (.int .i64 p0))] (.one (.t (.bool r1))) [] rfl rfl (by kernel_rfl) (by kernel_rfl) (by kernel_rfl) (by kernel_rfl) (by kernel_rfl) (spec_SetOk_ok u p0 r1 e_r1) (by kernel_rfl) ?_
  refine Runs.batch 1 (by kernel_rfl) ?_
  rcases tf (r1) with hc | hc
  · have h := cond_t h hc
    refine Runs.known 7 (v := true) (by kernel_rfl) hc ?_
    refine Runs.batch 1 (by kernel_rfl) ?_
    obtain ⟨r2, e_r2, h⟩ := bind_some h
    refine Runs.callK false 9 86 [] [.t (.int .i64 p1), .t (.int .i64 0), .t (.int .i64 39)] [.one (.t (.int .i64 p1)), .one (.t (.int .i64 0)), .one (.t (.int .i64 39))] (.one (.t (.bool r2))) [] rfl rfl (by kernel_rfl) (by kernel_rfl) (by kernel_rfl) (by kernel_rfl) (by kernel_rfl) (spec_l1In_ok u p1 0 39 r2 e_r2) (by kernel_rfl) ?_
    refine Runs.batch 2 (by kernel_rfl) ?_
    rcases tf (r2) with hc | hc
    · have h := cond_t h hc
      refine Runs.known 11 (v := true) (by kernel_rfl) hc ?_
      refine Runs.batch 2 (by kernel_rfl) ?_
      obtain ⟨_, e_3, h⟩ := bind_some h
      refine Runs.num .shr (.int .i64 p0) (.int .i64 p1) (.int .i64 (bShr .i64 p0 p1)) rfl (by kernel_rfl) (by kernel_rfl) (by kernel_rfl) (by kernel_rfl) (bin_shr _ _ _ _ _ (chk_some e_3)) ?_
      refine Runs.all (by kernel_rfl) ?_
      refine thenN ?_
      refine Wp.le (Le.of (s := ⟨[(4, .t (.bool ((bAnd .i64 (bShr .i64 p0 p1) 1) == 1)))], [], []⟩) (mo := []) (mr := []) (by kernel_rfl) (by kernel_rfl) (by kernel_rfl) (by kernel_rfl)) ?_
      refine Wp.ret ?_
      have hr := Option.some.inj h
      subst hr
      exact RetK [.t (.bool ((bAnd .i64 (bShr .i64 p0 p1) 1) == 1))] (.one (.t (.bool ((bAnd .i64 (bShr .i64 p0 p1) 1) == 1)))) [] (by kernel_rfl) (by kernel_rfl) (.refl _) .nil
    · have h := cond_f h hc
      refine Runs.known 11 (v := false) (by kernel_rfl) hc ?_
      refine Runs.all (by kernel_rfl) ?_
      refine thenN ?_
      refine Wp.le (Le.of (s := ⟨[(4, .t (.bool false))], [], []⟩) (mo := []) (mr := []) (by kernel_rfl) (by kernel_rfl) (by kernel_rfl) (by kernel_rfl)) ?_
      refine Wp.ret ?_
      have hr := Option.some.inj h
      subst hr
      exact RetK [.t (.bool false)] (.one (.t (.bool false))) [] (by kernel_rfl) (by kernel_rfl) (.refl _) .nil
  · have h := cond_f h hc
    refine Runs.known 7 (v := false) (by kernel_rfl) hc ?_
    refine Runs.all (by kernel_rfl) ?_
    refine thenN ?_
    refine Wp.le (Le.of (s := ⟨[(4, .t (.bool false))], [], []⟩) (mo := []) (mr := []) (by kernel_rfl) (by kernel_rfl) (by kernel_rfl) (by kernel_rfl)) ?_
    refine Wp.ret ?_
    have hr := Option.some.inj h
    subst hr
    exact RetK [.t (.bool false)] (.one (.t (.bool false))) [] (by kernel_rfl) (by kernel_rfl) (.refl _) .nil
theorem spec_PartsIn_ok (u : Nat) (p0 : Int) (r : (List Int)) (h : spec_PartsIn u p0 = some r) : CallOK Try.prog 131 [.one (.t (.int .i64 p0))] (.one (.ow 3 1 (r.map (eInt .i64)))) [] := by
  unfold spec_PartsIn at h
  refine CallOK.of_bodyK (fn := Try.f131) (m := true) [.t (.int .i64 p0)] (by kernel_rfl) rfl (by kernel_rfl) (by kernel_rfl) (by kernel_rfl) (by kernel_rfl) (by kernel_rfl) ?_
  refine Wp.seq ?_
  refine Wp.regionS (pOf []) (rhoOf []) (by kernel_rfl) ?_
  refine Runs.all (by kernel_rfl) ?_
  refine thenN ?_
  refine Wp.le (Le.of (s := ⟨[(0, .t (.int .i64 p0)), (2, .nil)], [], []⟩) (mo := []) (mr := []) (by kernel_rfl) (by kernel_rfl) (by kernel_rfl) (by kernel_rfl)) ?_
  refine Wp.seq ?_
  refine Wp.regionS (pOf []) (rhoOf []) (by kernel_rfl) ?_
  refine Runs.all (by kernel_rfl) ?_
  refine thenN ?_
  refine Wp.le (Le.of (s := ⟨[(0, .t (.int .i64 p0)), (2, .nil), (3, .own 327680)], [], [(327680, .live 3 1 ((([] : List Int)).map (eInt .i64)))]⟩) (mo := []) (mr := []) (by kernel_rfl) (by kernel_rfl) (by kernel_rfl) (by kernel_rfl)) ?_
  refine Wp.seqJ (α := (List Int)) (fun a => ⟨[(2, .nil), (3, .own 196609)], [], [(196609, .live 3 1 (a.map (eInt .i64)))]⟩) (fun a => spec_PartsIn_j1 u a = some r) ?_ ?_
  · rintro x2001 h
    change spec_PartsIn_j1 u x2001 = some r at h
    unfold spec_PartsIn_j1 at h
    refine Wp.seq ?_
    refine Wp.regionS (pOf []) (rhoOf []) (by kernel_rfl) ?_
    refine Runs.all (by kernel_rfl) ?_
    refine thenN ?_
    refine Wp.le (Le.of (s := ⟨[(2, .own 196609)], [], [(196609, .live 3 1 (x2001.map (eInt .i64)))]⟩) (mo := []) (mr := []) (by kernel_rfl) (by kernel_rfl) (by kernel_rfl) (by kernel_rfl)) ?_
    refine Wp.ret ?_
    have hr := Option.some.inj h
    subst hr
    exact RetK [.own 196609] (.one (.ow 3 1 (x2001.map (eInt .i64)))) [] (by kernel_rfl) (by kernel_rfl) (.refl _) .nil
  · refine Wp.seq ?_
    refine Wp.regionS (pOf []) (rhoOf []) (by kernel_rfl) ?_
    refine Runs.all (by kernel_rfl) ?_
    refine thenN ?_
    refine Wp.le (Le.of (s := ⟨[(0, .t (.int .i64 p0)), (2, .nil), (3, .own 327680), (4, .t (.int .i64 0))], [], [(327680, .live 3 1 ((([] : List Int)).map (eInt .i64)))]⟩) (mo := []) (mr := []) (by kernel_rfl) (by kernel_rfl) (by kernel_rfl) (by kernel_rfl)) ?_
    refine Wp.block ?_
    refine Wp.loopF (α := Int × (List Int) × Int) (fun a => ⟨[(0, .t (.int .i64 a.1)), (2, .nil), (3, .own 196609), (4, .t (.int .i64 a.2.2))], [], [(196609, .live 3 1 (a.2.1.map (eInt .i64)))]⟩) (fun k_spec_PartsIn_l2 a => spec_PartsIn_l2 u k_spec_PartsIn_l2 a.1 a.2.1 a.2.2 = some r) ?_ ?_ u (p0, ([] : List Int), 0) h (Le.of (mo := []) (mr := [(196609, 327680)]) (by kernel_rfl) (by kernel_rfl) (by kernel_rfl) (by kernel_rfl))
    · intro a h; unfold spec_PartsIn_l2 at h; cases h
    · rintro k_spec_PartsIn_l2 ⟨p0, x3, x4⟩ h
      change spec_PartsIn_l2 u (k_spec_PartsIn_l2 + 1) p0 x3 x4 = some r at h
      rw [spec_PartsIn_l2] at h
      refine Wp.seq ?_
      refine Wp.seq ?_
      refine Wp.regionS (pOf []) (rhoOf []) (by kernel_rfl) ?_
      refine Runs.all (by kernel_rfl) ?_
      refine thenN ?_
      refine Wp.le (Le.of (s := ⟨[(0, .t (.int .i64 p0)), (2, .nil), (3, .own 196609), (4, .t (.int .i64 x4)), (6, .t (.int .i64 x4)), (7, .t (.bool (decide (x4 < 40))))], [], [(196609, .live 3 1 (x3.map (eInt .i64)))]⟩) (mo := []) (mr := []) (by kernel_rfl) (by kernel_rfl) (by kernel_rfl) (by kernel_rfl)) ?_
      refine Wp.cond2 (b := decide (x4 < 40)) (by kernel_rfl) (fun hc => ?_) (fun hc => ?_)
      · have h := cond_t h hc
        refine Wp.skip ?_
        refine thenN ?_
        refine Wp.seqJ (α := Int × (List Int) × Int × Bool) (fun a => ⟨[(0, .t (.int .i64 a.1)), (2, .nil), (3, .own 196609), (4, .t (.int .i64 a.2.2.1)), (6, .t (.int .i64 a.2.2.1)), (7, .t (.bool (decide (a.2.2.1 < 40)))), (10, .t (.int .i64 a.1)), (11, .t (.int .i64 a.2.2.1)), (12, .t (.bool a.2.2.2))], [], [(196609, .live 3 1 (a.2.1.map (eInt .i64)))]⟩) (fun a => spec_PartsIn_j3 u (fun z0 z1 z2 => spec_PartsIn_l2 u k_spec_PartsIn_l2 z0 z1 z2) a.1 a.2.1 a.2.2.1 a.2.2.2 = some r) ?_ ?_
        · rintro ⟨p0, x2007, x4, r7⟩ h
          change spec_PartsIn_j3 u (fun z0 z1 z2 => spec_PartsIn_l2 u k_spec_PartsIn_l2 z0 z1 z2) p0 x2007 x4 r7 = some r at h
          unfold spec_PartsIn_j3 at h
          refine Wp.regionS (pOf []) (rhoOf []) (by kernel_rfl) ?_
          refine Runs.all (by kernel_rfl) ?_
          refine thenN ?_
          exact ⟨(p0, x2007, bAdd .i64 x4 1), h, Le.of (mo := []) (mr := []) (by kernel_rfl) (by kernel_rfl) (by kernel_rfl) (by kernel_rfl)⟩
        · refine Wp.block ?_
          refine Wp.seq ?_
          refine Wp.regionS (pOf []) (rhoOf []) (by kernel_rfl) ?_
          refine Runs.batch 2 (by kernel_rfl) ?_
          obtain ⟨r7, e_r7, h⟩ := bind_some h
          refine Runs.callK false 12 92 [] [.t (.int .i64 p0), .t (.int .i64 x4)] [.one (.t (.int .i64 p0)), .one (.t (.int .i64 x4))] (.one (.t (.bool r7))) [] rfl rfl (by kernel_rfl) (by kernel_rfl) (by kernel_rfl) (by kernel_rfl) (by kernel_rfl) (spec_InSet_ok u p0 x4 r7 e_r7) (by kernel_rfl) ?_
          refine Runs.done ?_
          refine thenN ?_
          refine Wp.le (Le.of (s := ⟨[(0, .t (.int .i64 p0)), (2, .nil), (3, .own 196609), (4, .t (.int .i64 x4)), (6, .t (.int .i64 x4)), (7, .t (.bool (decide (x4 < 40)))), (10, .t (.int .i64 p0)), (11, .t (.int .i64 x4)), (12, .t (.bool r7))], [], [(196609, .live 3 1 (x3.map (eInt .i64)))]⟩) (mo := []) (mr := []) (by kernel_rfl) (by kernel_rfl) (by kernel_rfl) (by kernel_rfl)) ?_
          refine Wp.cond2 (b := r7) (by kernel_rfl) (fun hc => ?_) (fun hc => ?_)
          · have h := cond_t h hc
            refine Wp.regionS (pOf []) (rhoOf []) (by kernel_rfl) ?_
            refine Runs.batch 3 (by kernel_rfl) ?_
            obtain ⟨_, e_8, h⟩ := bind_some h
            refine Runs.appT (y := .own 983040) (eInt .i64) 16 1 3 1 8 196609 x3 ([x4]) rfl rfl rfl rfl (by kernel_rfl) (by kernel_rfl) (by kernel_rfl) (by kernel_rfl) (by kernel_rfl) (by kernel_rfl) (.inl rfl) (by kernel_rfl) (of_decide_eq_true (chk_some e_8)) (by kernel_rfl) (by kernel_rfl) ?_
            refine Runs.all (by kernel_rfl) ?_
            refine blkN ?_
            refine thenN ?_
            exact ⟨(p0, x3 ++ ([x4]), x4, r7), h, Le.of (mo := []) (mr := [(196609, 1048576)]) (by kernel_rfl) (by kernel_rfl) (by kernel_rfl) (by kernel_rfl)⟩
          · have h := cond_f h hc
            refine Wp.skip ?_
            refine blkN ?_
            refine thenN ?_
            exact ⟨(p0, x3, x4, r7), h, Le.of (mo := []) (mr := []) (by kernel_rfl) (by kernel_rfl) (by kernel_rfl) (by kernel_rfl)⟩
      · have h := cond_f h hc
        refine Wp.exit ?_
        refine thenE ?_
        refine thenE ?_
        refine blkE ?_
        refine thenN ?_
        exact ⟨x3, h, Le.of (mo := []) (mr := []) (by kernel_rfl) (by kernel_rfl) (by kernel_rfl) (by kernel_rfl)⟩
theorem spec_BytesLacking_ok (u : Nat) (p0 : List Int) (p1 : Manifest) (r : Int) (h : spec_BytesLacking u p0 p1 = some r) : CallOK Try.prog 71 [.one (.t (.sl 1 (p0.map (eInt .u8)))), .agg [.t (.int .i64 p1.fGen), .t (.int .i64 p1.fSize), .t (.int .i64 p1.fLen), .t (.sl 2 (p1.fSums.map Sum.enc))]] (.one (.t (.int .i64 r))) [] := by
  unfold spec_BytesLacking at h
  refine CallOK.of_bodyK (fn := Try.f71) (m := false) [.t (.sl 1 (p0.map (eInt .u8))), .agg [.t (.int .i64 p1.fGen), .t (.int .i64 p1.fSize), .t (.int .i64 p1.fLen), .t (.sl 2 (p1.fSums.map Sum.enc))]] (by kernel_rfl) rfl (by kernel_rfl) (by kernel_rfl) (by kernel_rfl) (by kernel_rfl) (by kernel_rfl) ?_
  refine Wp.seq ?_
  refine Wp.regionS (pOf []) (rhoOf []) (by kernel_rfl) ?_
  refine Runs.all (by kernel_rfl) ?_
  refine thenN ?_
  refine Wp.le (Le.of (s := ⟨[(0, .t (.sl 1 (p0.map (eInt .u8)))), (3, .obj 3 0), (4, .t (.int .i64 0))], [(3, [.t (.int .i64 p1.fGen), .t (.int .i64 p1.fSize), .t (.int .i64 p1.fLen), .t (.sl 2 (p1.fSums.map Sum.enc))])], []⟩) (mo := []) (mr := []) (by kernel_rfl) (by kernel_rfl) (by kernel_rfl) (by kernel_rfl)) ?_
  refine Wp.seq ?_
  refine Wp.regionS (pOf []) (rhoOf []) (by kernel_rfl) ?_
  refine Runs.all (by kernel_rfl) ?_
  refine thenN ?_
  refine Wp.le (Le.of (s := ⟨[(0, .t (.sl 1 (p0.map (eInt .u8)))), (3, .obj 3 0), (4, .t (.int .i64 0)), (5, .t (.int .i64 0))], [(3, [.t (.int .i64 p1.fGen), .t (.int .i64 p1.fSize), .t (.int .i64 p1.fLen), .t (.sl 2 (p1.fSums.map Sum.enc))])], []⟩) (mo := []) (mr := []) (by kernel_rfl) (by kernel_rfl) (by kernel_rfl) (by kernel_rfl)) ?_
  refine Wp.seq ?_
  refine Wp.regionS (pOf []) (rhoOf []) (by kernel_rfl) ?_
  refine Runs.batch 2 (by kernel_rfl) ?_
  obtain ⟨r1, e_r1, h⟩ := bind_some h
  refine Runs.callK false 12 132 [] [.t (.sl 1 (p0.map (eInt .u8))), .agg [.t (.int .i64 p1.fGen), .t (.int .i64 p1.fSize), .t (.int .i64 p1.fLen), .t (.sl 2 (p1.fSums.map Sum.enc))]] [.one (.t (.sl 1 (p0.map (eInt .u8)))), .agg [.t (.int .i64 p1.fGen), .t (.int .i64 p1.fSize), .t (.int .i64 p1.fLen), .t (.sl 2 (p1.fSums.map Sum.enc))]] (.one (.t (.int .i64 r1))) [] rfl rfl (by kernel_rfl) (by kernel_rfl) (by kernel_rfl) (by kernel_rfl) (by kernel_rfl) (spec_Lacking_ok u p0 p1 r1 e_r1) (by kernel_rfl) ?_
  obtain ⟨r2, e_r2, h⟩ := bind_some h
  refine Runs.callK false 13 131 [] [.t (.int .i64 r1)] [.one (.t (.int .i64 r1))] (.one (.ow 3 1 (r2.map (eInt .i64)))) [] rfl rfl (by kernel_rfl) (by kernel_rfl) (by kernel_rfl) (by kernel_rfl) (by kernel_rfl) (spec_PartsIn_ok u r1 r2 e_r2) (by kernel_rfl) ?_
  refine Runs.all (by kernel_rfl) ?_
  refine thenN ?_
  refine Wp.le (Le.of (s := ⟨[(3, .obj 3 0), (4, .t (.int .i64 0)), (5, .t (.int .i64 0)), (6, .own 851968)], [(3, [.t (.int .i64 p1.fGen), .t (.int .i64 p1.fSize), .t (.int .i64 p1.fLen), .t (.sl 2 (p1.fSums.map Sum.enc))])], [(851968, .live 3 1 (r2.map (eInt .i64)))]⟩) (mo := []) (mr := []) (by kernel_rfl) (by kernel_rfl) (by kernel_rfl) (by kernel_rfl)) ?_
  refine Wp.seqJ (α := Int) (fun a => ⟨[(4, .t (.int .i64 0)), (5, .t (.int .i64 a))], [], []⟩) (fun a => spec_BytesLacking_j1 u a = some r) ?_ ?_
  · rintro x2003 h
    change spec_BytesLacking_j1 u x2003 = some r at h
    unfold spec_BytesLacking_j1 at h
    refine Wp.seq ?_
    refine Wp.regionS (pOf []) (rhoOf []) (by kernel_rfl) ?_
    refine Runs.all (by kernel_rfl) ?_
    refine thenN ?_
    refine Wp.le (Le.of (s := ⟨[(4, .t (.int .i64 x2003))], [], []⟩) (mo := []) (mr := []) (by kernel_rfl) (by kernel_rfl) (by kernel_rfl) (by kernel_rfl)) ?_
    refine Wp.ret ?_
    have hr := Option.some.inj h
    subst hr
    exact RetK [.t (.int .i64 x2003)] (.one (.t (.int .i64 x2003))) [] (by kernel_rfl) (by kernel_rfl) (.refl _) .nil
  · refine Wp.seq ?_
    refine Wp.regionS (pOf []) (rhoOf []) (by kernel_rfl) ?_
    refine Runs.all (by kernel_rfl) ?_
    refine thenN ?_
    refine Wp.le (Le.of (s := ⟨[(3, .obj 3 0), (4, .t (.int .i64 0)), (5, .t (.int .i64 0)), (6, .own 851968), (7, .t (.int .i64 0))], [(3, [.t (.int .i64 p1.fGen), .t (.int .i64 p1.fSize), .t (.int .i64 p1.fLen), .t (.sl 2 (p1.fSums.map Sum.enc))])], [(851968, .live 3 1 (r2.map (eInt .i64)))]⟩) (mo := []) (mr := []) (by kernel_rfl) (by kernel_rfl) (by kernel_rfl) (by kernel_rfl)) ?_
    refine Wp.block ?_
    refine Wp.loopF (α := Int × ((List Int)) × Int × Manifest) (fun a => ⟨[(3, .obj 3 0), (4, .t (.int .i64 0)), (5, .t (.int .i64 a.1)), (6, .own 393217), (7, .t (.int .i64 a.2.2.1))], [(3, [.t (.int .i64 a.2.2.2.fGen), .t (.int .i64 a.2.2.2.fSize), .t (.int .i64 a.2.2.2.fLen), .t (.sl 2 (a.2.2.2.fSums.map Sum.enc))])], [(393217, .live 3 1 (a.2.1.map (eInt .i64)))]⟩) (fun k_spec_BytesLacking_l2 a => spec_BytesLacking_l2 u k_spec_BytesLacking_l2 a.1 a.2.1 a.2.2.1 a.2.2.2 = some r) ?_ ?_ u (0, r2, 0, p1) h (Le.of (mo := []) (mr := [(393217, 851968)]) (by kernel_rfl) (by kernel_rfl) (by kernel_rfl) (by kernel_rfl))
    · intro a h; unfold spec_BytesLacking_l2 at h; cases h
    · rintro k_spec_BytesLacking_l2 ⟨x5, r2, x6, p1⟩ h
      change spec_BytesLacking_l2 u (k_spec_BytesLacking_l2 + 1) x5 r2 x6 p1 = some r at h
      rw [spec_BytesLacking_l2] at h
      refine Wp.seq ?_
      refine Wp.seq ?_
      refine Wp.regionS (pOf []) (rhoOf []) (by kernel_rfl) ?_
      refine Runs.batch 2 (by kernel_rfl) ?_
      refine Runs.lenT (y := .own 393217) (e := 3) (eInt .i64) r2 1 rfl rfl rfl (by kernel_rfl) (by kernel_rfl) (by kernel_rfl) (by kernel_rfl) (by kernel_rfl) ?_
      refine Runs.all (by kernel_rfl) ?_
      refine thenN ?_
      refine Wp.le (Le.of (s := ⟨[(3, .obj 3 0), (4, .t (.int .i64 0)), (5, .t (.int .i64 x5)), (6, .own 393217), (7, .t (.int .i64 x6)), (14, .t (.int .i64 x6)), (15, .own 393217), (16, .t (.int .i64 ((r2.length : Int)))), (17, .t (.bool (decide (x6 < ((r2.length : Int))))))], [(3, [.t (.int .i64 p1.fGen), .t (.int .i64 p1.fSize), .t (.int .i64 p1.fLen), .t (.sl 2 (p1.fSums.map Sum.enc))])], [(393217, .live 3 1 (r2.map (eInt .i64)))]⟩) (mo := []) (mr := []) (by kernel_rfl) (by kernel_rfl) (by kernel_rfl) (by kernel_rfl)) ?_
      refine Wp.cond2 (b := decide (x6 < ((r2.length : Int)))) (by kernel_rfl) (fun hc => ?_) (fun hc => ?_)
      · have h := cond_t h hc
        refine Wp.skip ?_
        refine thenN ?_
        refine Wp.seq ?_
        refine Wp.block ?_
        refine Wp.seq ?_
        refine Wp.regionA (pOf []) (rhoOf [(3, .obj 3), (6, .own 6), (7, .frz), (21, .obj 3), (22, .frz), (23, .obj 3), (24, .frz), (25, .own 6), (26, .frz), (27, .el 6), (28, .frz), (30, .frz), (31, .frz)]) (by kernel_rfl) (by kernel_rfl) ?_
        refine Runs.batch 6 (by kernel_rfl) ?_
        obtain ⟨y9, e_y9, h⟩ := bind_some h
        refine Runs.idxO (e := 3) (e' := 3) (kk := .i64) (sz := 1) (eInt .i64) r2 x6 393217 rfl (by kernel_rfl) (by kernel_rfl) (by kernel_rfl) (by kernel_rfl) (by kernel_rfl) (by kernel_rfl) (by kernel_rfl) e_y9 ?_
        refine Runs.loadE (e' := 3) (sz := 1) (m := 1) (gg := false) (eInt .i64) r2 393217 (Int.toNat x6) 0 (.t (.int .i64 y9)) rfl (by kernel_rfl) (by kernel_rfl) (by kernel_rfl) (by kernel_rfl) (by kernel_rfl) (by kernel_rfl) (idx_some e_y9).2 (by kernel_rfl) ?_
        obtain ⟨r10, e_r10, h⟩ := bind_some h
        refine Runs.callK false 29 133 [] [.t (.int .i64 p1.fSize), .t (.int .i64 p1.fLen), .t (.int .i64 y9)] [.one (.t (.int .i64 p1.fSize)), .one (.t (.int .i64 p1.fLen)), .one (.t (.int .i64 y9))] (.tup [.one (.t (.int .i64 r10.1)), .one (.t (.int .i64 r10.2))]) [] rfl rfl (by kernel_rfl) (by kernel_rfl) (by kernel_rfl) (by kernel_rfl) (by kernel_rfl) (spec_SpanOf_ok u p1.fSize p1.fLen y9 r10 e_r10) (by kernel_rfl) ?_
        refine Runs.all (by kernel_rfl) ?_
        refine thenN ?_
        refine Wp.le (Le.of (s := ⟨[(3, .obj 3 0), (4, .t (.int .i64 0)), (5, .t (.int .i64 x5)), (6, .own 393217), (7, .t (.int .i64 x6)), (9, .t (.int .i64 r10.2)), (14, .t (.int .i64 x6)), (15, .own 393217), (16, .t (.int .i64 ((r2.length : Int)))), (17, .t (.bool (decide (x6 < ((r2.length : Int)))))), (20, .tup [.t (.int .i64 r10.1), .t (.int .i64 r10.2)]), (21, .obj 3 1), (22, .t (.int .i64 p1.fSize)), (23, .obj 3 2), (24, .t (.int .i64 p1.fLen)), (25, .own 393217), (26, .t (.int .i64 x6)), (27, .elem 393217 1 (Int.toNat x6) 0), (28, .t (.int .i64 y9)), (29, .tup [.t (.int .i64 r10.1), .t (.int .i64 r10.2)]), (30, .t (.int .i64 r10.1)), (31, .t (.int .i64 r10.2))], [(3, [.t (.int .i64 p1.fGen), .t (.int .i64 p1.fSize), .t (.int .i64 p1.fLen), .t (.sl 2 (p1.fSums.map Sum.enc))])], [(393217, .live 3 1 (r2.map (eInt .i64)))]⟩) (mo := []) (mr := []) (by kernel_rfl) (by kernel_rfl) (by kernel_rfl) (by kernel_rfl)) ?_
        refine Wp.regionS (pOf []) (rhoOf []) (by kernel_rfl) ?_
        refine Runs.all (by kernel_rfl) ?_
        refine blkN ?_
        refine thenN ?_
        refine Wp.regionS (pOf []) (rhoOf []) (by kernel_rfl) ?_
        refine Runs.all (by kernel_rfl) ?_
        refine thenN ?_
        exact ⟨(bAdd .i64 x5 r10.2, r2, bAdd .i64 x6 1, p1), h, Le.of (mo := []) (mr := []) (by kernel_rfl) (by kernel_rfl) (by kernel_rfl) (by kernel_rfl)⟩
      · have h := cond_f h hc
        refine Wp.exit ?_
        refine thenE ?_
        refine thenE ?_
        refine blkE ?_
        refine thenN ?_
        exact ⟨x5, h, Le.of (mo := []) (mr := []) (by kernel_rfl) (by kernel_rfl) (by kernel_rfl) (by kernel_rfl)⟩
theorem spec_SavedBy_ok (u : Nat) (p0 : List Int) (p1 : List Int) (p2 : Int) (r : Int) (h : spec_SavedBy u p0 p1 p2 = some r) : CallOK Try.prog 13 [.one (.t (.sl 1 (p0.map (eInt .u8)))), .one (.t (.sl 1 (p1.map (eInt .u8)))), .one (.t (.int .i64 p2))] (.one (.t (.int .i64 r))) [] := by
  unfold spec_SavedBy at h
  refine CallOK.of_bodyK (fn := Try.f13) (m := false) [.t (.sl 1 (p0.map (eInt .u8))), .t (.sl 1 (p1.map (eInt .u8))), .t (.int .i64 p2)] (by kernel_rfl) rfl (by kernel_rfl) (by kernel_rfl) (by kernel_rfl) (by kernel_rfl) (by kernel_rfl) ?_
  refine Wp.seq ?_
  refine Wp.regionS (pOf []) (rhoOf []) (by kernel_rfl) ?_
  refine Runs.all (by kernel_rfl) ?_
  refine thenN ?_
  refine Wp.le (Le.of (s := ⟨[(0, .t (.sl 1 (p0.map (eInt .u8)))), (1, .t (.sl 1 (p1.map (eInt .u8)))), (2, .t (.int .i64 p2)), (6, .t (.int .i64 0))], [], []⟩) (mo := []) (mr := []) (by kernel_rfl) (by kernel_rfl) (by kernel_rfl) (by kernel_rfl)) ?_
  refine Wp.seq ?_
  refine Wp.seq ?_
  refine Wp.regionS (pOf []) (rhoOf []) (by kernel_rfl) ?_
  refine Runs.batch 2 (by kernel_rfl) ?_
  refine Runs.lenT (y := .t (.sl 1 (p0.map (eInt .u8)))) (e := 5) (eInt .u8) p0 1 rfl rfl rfl (by kernel_rfl) (by kernel_rfl) (by kernel_rfl) (by kernel_rfl) (by kernel_rfl) ?_
  obtain ⟨r1, e_r1, h⟩ := bind_some h
  refine Runs.callK false 10 70 [] [.t (.int .i64 p2), .t (.int .i64 ((p0.length : Int)))] [.one (.t (.int .i64 p2)), .one (.t (.int .i64 ((p0.length : Int))))] (.one (.t (.bool r1))) [] rfl rfl (by kernel_rfl) (by kernel_rfl) (by kernel_rfl) (by kernel_rfl) (by kernel_rfl) (spec_SizeOk_ok u p2 ((p0.length : Int)) r1 e_r1) (by kernel_rfl) ?_
  refine Runs.all (by kernel_rfl) ?_
  refine thenN ?_
  refine Wp.le (Le.of (s := ⟨[(0, .t (.sl 1 (p0.map (eInt .u8)))), (1, .t (.sl 1 (p1.map (eInt .u8)))), (2, .t (.int .i64 p2)), (6, .t (.int .i64 0)), (11, .t (.bool (!r1)))], [], []⟩) (mo := []) (mr := []) (by kernel_rfl) (by kernel_rfl) (by kernel_rfl) (by kernel_rfl)) ?_
  refine Wp.cond2 (b := !r1) (by kernel_rfl) (fun hc => ?_) (fun hc => ?_)
  · have h := cond_t h hc
    refine Wp.seq ?_
    refine Wp.regionS (pOf []) (rhoOf []) (by kernel_rfl) ?_
    refine Runs.all (by kernel_rfl) ?_
    refine thenN ?_
    refine Wp.le (Le.of (s := ⟨[(0, .t (.sl 1 (p0.map (eInt .u8)))), (1, .t (.sl 1 (p1.map (eInt .u8)))), (2, .t (.int .i64 p2)), (6, .t (.int .i64 0))], [], []⟩) (mo := []) (mr := []) (by kernel_rfl) (by kernel_rfl) (by kernel_rfl) (by kernel_rfl)) ?_
    refine Wp.ret ?_
    refine thenR ?_
    have hr := Option.some.inj h
    subst hr
    exact RetK [.t (.int .i64 0)] (.one (.t (.int .i64 0))) [] (by kernel_rfl) (by kernel_rfl) (.refl _) .nil
  · have h := cond_f h hc
    refine Wp.skip ?_
    refine thenN ?_
    refine Wp.seq ?_
    refine Wp.regionS (pOf []) (rhoOf []) (by kernel_rfl) ?_
    refine Runs.batch 1 (by kernel_rfl) ?_
    refine Runs.lenT (y := .t (.sl 1 (p0.map (eInt .u8)))) (e := 5) (eInt .u8) p0 1 rfl rfl rfl (by kernel_rfl) (by kernel_rfl) (by kernel_rfl) (by kernel_rfl) (by kernel_rfl) ?_
    refine Runs.batch 3 (by kernel_rfl) ?_
    obtain ⟨r2, e_r2, h⟩ := bind_some h
    refine Runs.callK false 17 72 [] [.t (.int .i64 1), .t (.sl 1 (p0.map (eInt .u8))), .t (.int .i64 p2)] [.one (.t (.int .i64 1)), .one (.t (.sl 1 (p0.map (eInt .u8)))), .one (.t (.int .i64 p2))] (.agg [.t (.int .i64 r2.fGen), .t (.int .i64 r2.fSize), .t (.int .i64 r2.fLen), .ow 130 2 (r2.fSums.map Sum.enc)]) [] rfl rfl (by kernel_rfl) (by kernel_rfl) (by kernel_rfl) (by kernel_rfl) (by kernel_rfl) (spec_ManOf_ok u 1 p0 p2 r2 e_r2) (by kernel_rfl) ?_
    obtain ⟨r3, e_r3, h⟩ := bind_some h
    refine Runs.callBK 18 71 [] [.t (.sl 1 (p1.map (eInt .u8))), .agg [.t (.int .i64 r2.fGen), .t (.int .i64 r2.fSize), .t (.int .i64 r2.fLen), .own 1114115]] [.one (.t (.sl 1 (p1.map (eInt .u8)))), .agg [.t (.int .i64 r2.fGen), .t (.int .i64 r2.fSize), .t (.int .i64 r2.fLen), .t (.sl 2 (r2.fSums.map Sum.enc))]] (.one (.t (.int .i64 r3))) rfl rfl (by kernel_rfl) (by kernel_rfl) (by kernel_rfl) (by kernel_rfl) (by kernel_rfl) (spec_BytesLacking_ok u p1 r2 r3 e_r3) (by simp [V.plain, V.plains, C.plain, T.sc]) (by kernel_rfl) ?_
    refine Runs.all (by kernel_rfl) ?_
    refine thenN ?_
    refine Wp.le (Le.of (s := ⟨[(6, .t (.int .i64 (bSub .i64 ((p0.length : Int)) r3)))], [], []⟩) (mo := []) (mr := []) (by kernel_rfl) (by kernel_rfl) (by kernel_rfl) (by kernel_rfl)) ?_
    refine Wp.ret ?_
    have hr := Option.some.inj h
    subst hr
    exact RetK [.t (.int .i64 (bSub .i64 ((p0.length : Int)) r3))] (.one (.t (.int .i64 (bSub .i64 ((p0.length : Int)) r3)))) [] (by kernel_rfl) (by kernel_rfl) (.refl _) .nil
theorem impl_within_ok (u : Nat) (p0 : Int) (p1 : Int) (p2 : Int) (r : Bool) (h : impl_within u p0 p1 p2 = some r) : CallOK Try.prog 106 [.one (.t (.int .i64 p0)), .one (.t (.int .i64 p1)), .one (.t (.int .i64 p2))] (.one (.t (.bool r))) [] := by
  unfold impl_within at h
  refine CallOK.of_bodyK (fn := Try.f106) (m := false) [.t (.int .i64 p0), .t (.int .i64 p1), .t (.int .i64 p2)] (by kernel_rfl) rfl (by kernel_rfl) (by kernel_rfl) (by kernel_rfl) (by kernel_rfl) (by kernel_rfl) ?_
  refine Wp.seq ?_
  refine Wp.regionS (pOf []) (rhoOf []) (by kernel_rfl) ?_
  refine Runs.all (by kernel_rfl) ?_
  refine thenN ?_
  refine Wp.le (Le.of (s := ⟨[(0, .t (.int .i64 p0)), (1, .t (.int .i64 p1)), (2, .t (.int .i64 p2)), (6, .t (.bool false))], [], []⟩) (mo := []) (mr := []) (by kernel_rfl) (by kernel_rfl) (by kernel_rfl) (by kernel_rfl)) ?_
  refine Wp.seq ?_
  refine Wp.regionS (pOf []) (rhoOf []) (by kernel_rfl) ?_
  refine Runs.batch 4 (by kernel_rfl) ?_
  rcases tf (decide (p0 ≥ p1)) with hc | hc
  · have h := cond_t h hc
    refine Runs.known 10 (v := true) (by kernel_rfl) hc ?_
    refine Runs.all (by kernel_rfl) ?_
    refine thenN ?_
    refine Wp.le (Le.of (s := ⟨[(6, .t (.bool (decide (p0 ≤ p2))))], [], []⟩) (mo := []) (mr := []) (by kernel_rfl) (by kernel_rfl) (by kernel_rfl) (by kernel_rfl)) ?_
    refine Wp.ret ?_
    have hr := Option.some.inj h
    subst hr
    exact RetK [.t (.bool (decide (p0 ≤ p2)))] (.one (.t (.bool (decide (p0 ≤ p2))))) [] (by kernel_rfl) (by kernel_rfl) (.refl _) .nil
  · have h := cond_f h hc
    refine Runs.known 10 (v := false) (by kernel_rfl) hc ?_
    refine Runs.all (by kernel_rfl) ?_
    refine thenN ?_
    refine Wp.le (Le.of (s := ⟨[(6, .t (.bool false))], [], []⟩) (mo := []) (mr := []) (by kernel_rfl) (by kernel_rfl) (by kernel_rfl) (by kernel_rfl)) ?_
    refine Wp.ret ?_
    have hr := Option.some.inj h
    subst hr
    exact RetK [.t (.bool false)] (.one (.t (.bool false))) [] (by kernel_rfl) (by kernel_rfl) (.refl _) .nil
theorem impl_SizeOk_ok (u : Nat) (p0 : Int) (p1 : Int) (r : Bool) (h : impl_SizeOk u p0 p1 = some r) : CallOK Try.prog 73 [.one (.t (.int .i64 p0)), .one (.t (.int .i64 p1))] (.one (.t (.bool r))) [] := by
  unfold impl_SizeOk at h
  refine CallOK.of_bodyK (fn := Try.f73) (m := false) [.t (.int .i64 p0), .t (.int .i64 p1)] (by kernel_rfl) rfl (by kernel_rfl) (by kernel_rfl) (by kernel_rfl) (by kernel_rfl) (by kernel_rfl) ?_
  refine Wp.seq ?_
  refine Wp.regionS (pOf []) (rhoOf []) (by kernel_rfl) ?_
  refine Runs.all (by kernel_rfl) ?_
  refine thenN ?_
  refine Wp.le (Le.of (s := ⟨[(0, .t (.int .i64 p0)), (1, .t (.int .i64 p1)), (4, .t (.bool false))], [], []⟩) (mo := []) (mr := []) (by kernel_rfl) (by kernel_rfl) (by kernel_rfl) (by kernel_rfl)) ?_
  refine Wp.seq ?_
  refine Wp.regionS (pOf []) (rhoOf []) (by kernel_rfl) ?_
  refine Runs.batch 1 (by kernel_rfl) ?_
  obtain ⟨r1, e_r1, h⟩ := bind_some h
  refine Runs.callK false 6 106 [] [.t (.int .i64 p0), .t (.int .i64 2), .t (.int .i64 6)] [.one (.t (.int .i64 p0)), .one (.t (.int .i64 2)), .one (.t (.int .i64 6))] (.one (.t (.bool r1))) [] rfl rfl (by kernel_rfl) (by kernel_rfl) (by kernel_rfl) (by kernel_rfl) (by kernel_rfl) (impl_within_ok u p0 2 6 r1 e_r1) (by kernel_rfl) ?_
  refine Runs.batch 1 (by kernel_rfl) ?_
  rcases tf (r1) with hc | hc
  · have h := cond_t h hc
    refine Runs.known 7 (v := true) (by kernel_rfl) hc ?_
    refine Runs.batch 3 (by kernel_rfl) ?_
    obtain ⟨r2, e_r2, h⟩ := bind_some h
    refine Runs.callK false 11 106 [] [.t (.int .i64 p1), .t (.int .i64 0), .t (.int .i64 (bMul .i64 40 p0))] [.one (.t (.int .i64 p1)), .one (.t (.int .i64 0)), .one (.t (.int .i64 (bMul .i64 40 p0)))] (.one (.t (.bool r2))) [] rfl rfl (by kernel_rfl) (by kernel_rfl) (by kernel_rfl) (by kernel_rfl) (by kernel_rfl) (impl_within_ok u p1 0 (bMul .i64 40 p0) r2 e_r2) (by kernel_rfl) ?_
    refine Runs.all (by kernel_rfl) ?_
    refine thenN ?_
    refine Wp.le (Le.of (s := ⟨[(4, .t (.bool r2))], [], []⟩) (mo := []) (mr := []) (by kernel_rfl) (by kernel_rfl) (by kernel_rfl) (by kernel_rfl)) ?_
    refine Wp.ret ?_
    have hr := Option.some.inj h
    subst hr
    exact RetK [.t (.bool r2)] (.one (.t (.bool r2))) [] (by kernel_rfl) (by kernel_rfl) (.refl _) .nil
  · have h := cond_f h hc
    refine Runs.known 7 (v := false) (by kernel_rfl) hc ?_
    refine Runs.all (by kernel_rfl) ?_
    refine thenN ?_
    refine Wp.le (Le.of (s := ⟨[(4, .t (.bool false))], [], []⟩) (mo := []) (mr := []) (by kernel_rfl) (by kernel_rfl) (by kernel_rfl) (by kernel_rfl)) ?_
    refine Wp.ret ?_
    have hr := Option.some.inj h
    subst hr
    exact RetK [.t (.bool false)] (.one (.t (.bool false))) [] (by kernel_rfl) (by kernel_rfl) (.refl _) .nil
theorem impl_CeilDiv_ok (u : Nat) (p0 : Int) (p1 : Int) (r : Int) (h : impl_CeilDiv u p0 p1 = some r) : CallOK Try.prog 165 [.one (.t (.int .i64 p0)), .one (.t (.int .i64 p1))] (.one (.t (.int .i64 r))) [] := by
  unfold impl_CeilDiv at h
  refine CallOK.of_bodyK (fn := Try.f165) (m := false) [.t (.int .i64 p0), .t (.int .i64 p1)] (by kernel_rfl) rfl (by kernel_rfl) (by kernel_rfl) (by kernel_rfl) (by kernel_rfl) (by kernel_rfl) ?_
  refine Wp.seq ?_
  refine Wp.regionS (pOf []) (rhoOf []) (by kernel_rfl) ?_
  refine Runs.all (by kernel_rfl) ?_
  refine thenN ?_
  refine Wp.le (Le.of (s := ⟨[(0, .t (.int .i64 p0)), (1, .t (.int .i64 p1)), (4, .t (.int .i64 0))], [], []⟩) (mo := []) (mr := []) (by kernel_rfl) (by kernel_rfl) (by kernel_rfl) (by kernel_rfl)) ?_
  refine Wp.seq ?_
  refine Wp.seqJ (α := Int × Int × Bool) (fun a => ⟨[(0, .t (.int .i64 a.1)), (1, .t (.int .i64 a.2.1)), (4, .t (.int .i64 0)), (12, .t (.bool a.2.2))], [], []⟩) (fun a => impl_CeilDiv_j1 u a.1 a.2.1 a.2.2 = some r) ?_ ?_
  · rintro ⟨p0, p1, x2001⟩ h
    change impl_CeilDiv_j1 u p0 p1 x2001 = some r at h
    unfold impl_CeilDiv_j1 at h
    refine Wp.cond2 (b := x2001) (by kernel_rfl) (fun hc => ?_) (fun hc => ?_)
    · have h := cond_t h hc
      refine Wp.seq ?_
      refine Wp.regionS (pOf []) (rhoOf []) (by kernel_rfl) ?_
      refine Runs.all (by kernel_rfl) ?_
      refine thenN ?_
      refine Wp.le (Le.of (s := ⟨[(0, .t (.int .i64 p0)), (1, .t (.int .i64 p1)), (4, .t (.int .i64 0))], [], []⟩) (mo := []) (mr := []) (by kernel_rfl) (by kernel_rfl) (by kernel_rfl) (by kernel_rfl)) ?_
      refine Wp.ret ?_
      refine thenR ?_
      have hr := Option.some.inj h
      subst hr
      exact RetK [.t (.int .i64 0)] (.one (.t (.int .i64 0))) [] (by kernel_rfl) (by kernel_rfl) (.refl _) .nil
    · have h := cond_f h hc
      refine Wp.skip ?_
      refine thenN ?_
      refine Wp.seq ?_
      refine Wp.regionS (pOf []) (rhoOf []) (by kernel_rfl) ?_
      refine Runs.batch 5 (by kernel_rfl) ?_
      obtain ⟨_, e_2002, h⟩ := bind_some h
      refine Runs.num .quo (.int .i64 (bSub .i64 (bAdd .i64 p0 p1) 1)) (.int .i64 p1) (.int .i64 (bQuo .i64 (bSub .i64 (bAdd .i64 p0 p1) 1) p1)) rfl (by kernel_rfl) (by kernel_rfl) (by kernel_rfl) (by kernel_rfl) (bin_quo _ _ _ _ (by simpa using chk_some e_2002)) ?_
      refine Runs.all (by kernel_rfl) ?_
      refine thenN ?_
      refine Wp.le (Le.of (s := ⟨[(4, .t (.int .i64 (bQuo .i64 (bSub .i64 (bAdd .i64 p0 p1) 1) p1)))], [], []⟩) (mo := []) (mr := []) (by kernel_rfl) (by kernel_rfl) (by kernel_rfl) (by kernel_rfl)) ?_
      refine Wp.ret ?_
      have hr := Option.some.inj h
      subst hr
      exact RetK [.t (.int .i64 (bQuo .i64 (bSub .i64 (bAdd .i64 p0 p1) 1) p1))] (.one (.t (.int .i64 (bQuo .i64 (bSub .i64 (bAdd .i64 p0 p1) 1) p1)))) [] (by kernel_rfl) (by kernel_rfl) (.refl _) .nil
  · refine Wp.regionS (pOf []) (rhoOf []) (by kernel_rfl) ?_
    refine Runs.batch 1 (by kernel_rfl) ?_
    obtain ⟨r1, e_r1, h⟩ := bind_some h
    refine Runs.callK false 6 106 [] [.t (.int .i64 p0), .t (.int .i64 0), .t (.int .i64 1000000000000)] [.one (.t (.int .i64 p0)), .one (.t (.int .i64 0)), .one (.t (.int .i64 1000000000000))] (.one (.t (.bool r1))) [] rfl rfl (by kernel_rfl) (by kernel_rfl) (by kernel_rfl) (by kernel_rfl) (by kernel_rfl) (impl_within_ok u p0 0 1000000000000 r1 e_r1) (by kernel_rfl) ?_
    refine Runs.batch 2 (by kernel_rfl) ?_
    rcases tf (!r1) with hc | hc
    · have h := cond_t h hc
      refine Runs.known 8 (v := true) (by kernel_rfl) hc ?_
      refine Runs.all (by kernel_rfl) ?_
      refine thenN ?_
      exact ⟨(p0, p1, true), h, Le.of (mo := []) (mr := []) (by kernel_rfl) (by kernel_rfl) (by kernel_rfl) (by kernel_rfl)⟩
    · have h := cond_f h hc
      refine Runs.known 8 (v := false) (by kernel_rfl) hc ?_
      refine Runs.batch 1 (by kernel_rfl) ?_
      obtain ⟨r2, e_r2, h⟩ := bind_some h
      refine Runs.callK false 10 106 [] [.t (.int .i64 p1), .t (.int .i64 1), .t (.int .i64 1000000000000)] [.one (.t (.int .i64 p1)), .one (.t (.int .i64 1)), .one (.t (.int .i64 1000000000000))] (.one (.t (.bool r2))) [] rfl rfl (by kernel_rfl) (by kernel_rfl) (by kernel_rfl) (by kernel_rfl) (by kernel_rfl) (impl_within_ok u p1 1 1000000000000 r2 e_r2) (by kernel_rfl) ?_
      refine Runs.all (by kernel_rfl) ?_
      refine thenN ?_
      exact ⟨(p0, p1, !r2), h, Le.of (mo := []) (mr := []) (by kernel_rfl) (by kernel_rfl) (by kernel_rfl) (by kernel_rfl)⟩
theorem impl_Blocks_ok (u : Nat) (p0 : Int) (p1 : Int) (r : Int) (h : impl_Blocks u p0 p1 = some r) : CallOK Try.prog 146 [.one (.t (.int .i64 p0)), .one (.t (.int .i64 p1))] (.one (.t (.int .i64 r))) [] := by
  unfold impl_Blocks at h
  refine CallOK.of_bodyK (fn := Try.f146) (m := false) [.t (.int .i64 p0), .t (.int .i64 p1)] (by kernel_rfl) rfl (by kernel_rfl) (by kernel_rfl) (by kernel_rfl) (by kernel_rfl) (by kernel_rfl) ?_
  refine Wp.seq ?_
  refine Wp.regionS (pOf []) (rhoOf []) (by kernel_rfl) ?_
  refine Runs.all (by kernel_rfl) ?_
  refine thenN ?_
  refine Wp.le (Le.of (s := ⟨[(0, .t (.int .i64 p0)), (1, .t (.int .i64 p1)), (4, .t (.int .i64 0))], [], []⟩) (mo := []) (mr := []) (by kernel_rfl) (by kernel_rfl) (by kernel_rfl) (by kernel_rfl)) ?_
  refine Wp.seq ?_
  refine Wp.seq ?_
  refine Wp.regionS (pOf []) (rhoOf []) (by kernel_rfl) ?_
  refine Runs.batch 2 (by kernel_rfl) ?_
  obtain ⟨r1, e_r1, h⟩ := bind_some h
  refine Runs.callK false 7 73 [] [.t (.int .i64 p0), .t (.int .i64 p1)] [.one (.t (.int .i64 p0)), .one (.t (.int .i64 p1))] (.one (.t (.bool r1))) [] rfl rfl (by kernel_rfl) (by kernel_rfl) (by kernel_rfl) (by kernel_rfl) (by kernel_rfl) (impl_SizeOk_ok u p0 p1 r1 e_r1) (by kernel_rfl) ?_
  refine Runs.all (by kernel_rfl) ?_
  refine thenN ?_
  refine Wp.le (Le.of (s := ⟨[(0, .t (.int .i64 p0)), (1, .t (.int .i64 p1)), (4, .t (.int .i64 0)), (8, .t (.bool (!r1)))], [], []⟩) (mo := []) (mr := []) (by kernel_rfl) (by kernel_rfl) (by kernel_rfl) (by kernel_rfl)) ?_
  refine Wp.cond2 (b := !r1) (by kernel_rfl) (fun hc => ?_) (fun hc => ?_)
  · have h := cond_t h hc
    refine Wp.seq ?_
    refine Wp.regionS (pOf []) (rhoOf []) (by kernel_rfl) ?_
    refine Runs.all (by kernel_rfl) ?_
    refine thenN ?_
    refine Wp.le (Le.of (s := ⟨[(0, .t (.int .i64 p0)), (1, .t (.int .i64 p1)), (4, .t (.int .i64 0))], [], []⟩) (mo := []) (mr := []) (by kernel_rfl) (by kernel_rfl) (by kernel_rfl) (by kernel_rfl)) ?_
    refine Wp.ret ?_
    refine thenR ?_
    have hr := Option.some.inj h
    subst hr
    exact RetK [.t (.int .i64 0)] (.one (.t (.int .i64 0))) [] (by kernel_rfl) (by kernel_rfl) (.refl _) .nil
  · have h := cond_f h hc
    refine Wp.skip ?_
    refine thenN ?_
    refine Wp.seq ?_
    refine Wp.regionS (pOf []) (rhoOf []) (by kernel_rfl) ?_
    refine Runs.batch 2 (by kernel_rfl) ?_
    obtain ⟨r2, e_r2, h⟩ := bind_some h
    refine Runs.callK false 11 165 [] [.t (.int .i64 p1), .t (.int .i64 p0)] [.one (.t (.int .i64 p1)), .one (.t (.int .i64 p0))] (.one (.t (.int .i64 r2))) [] rfl rfl (by kernel_rfl) (by kernel_rfl) (by kernel_rfl) (by kernel_rfl) (by kernel_rfl) (impl_CeilDiv_ok u p1 p0 r2 e_r2) (by kernel_rfl) ?_
    refine Runs.all (by kernel_rfl) ?_
    refine thenN ?_
    refine Wp.le (Le.of (s := ⟨[(4, .t (.int .i64 r2))], [], []⟩) (mo := []) (mr := []) (by kernel_rfl) (by kernel_rfl) (by kernel_rfl) (by kernel_rfl)) ?_
    refine Wp.ret ?_
    have hr := Option.some.inj h
    subst hr
    exact RetK [.t (.int .i64 r2)] (.one (.t (.int .i64 r2))) [] (by kernel_rfl) (by kernel_rfl) (.refl _) .nil
theorem impl_SpanOf_ok (u : Nat) (p0 : Int) (p1 : Int) (p2 : Int) (r : Int × Int) (h : impl_SpanOf u p0 p1 p2 = some r) : CallOK Try.prog 118 [.one (.t (.int .i64 p0)), .one (.t (.int .i64 p1)), .one (.t (.int .i64 p2))] (.tup [.one (.t (.int .i64 r.1)), .one (.t (.int .i64 r.2))]) [] := by
  unfold impl_SpanOf at h
  refine CallOK.of_bodyK (fn := Try.f118) (m := false) [.t (.int .i64 p0), .t (.int .i64 p1), .t (.int .i64 p2)] (by kernel_rfl) rfl (by kernel_rfl) (by kernel_rfl) (by kernel_rfl) (by kernel_rfl) (by kernel_rfl) ?_
  refine Wp.seq ?_
  refine Wp.regionS (pOf []) (rhoOf []) (by kernel_rfl) ?_
  refine Runs.all (by kernel_rfl) ?_
  refine thenN ?_
  refine Wp.le (Le.of (s := ⟨[(0, .t (.int .i64 p0)), (1, .t (.int .i64 p1)), (2, .t (.int .i64 p2)), (6, .t (.int .i64 0)), (7, .t (.int .i64 0))], [], []⟩) (mo := []) (mr := []) (by kernel_rfl) (by kernel_rfl) (by kernel_rfl) (by kernel_rfl)) ?_
  refine Wp.seq ?_
  refine Wp.seq ?_
  refine Wp.regionS (pOf []) (rhoOf []) (by kernel_rfl) ?_
  refine Runs.batch 3 (by kernel_rfl) ?_
  obtain ⟨r1, e_r1, h⟩ := bind_some h
  refine Runs.callK false 11 146 [] [.t (.int .i64 p0), .t (.int .i64 p1)] [.one (.t (.int .i64 p0)), .one (.t (.int .i64 p1))] (.one (.t (.int .i64 r1))) [] rfl rfl (by kernel_rfl) (by kernel_rfl) (by kernel_rfl) (by kernel_rfl) (by kernel_rfl) (impl_Blocks_ok u p0 p1 r1 e_r1) (by kernel_rfl) ?_
  refine Runs.batch 1 (by kernel_rfl) ?_
  obtain ⟨r2, e_r2, h⟩ := bind_some h
  refine Runs.callK false 13 106 [] [.t (.int .i64 p2), .t (.int .i64 0), .t (.int .i64 (bSub .i64 r1 1))] [.one (.t (.int .i64 p2)), .one (.t (.int .i64 0)), .one (.t (.int .i64 (bSub .i64 r1 1)))] (.one (.t (.bool r2))) [] rfl rfl (by kernel_rfl) (by kernel_rfl) (by kernel_rfl) (by kernel_rfl) (by kernel_rfl) (impl_within_ok u p2 0 (bSub .i64 r1 1) r2 e_r2) (by kernel_rfl) ?_
  refine Runs.all (by kernel_rfl) ?_
  refine thenN ?_
  refine Wp.le (Le.of (s := ⟨[(0, .t (.int .i64 p0)), (1, .t (.int .i64 p1)), (2, .t (.int .i64 p2)), (6, .t (.int .i64 0)), (7, .t (.int .i64 0)), (14, .t (.bool (!r2)))], [], []⟩) (mo := []) (mr := []) (by kernel_rfl) (by kernel_rfl) (by kernel_rfl) (by kernel_rfl)) ?_
  refine Wp.cond2 (b := !r2) (by kernel_rfl) (fun hc => ?_) (fun hc => ?_)
  · have h := cond_t h hc
    refine Wp.seq ?_
    refine Wp.regionS (pOf []) (rhoOf []) (by kernel_rfl) ?_
    refine Runs.all (by kernel_rfl) ?_
    refine thenN ?_
    refine Wp.le (Le.of (s := ⟨[(0, .t (.int .i64 p0)), (1, .t (.int .i64 p1)), (2, .t (.int .i64 p2)), (6, .t (.int .i64 0)), (7, .t (.int .i64 0))], [], []⟩) (mo := []) (mr := []) (by kernel_rfl) (by kernel_rfl) (by kernel_rfl) (by kernel_rfl)) ?_
    refine Wp.ret ?_
    refine thenR ?_
    have hr := Option.some.inj h
    subst hr
    exact RetK [.t (.int .i64 0), .t (.int .i64 0)] (.tup [.one (.t (.int .i64 0)), .one (.t (.int .i64 0))]) [] (by kernel_rfl) (by kernel_rfl) (.refl _) .nil
  · have h := cond_f h hc
    refine Wp.skip ?_
    refine thenN ?_
    refine Wp.seq ?_
    refine Wp.regionS (pOf []) (rhoOf []) (by kernel_rfl) ?_
    refine Runs.all (by kernel_rfl) ?_
    refine thenN ?_
    refine Wp.le (Le.of (s := ⟨[(6, .t (.int .i64 (bMul .i64 p2 p0))), (7, .t (.int .i64 (if (bSub .i64 p1 (bMul .i64 p2 p0)) < p0 then (bSub .i64 p1 (bMul .i64 p2 p0)) else p0)))], [], []⟩) (mo := []) (mr := []) (by kernel_rfl) (by kernel_rfl) (by kernel_rfl) (by kernel_rfl)) ?_
    refine Wp.ret ?_
    have hr := Option.some.inj h
    subst hr
    exact RetK [.t (.int .i64 (bMul .i64 p2 p0)), .t (.int .i64 (if (bSub .i64 p1 (bMul .i64 p2 p0)) < p0 then (bSub .i64 p1 (bMul .i64 p2 p0)) else p0))] (.tup [.one (.t (.int .i64 (bMul .i64 p2 p0))), .one (.t (.int .i64 (if (bSub .i64 p1 (bMul .i64 p2 p0)) < p0 then (bSub .i64 p1 (bMul .i64 p2 p0)) else p0)))]) [] (by kernel_rfl) (by kernel_rfl) (.refl _) .nil
theorem impl_cloned_ok (u : Nat) (p0 : List Int) (r : (List Int)) (h : impl_cloned u p0 = some r) : CallOK Try.prog 99 [.one (.t (.sl 1 (p0.map (eInt .u8))))] (.one (.ow 5 1 (r.map (eInt .u8)))) [] := by
  unfold impl_cloned at h
  refine CallOK.of_bodyK (fn := Try.f99) (m := true) [.t (.sl 1 (p0.map (eInt .u8)))] (by kernel_rfl) rfl (by kernel_rfl) (by kernel_rfl) (by kernel_rfl) (by kernel_rfl) (by kernel_rfl) ?_
  refine Wp.seq ?_
  refine Wp.regionS (pOf []) (rhoOf []) (by kernel_rfl) ?_
  refine Runs.all (by kernel_rfl) ?_
  refine thenN ?_
  refine Wp.le (Le.of (s := ⟨[(0, .t (.sl 1 (p0.map (eInt .u8)))), (2, .nil)], [], []⟩) (mo := []) (mr := []) (by kernel_rfl) (by kernel_rfl) (by kernel_rfl) (by kernel_rfl)) ?_
  refine Wp.seq ?_
  refine Wp.regionS (pOf []) (rhoOf []) (by kernel_rfl) ?_
  refine Runs.batch 1 (by kernel_rfl) ?_
  refine Runs.lenT (y := .t (.sl 1 (p0.map (eInt .u8)))) (e := 5) (eInt .u8) p0 1 rfl rfl rfl (by kernel_rfl) (by kernel_rfl) (by kernel_rfl) (by kernel_rfl) (by kernel_rfl) ?_
  obtain ⟨_, e_1, h⟩ := bind_some h
  obtain ⟨_, e_2, h⟩ := bind_some h
  refine Runs.mkS (eInt .u8) (0 : Int) 5 5 1 1 0 ((p0.length : Int)) rfl rfl (by kernel_rfl) (by kernel_rfl) (by kernel_rfl) (by kernel_rfl) (by kernel_rfl) (by kernel_rfl) (chk_some e_1) (of_decide_eq_true (chk_some e_2)) (by kernel_rfl) ?_
  refine Runs.batch 1 (by kernel_rfl) ?_
  obtain ⟨_, e_3, h⟩ := bind_some h
  refine Runs.appT (y := .t (.sl 1 (p0.map (eInt .u8)))) (eInt .u8) 7 1 5 1 1 327680 (List.replicate (Int.toNat 0) (0 : Int)) p0 rfl rfl rfl rfl (by kernel_rfl) (by kernel_rfl) (by kernel_rfl) (by kernel_rfl) (by kernel_rfl) (by kernel_rfl) (.inl rfl) (by kernel_rfl) (of_decide_eq_true (chk_some e_3)) (by kernel_rfl) (by kernel_rfl) ?_
  refine Runs.all (by kernel_rfl) ?_
  refine thenN ?_
  refine Wp.le (Le.of (s := ⟨[(2, .own 458752)], [], [(458752, .live 5 1 (((List.replicate (Int.toNat 0) (0 : Int)) ++ p0).map (eInt .u8)))]⟩) (mo := []) (mr := []) (by kernel_rfl) (by kernel_rfl) (by kernel_rfl) (by kernel_rfl)) ?_
  refine Wp.ret ?_
  have hr := Option.some.inj h
  subst hr
  exact RetK [.own 458752] (.one (.ow 5 1 (((List.replicate (Int.toNat 0) (0 : Int)) ++ p0).map (eInt .u8)))) [] (by kernel_rfl) (by kernel_rfl) (.refl _) .nil
theorem impl_Slice_ok (u : Nat) (p0 : List Int) (p1 : Int) (p2 : Int) (r : (List Int) × Bool) (h : impl_Slice u p0 p1 p2 = some r) : CallOK Try.prog 166 [.one (.t (.sl 1 (p0.map (eInt .u8)))), .one (.t (.int .i64 p1)), .one (.t (.int .i64 p2))] (.tup [.one (.ow 5 1 (r.1.map (eInt .u8))), .one (.t (.bool r.2))]) [] := by
  unfold impl_Slice at h
  refine CallOK.of_bodyK (fn := Try.f166) (m := true) [.t (.sl 1 (p0.map (eInt .u8))), .t (.int .i64 p1), .t (.int .i64 p2)] (by kernel_rfl) rfl (by kernel_rfl) (by kernel_rfl) (by kernel_rfl) (by kernel_rfl) (by kernel_rfl) ?_
  refine Wp.seq ?_
  refine Wp.regionS (pOf []) (rhoOf []) (by kernel_rfl) ?_
  refine Runs.all (by kernel_rfl) ?_
  refine thenN ?_
  refine Wp.le (Le.of (s := ⟨[(0, .t (.sl 1 (p0.map (eInt .u8)))), (1, .t (.int .i64 p1)), (2, .t (.int .i64 p2)), (6, .nil), (7, .t (.bool false))], [], []⟩) (mo := []) (mr := []) (by kernel_rfl) (by kernel_rfl) (by kernel_rfl) (by kernel_rfl)) ?_
  refine Wp.seq ?_
  refine Wp.seqJ (α := (List Int) × Int × Int × Bool) (fun a => ⟨[(0, .t (.sl 1 (a.1.map (eInt .u8)))), (1, .t (.int .i64 a.2.1)), (2, .t (.int .i64 a.2.2.1)), (6, .nil), (7, .t (.bool false)), (21, .t (.bool a.2.2.2))], [], []⟩) (fun a => impl_Slice_j1 u a.1 a.2.1 a.2.2.1 a.2.2.2 = some r) ?_ ?_
  · rintro ⟨p0, p1, p2, x2001⟩ h
    change impl_Slice_j1 u p0 p1 p2 x2001 = some r at h
    unfold impl_Slice_j1 at h
    refine Wp.cond2 (b := x2001) (by kernel_rfl) (fun hc => ?_) (fun hc => ?_)
    · have h := cond_t h hc
      refine Wp.seq ?_
      refine Wp.regionS (pOf []) (rhoOf []) (by kernel_rfl) ?_
      refine Runs.all (by kernel_rfl) ?_
      refine thenN ?_
      refine Wp.le (Le.of (s := ⟨[(0, .t (.sl 1 (p0.map (eInt .u8)))), (1, .t (.int .i64 p1)), (2, .t (.int .i64 p2)), (6, .nil), (7, .t (.bool false))], [], []⟩) (mo := []) (mr := []) (by kernel_rfl) (by kernel_rfl) (by kernel_rfl) (by kernel_rfl)) ?_
      refine Wp.ret ?_
      refine thenR ?_
      have hr := Option.some.inj h
      subst hr
      exact RetK [.nil, .t (.bool false)] (.tup [.one (.nil), .one (.t (.bool false))]) [] (by kernel_rfl) (by kernel_rfl) (.tup (.cons (.one (.nilO _ _)) (.cons (.refl _) .nil))) .nil
    · have h := cond_f h hc
      refine Wp.skip ?_
      refine thenN ?_
      refine Wp.seq ?_
      refine Wp.regionS (pOf []) (rhoOf []) (by kernel_rfl) ?_
      refine Runs.batch 5 (by kernel_rfl) ?_
      obtain ⟨_, e_2002, h⟩ := bind_some h
      refine Runs.subsl (e := 5) (ax := .t (.sl 1 (p0.map (eInt .u8)))) (alo := (some (.t (.int .i64 p1)))) (ahi := (some (.t (.int .i64 (bAdd .i64 p1 p2))))) (eInt .u8) p0 1 p1 (bAdd .i64 p1 p2) rfl (by kernel_rfl) (by kernel_rfl) (by kernel_rfl) (by kernel_rfl) (by kernel_rfl) (by kernel_rfl) (by kernel_rfl) (by kernel_rfl) (by kernel_rfl) (by kernel_rfl) (chk_some e_2002) ?_
      obtain ⟨r2003, e_r2003, h⟩ := bind_some h
      refine Runs.callK false 28 99 [] [.t (.sl 1 (((p0.take (Int.toNat (bAdd .i64 p1 p2))).drop (Int.toNat p1)).map (eInt .u8)))] [.one (.t (.sl 1 (((p0.take (Int.toNat (bAdd .i64 p1 p2))).drop (Int.toNat p1)).map (eInt .u8))))] (.one (.ow 5 1 (r2003.map (eInt .u8)))) [] rfl rfl (by kernel_rfl) (by kernel_rfl) (by kernel_rfl) (by kernel_rfl) (by kernel_rfl) (impl_cloned_ok u ((p0.take (Int.toNat (bAdd .i64 p1 p2))).drop (Int.toNat p1)) r2003 e_r2003) (by kernel_rfl) ?_
      refine Runs.all (by kernel_rfl) ?_
      refine thenN ?_
      refine Wp.le (Le.of (s := ⟨[(6, .own 1835008), (7, .t (.bool true))], [], [(1835008, .live 5 1 (r2003.map (eInt .u8)))]⟩) (mo := []) (mr := []) (by kernel_rfl) (by kernel_rfl) (by kernel_rfl) (by kernel_rfl)) ?_
      refine Wp.ret ?_
      have hr := Option.some.inj h
      subst hr
      exact RetK [.own 1835008, .t (.bool true)] (.tup [.one (.ow 5 1 (r2003.map (eInt .u8))), .one (.t (.bool true))]) [] (by kernel_rfl) (by kernel_rfl) (.refl _) .nil
  · refine Wp.regionS (pOf []) (rhoOf []) (by kernel_rfl) ?_
    refine Runs.batch 2 (by kernel_rfl) ?_
    refine Runs.lenT (y := .t (.sl 1 (p0.map (eInt .u8)))) (e := 5) (eInt .u8) p0 1 rfl rfl rfl (by kernel_rfl) (by kernel_rfl) (by kernel_rfl) (by kernel_rfl) (by kernel_rfl) ?_
    obtain ⟨r1, e_r1, h⟩ := bind_some h
    refine Runs.callK false 11 106 [] [.t (.int .i64 p1), .t (.int .i64 0), .t (.int .i64 ((p0.length : Int)))] [.one (.t (.int .i64 p1)), .one (.t (.int .i64 0)), .one (.t (.int .i64 ((p0.length : Int))))] (.one (.t (.bool r1))) [] rfl rfl (by kernel_rfl) (by kernel_rfl) (by kernel_rfl) (by kernel_rfl) (by kernel_rfl) (impl_within_ok u p1 0 ((p0.length : Int)) r1 e_r1) (by kernel_rfl) ?_
    refine Runs.batch 2 (by kernel_rfl) ?_
    rcases tf (!r1) with hc | hc
    · have h := cond_t h hc
      refine Runs.known 13 (v := true) (by kernel_rfl) hc ?_
      refine Runs.all (by kernel_rfl) ?_
      refine thenN ?_
      exact ⟨(p0, p1, p2, true), h, Le.of (mo := []) (mr := []) (by kernel_rfl) (by kernel_rfl) (by kernel_rfl) (by kernel_rfl)⟩
    · have h := cond_f h hc
      refine Runs.known 13 (v := false) (by kernel_rfl) hc ?_
      refine Runs.batch 2 (by kernel_rfl) ?_
      refine Runs.lenT (y := .t (.sl 1 (p0.map (eInt .u8)))) (e := 5) (eInt .u8) p0 1 rfl rfl rfl (by kernel_rfl) (by kernel_rfl) (by kernel_rfl) (by kernel_rfl) (by kernel_rfl) ?_
      refine Runs.batch 2 (by kernel_rfl) ?_
      obtain ⟨r2, e_r2, h⟩ := bind_some h
      refine Runs.callK false 19 106 [] [.t (.int .i64 p2), .t (.int .i64 0), .t (.int .i64 (bSub .i64 ((p0.length : Int)) p1))] [.one (.t (.int .i64 p2)), .one (.t (.int .i64 0)), .one (.t (.int .i64 (bSub .i64 ((p0.length : Int)) p1)))] (.one (.t (.bool r2))) [] rfl rfl (by kernel_rfl) (by kernel_rfl) (by kernel_rfl) (by kernel_rfl) (by kernel_rfl) (impl_within_ok u p2 0 (bSub .i64 ((p0.length : Int)) p1) r2 e_r2) (by kernel_rfl) ?_
      refine Runs.all (by kernel_rfl) ?_
      refine thenN ?_
      exact ⟨(p0, p1, p2, !r2), h, Le.of (mo := []) (mr := []) (by kernel_rfl) (by kernel_rfl) (by kernel_rfl) (by kernel_rfl)⟩
theorem impl_BlockAt_ok (u : Nat) (p0 : List Int) (p1 : Int) (p2 : Int) (r : (List Int) × Bool) (h : impl_BlockAt u p0 p1 p2 = some r) : CallOK Try.prog 147 [.one (.t (.sl 1 (p0.map (eInt .u8)))), .one (.t (.int .i64 p1)), .one (.t (.int .i64 p2))] (.tup [.one (.ow 5 1 (r.1.map (eInt .u8))), .one (.t (.bool r.2))]) [] := by
  unfold impl_BlockAt at h
  refine CallOK.of_bodyK (fn := Try.f147) (m := true) [.t (.sl 1 (p0.map (eInt .u8))), .t (.int .i64 p1), .t (.int .i64 p2)] (by kernel_rfl) rfl (by kernel_rfl) (by kernel_rfl) (by kernel_rfl) (by kernel_rfl) (by kernel_rfl) ?_
  refine Wp.seq ?_
  refine Wp.regionS (pOf []) (rhoOf []) (by kernel_rfl) ?_
  refine Runs.all (by kernel_rfl) ?_
  refine thenN ?_
  refine Wp.le (Le.of (s := ⟨[(0, .t (.sl 1 (p0.map (eInt .u8)))), (1, .t (.int .i64 p1)), (2, .t (.int .i64 p2)), (6, .nil), (7, .t (.bool false))], [], []⟩) (mo := []) (mr := []) (by kernel_rfl) (by kernel_rfl) (by kernel_rfl) (by kernel_rfl)) ?_
  refine Wp.seq ?_
  refine Wp.regionS (pOf []) (rhoOf []) (by kernel_rfl) ?_
  refine Runs.batch 2 (by kernel_rfl) ?_
  refine Runs.lenT (y := .t (.sl 1 (p0.map (eInt .u8)))) (e := 5) (eInt .u8) p0 1 rfl rfl rfl (by kernel_rfl) (by kernel_rfl) (by kernel_rfl) (by kernel_rfl) (by kernel_rfl) ?_
  refine Runs.batch 1 (by kernel_rfl) ?_
  obtain ⟨r1, e_r1, h⟩ := bind_some h
  refine Runs.callK false 15 118 [] [.t (.int .i64 p1), .t (.int .i64 ((p0.length : Int))), .t (.int .i64 p2)] [.one (.t (.int .i64 p1)), .one (.t (.int .i64 ((p0.length : Int)))), .one (.t (.int .i64 p2))] (.tup [.one (.t (.int .i64 r1.1)), .one (.t (.int .i64 r1.2))]) [] rfl rfl (by kernel_rfl) (by kernel_rfl) (by kernel_rfl) (by kernel_rfl) (by kernel_rfl) (impl_SpanOf_ok u p1 ((p0.length : Int)) p2 r1 e_r1) (by kernel_rfl) ?_
  refine Runs.all (by kernel_rfl) ?_
  refine thenN ?_
  refine Wp.le (Le.of (s := ⟨[(0, .t (.sl 1 (p0.map (eInt .u8)))), (6, .nil), (7, .t (.bool false)), (8, .t (.int .i64 r1.1)), (9, .t (.int .i64 r1.2))], [], []⟩) (mo := []) (mr := []) (by kernel_rfl) (by kernel_rfl) (by kernel_rfl) (by kernel_rfl)) ?_
  refine Wp.seq ?_
  refine Wp.seq ?_
  refine Wp.regionS (pOf []) (rhoOf []) (by kernel_rfl) ?_
  refine Runs.all (by kernel_rfl) ?_
  refine thenN ?_
  refine Wp.le (Le.of (s := ⟨[(0, .t (.sl 1 (p0.map (eInt .u8)))), (6, .nil), (7, .t (.bool false)), (8, .t (.int .i64 r1.1)), (9, .t (.int .i64 r1.2)), (19, .t (.bool (r1.2 == 0)))], [], []⟩) (mo := []) (mr := []) (by kernel_rfl) (by kernel_rfl) (by kernel_rfl) (by kernel_rfl)) ?_
  refine Wp.cond2 (b := r1.2 == 0) (by kernel_rfl) (fun hc => ?_) (fun hc => ?_)
  · have h := cond_t h hc
    refine Wp.seq ?_
    refine Wp.regionS (pOf []) (rhoOf []) (by kernel_rfl) ?_
    refine Runs.all (by kernel_rfl) ?_
    refine thenN ?_
    refine Wp.le (Le.of (s := ⟨[(0, .t (.sl 1 (p0.map (eInt .u8)))), (6, .nil), (7, .t (.bool false)), (8, .t (.int .i64 r1.1)), (9, .t (.int .i64 r1.2))], [], []⟩) (mo := []) (mr := []) (by kernel_rfl) (by kernel_rfl) (by kernel_rfl) (by kernel_rfl)) ?_
    refine Wp.ret ?_
    refine thenR ?_
    have hr := Option.some.inj h
    subst hr
    exact RetK [.nil, .t (.bool false)] (.tup [.one (.nil), .one (.t (.bool false))]) [] (by kernel_rfl) (by kernel_rfl) (.tup (.cons (.one (.nilO _ _)) (.cons (.refl _) .nil))) .nil
  · have h := cond_f h hc
    refine Wp.skip ?_
    refine thenN ?_
    refine Wp.seq ?_
    refine Wp.regionS (pOf []) (rhoOf []) (by kernel_rfl) ?_
    refine Runs.batch 3 (by kernel_rfl) ?_
    obtain ⟨r2, e_r2, h⟩ := bind_some h
    refine Runs.callK false 23 166 [] [.t (.sl 1 (p0.map (eInt .u8))), .t (.int .i64 r1.1), .t (.int .i64 r1.2)] [.one (.t (.sl 1 (p0.map (eInt .u8)))), .one (.t (.int .i64 r1.1)), .one (.t (.int .i64 r1.2))] (.tup [.one (.ow 5 1 (r2.1.map (eInt .u8))), .one (.t (.bool r2.2))]) [] rfl rfl (by kernel_rfl) (by kernel_rfl) (by kernel_rfl) (by kernel_rfl) (by kernel_rfl) (impl_Slice_ok u p0 r1.1 r1.2 r2 e_r2) (by kernel_rfl) ?_
    refine Runs.all (by kernel_rfl) ?_
    refine thenN ?_
    refine Wp.le (Le.of (s := ⟨[(6, .own 1507328), (7, .t (.bool r2.2))], [], [(1507328, .live 5 1 (r2.1.map (eInt .u8)))]⟩) (mo := []) (mr := []) (by kernel_rfl) (by kernel_rfl) (by kernel_rfl) (by kernel_rfl)) ?_
    refine Wp.ret ?_
    have hr := Option.some.inj h
    subst hr
    exact RetK [.own 1507328, .t (.bool r2.2)] (.tup [.one (.ow 5 1 (r2.1.map (eInt .u8))), .one (.t (.bool r2.2))]) [] (by kernel_rfl) (by kernel_rfl) (.refl _) .nil
theorem impl_Wrap_ok (u : Nat) (p0 : Int) (p1 : Int) (r : Int) (h : impl_Wrap u p0 p1 = some r) : CallOK Try.prog 176 [.one (.t (.int .i64 p0)), .one (.t (.int .i64 p1))] (.one (.t (.int .i64 r))) [] := by
  unfold impl_Wrap at h
  refine CallOK.of_bodyK (fn := Try.f176) (m := false) [.t (.int .i64 p0), .t (.int .i64 p1)] (by kernel_rfl) rfl (by kernel_rfl) (by kernel_rfl) (by kernel_rfl) (by kernel_rfl) (by kernel_rfl) ?_
  refine Wp.seq ?_
  refine Wp.regionS (pOf []) (rhoOf []) (by kernel_rfl) ?_
  refine Runs.all (by kernel_rfl) ?_
  refine thenN ?_
  refine Wp.le (Le.of (s := ⟨[(0, .t (.int .i64 p0)), (1, .t (.int .i64 p1)), (4, .t (.int .i64 0))], [], []⟩) (mo := []) (mr := []) (by kernel_rfl) (by kernel_rfl) (by kernel_rfl) (by kernel_rfl)) ?_
  refine Wp.seq ?_
  refine Wp.seq ?_
  refine Wp.regionS (pOf []) (rhoOf []) (by kernel_rfl) ?_
  refine Runs.batch 1 (by kernel_rfl) ?_
  obtain ⟨r1, e_r1, h⟩ := bind_some h
  refine Runs.callK false 6 106 [] [.t (.int .i64 p1), .t (.int .i64 1), .t (.int .i64 1000000000000)] [.one (.t (.int .i64 p1)), .one (.t (.int .i64 1)), .one (.t (.int .i64 1000000000000))] (.one (.t (.bool r1))) [] rfl rfl (by kernel_rfl) (by kernel_rfl) (by kernel_rfl) (by kernel_rfl) (by kernel_rfl) (impl_within_ok u p1 1 1000000000000 r1 e_r1) (by kernel_rfl) ?_
  refine Runs.all (by kernel_rfl) ?_
  refine thenN ?_
  refine Wp.le (Le.of (s := ⟨[(0, .t (.int .i64 p0)), (1, .t (.int .i64 p1)), (4, .t (.int .i64 0)), (7, .t (.bool (!r1)))], [], []⟩) (mo := []) (mr := []) (by kernel_rfl) (by kernel_rfl) (by kernel_rfl) (by kernel_rfl)) ?_
  refine Wp.cond2 (b := !r1) (by kernel_rfl) (fun hc => ?_) (fun hc => ?_)
  · have h := cond_t h hc
    refine Wp.seq ?_
    refine Wp.regionS (pOf []) (rhoOf []) (by kernel_rfl) ?_
    refine Runs.all (by kernel_rfl) ?_
    refine thenN ?_
    refine Wp.le (Le.of (s := ⟨[(0, .t (.int .i64 p0)), (1, .t (.int .i64 p1)), (4, .t (.int .i64 0))], [], []⟩) (mo := []) (mr := []) (by kernel_rfl) (by kernel_rfl) (by kernel_rfl) (by kernel_rfl)) ?_
    refine Wp.ret ?_
    refine thenR ?_
    have hr := Option.some.inj h
    subst hr
    exact RetK [.t (.int .i64 0)] (.one (.t (.int .i64 0))) [] (by kernel_rfl) (by kernel_rfl) (.refl _) .nil
  · have h := cond_f h hc
    refine Wp.skip ?_
    refine thenN ?_
    refine Wp.seq ?_
    refine Wp.regionS (pOf []) (rhoOf []) (by kernel_rfl) ?_
    refine Runs.batch 2 (by kernel_rfl) ?_
    obtain ⟨_, e_2, h⟩ := bind_some h
    refine Runs.num .rem (.int .i64 p0) (.int .i64 p1) (.int .i64 (bRem .i64 p0 p1)) rfl (by kernel_rfl) (by kernel_rfl) (by kernel_rfl) (by kernel_rfl) (bin_rem _ _ _ _ (by simpa using chk_some e_2)) ?_
    refine Runs.batch 3 (by kernel_rfl) ?_
    obtain ⟨_, e_3, h⟩ := bind_some h
    refine Runs.num .rem (.int .i64 (bAdd .i64 (bRem .i64 p0 p1) p1)) (.int .i64 p1) (.int .i64 (bRem .i64 (bAdd .i64 (bRem .i64 p0 p1) p1) p1)) rfl (by kernel_rfl) (by kernel_rfl) (by kernel_rfl) (by kernel_rfl) (bin_rem _ _ _ _ (by simpa using chk_some e_3)) ?_
    refine Runs.all (by kernel_rfl) ?_
    refine thenN ?_
    refine Wp.le (Le.of (s := ⟨[(4, .t (.int .i64 (bRem .i64 (bAdd .i64 (bRem .i64 p0 p1) p1) p1)))], [], []⟩) (mo := []) (mr := []) (by kernel_rfl) (by kernel_rfl) (by kernel_rfl) (by kernel_rfl)) ?_
    refine Wp.ret ?_
    have hr := Option.some.inj h
    subst hr
    exact RetK [.t (.int .i64 (bRem .i64 (bAdd .i64 (bRem .i64 p0 p1) p1) p1))] (.one (.t (.int .i64 (bRem .i64 (bAdd .i64 (bRem .i64 p0 p1) p1) p1)))) [] (by kernel_rfl) (by kernel_rfl) (.refl _) .nil
theorem impl_weak_ok (u : Nat) (p0 : Int) (p1 : Int) (r : Int) (h : impl_weak u p0 p1 = some r) : CallOK Try.prog 167 [.one (.t (.int .i64 p0)), .one (.t (.int .i64 p1))] (.one (.t (.int .i64 r))) [] := by
  unfold impl_weak at h
  refine CallOK.of_bodyK (fn := Try.f167) (m := false) [.t (.int .i64 p0), .t (.int .i64 p1)] (by kernel_rfl) rfl (by kernel_rfl) (by kernel_rfl) (by kernel_rfl) (by kernel_rfl) (by kernel_rfl) ?_
  refine Wp.seq ?_
  refine Wp.regionS (pOf []) (rhoOf []) (by kernel_rfl) ?_
  refine Runs.all (by kernel_rfl) ?_
  refine thenN ?_
  refine Wp.le (Le.of (s := ⟨[(0, .t (.int .i64 p0)), (1, .t (.int .i64 p1)), (4, .t (.int .i64 0))], [], []⟩) (mo := []) (mr := []) (by kernel_rfl) (by kernel_rfl) (by kernel_rfl) (by kernel_rfl)) ?_
  refine Wp.seq ?_
  refine Wp.regionS (pOf []) (rhoOf []) (by kernel_rfl) ?_
  refine Runs.batch 1 (by kernel_rfl) ?_
  obtain ⟨r1, e_r1, h⟩ := bind_some h
  refine Runs.callK false 6 176 [] [.t (.int .i64 p0), .t (.int .i64 251)] [.one (.t (.int .i64 p0)), .one (.t (.int .i64 251))] (.one (.t (.int .i64 r1))) [] rfl rfl (by kernel_rfl) (by kernel_rfl) (by kernel_rfl) (by kernel_rfl) (by kernel_rfl) (impl_Wrap_ok u p0 251 r1 e_r1) (by kernel_rfl) ?_
  refine Runs.batch 1 (by kernel_rfl) ?_
  obtain ⟨r2, e_r2, h⟩ := bind_some h
  refine Runs.callK false 8 176 [] [.t (.int .i64 p1), .t (.int .i64 251)] [.one (.t (.int .i64 p1)), .one (.t (.int .i64 251))] (.one (.t (.int .i64 r2))) [] rfl rfl (by kernel_rfl) (by kernel_rfl) (by kernel_rfl) (by kernel_rfl) (by kernel_rfl) (impl_Wrap_ok u p1 251 r2 e_r2) (by kernel_rfl) ?_
  refine Runs.all (by kernel_rfl) ?_
  refine thenN ?_
  refine Wp.le (Le.of (s := ⟨[(4, .t (.int .i64 (bAdd .i64 r1 (bMul .i64 251 r2))))], [], []⟩) (mo := []) (mr := []) (by kernel_rfl) (by kernel_rfl) (by kernel_rfl) (by kernel_rfl)) ?_
  refine Wp.ret ?_
  have hr := Option.some.inj h
  subst hr
  exact RetK [.t (.int .i64 (bAdd .i64 r1 (bMul .i64 251 r2)))] (.one (.t (.int .i64 (bAdd .i64 r1 (bMul .i64 251 r2))))) [] (by kernel_rfl) (by kernel_rfl) (.refl _) .nil
theorem impl_WeakOf_ok (u : Nat) (p0 : List Int) (r : Int) (h : impl_WeakOf u p0 = some r) : CallOK Try.prog 151 [.one (.t (.sl 1 (p0.map (eInt .u8))))] (.one (.t (.int .i64 r))) [] := by
  unfold impl_WeakOf at h
  refine CallOK.of_bodyK (fn := Try.f151) (m := false) [.t (.sl 1 (p0.map (eInt .u8)))] (by kernel_rfl) rfl (by kernel_rfl) (by kernel_rfl) (by kernel_rfl) (by kernel_rfl) (by kernel_rfl) ?_
  refine Wp.seq ?_
  refine Wp.regionS (pOf []) (rhoOf []) (by kernel_rfl) ?_
  refine Runs.all (by kernel_rfl) ?_
  refine thenN ?_
  refine Wp.le (Le.of (s := ⟨[(0, .t (.sl 1 (p0.map (eInt .u8)))), (2, .t (.int .i64 0))], [], []⟩) (mo := []) (mr := []) (by kernel_rfl) (by kernel_rfl) (by kernel_rfl) (by kernel_rfl)) ?_
  refine Wp.seq ?_
  refine Wp.regionS (pOf []) (rhoOf []) (by kernel_rfl) ?_
  refine Runs.all (by kernel_rfl) ?_
  refine thenN ?_
  refine Wp.le (Le.of (s := ⟨[(0, .t (.sl 1 (p0.map (eInt .u8)))), (2, .t (.int .i64 0)), (3, .t (.int .i64 0)), (4, .t (.int .i64 0))], [], []⟩) (mo := []) (mr := []) (by kernel_rfl) (by kernel_rfl) (by kernel_rfl) (by kernel_rfl)) ?_
  refine Wp.seqJ (α := Int × Int) (fun a => ⟨[(2, .t (.int .i64 0)), (3, .t (.int .i64 a.1)), (4, .t (.int .i64 a.2))], [], []⟩) (fun a => impl_WeakOf_j1 u a.1 a.2 = some r) ?_ ?_
  · rintro ⟨x2001, x2002⟩ h
    change impl_WeakOf_j1 u x2001 x2002 = some r at h
    unfold impl_WeakOf_j1 at h
    refine Wp.seq ?_
    refine Wp.regionS (pOf []) (rhoOf []) (by kernel_rfl) ?_
    refine Runs.batch 2 (by kernel_rfl) ?_
    obtain ⟨r2003, e_r2003, h⟩ := bind_some h
    refine Runs.callK false 25 167 [] [.t (.int .i64 x2001), .t (.int .i64 x2002)] [.one (.t (.int .i64 x2001)), .one (.t (.int .i64 x2002))] (.one (.t (.int .i64 r2003))) [] rfl rfl (by kernel_rfl) (by kernel_rfl) (by kernel_rfl) (by kernel_rfl) (by kernel_rfl) (impl_weak_ok u x2001 x2002 r2003 e_r2003) (by kernel_rfl) ?_
    refine Runs.all (by kernel_rfl) ?_
    refine thenN ?_
    refine Wp.le (Le.of (s := ⟨[(2, .t (.int .i64 r2003))], [], []⟩) (mo := []) (mr := []) (by kernel_rfl) (by kernel_rfl) (by kernel_rfl) (by kernel_rfl)) ?_
    refine Wp.ret ?_
    have hr := Option.some.inj h
    subst hr
    exact RetK [.t (.int .i64 r2003)] (.one (.t (.int .i64 r2003))) [] (by kernel_rfl) (by kernel_rfl) (.refl _) .nil
  · refine Wp.seq ?_
    refine Wp.regionS (pOf []) (rhoOf []) (by kernel_rfl) ?_
    refine Runs.batch 1 (by kernel_rfl) ?_
    refine Runs.lenT (y := .t (.sl 1 (p0.map (eInt .u8)))) (e := 5) (eInt .u8) p0 1 rfl rfl rfl (by kernel_rfl) (by kernel_rfl) (by kernel_rfl) (by kernel_rfl) (by kernel_rfl) ?_
    refine Runs.all (by kernel_rfl) ?_
    refine thenN ?_
    refine Wp.le (Le.of (s := ⟨[(2, .t (.int .i64 0)), (3, .t (.int .i64 0)), (4, .t (.int .i64 0)), (7, .t (.sl 1 (p0.map (eInt .u8)))), (8, .t (.int .i64 ((p0.length : Int)))), (9, .t (.int .i64 0))], [], []⟩) (mo := []) (mr := []) (by kernel_rfl) (by kernel_rfl) (by kernel_rfl) (by kernel_rfl)) ?_
    refine Wp.block ?_
    refine Wp.loopF (α := Int × Int × (List Int) × Int) (fun a => ⟨[(2, .t (.int .i64 0)), (3, .t (.int .i64 a.1)), (4, .t (.int .i64 a.2.1)), (7, .t (.sl 1 (a.2.2.1.map (eInt .u8)))), (8, .t (.int .i64 ((a.2.2.1.length : Int)))), (9, .t (.int .i64 a.2.2.2))], [], []⟩) (fun k_impl_WeakOf_l2 a => impl_WeakOf_l2 u k_impl_WeakOf_l2 a.1 a.2.1 a.2.2.1 a.2.2.2 = some r) ?_ ?_ u (0, 0, p0, 0) h (Le.of (mo := []) (mr := []) (by kernel_rfl) (by kernel_rfl) (by kernel_rfl) (by kernel_rfl))
    · intro a h; unfold impl_WeakOf_l2 at h; cases h
    · rintro k_impl_WeakOf_l2 ⟨x4, x5, p0, x6⟩ h
      change impl_WeakOf_l2 u (k_impl_WeakOf_l2 + 1) x4 x5 p0 x6 = some r at h
      rw [impl_WeakOf_l2] at h
      refine Wp.seq ?_
      refine Wp.regionS (pOf []) (rhoOf []) (by kernel_rfl) ?_
      refine Runs.all (by kernel_rfl) ?_
      refine thenN ?_
      refine Wp.le (Le.of (s := ⟨[(2, .t (.int .i64 0)), (3, .t (.int .i64 x4)), (4, .t (.int .i64 x5)), (7, .t (.sl 1 (p0.map (eInt .u8)))), (8, .t (.int .i64 ((p0.length : Int)))), (9, .t (.int .i64 x6)), (10, .t (.bool (decide (x6 < ((p0.length : Int))))))], [], []⟩) (mo := []) (mr := []) (by kernel_rfl) (by kernel_rfl) (by kernel_rfl) (by kernel_rfl)) ?_
      refine Wp.seq ?_
      refine Wp.cond2 (b := decide (x6 < ((p0.length : Int)))) (by kernel_rfl) (fun hc => ?_) (fun hc => ?_)
      · have h := cond_t h hc
        refine Wp.skip ?_
        refine thenN ?_
        refine Wp.seq ?_
        refine Wp.block ?_
        refine Wp.seq ?_
        refine Wp.regionS (pOf []) (rhoOf []) (by kernel_rfl) ?_
        obtain ⟨y10, e_y10, h⟩ := bind_some h
        refine Runs.idxT (e := 5) (kk := .i64) (sz := 1) (eInt .u8) p0 x6 rfl (by kernel_rfl) (by kernel_rfl) (by kernel_rfl) (by kernel_rfl) (by kernel_rfl) (by kernel_rfl) e_y10 ?_
        refine Runs.all (by kernel_rfl) ?_
        refine thenN ?_
        refine Wp.le (Le.of (s := ⟨[(2, .t (.int .i64 0)), (3, .t (.int .i64 x4)), (4, .t (.int .i64 x5)), (6, .t (.int .u8 y10)), (7, .t (.sl 1 (p0.map (eInt .u8)))), (8, .t (.int .i64 ((p0.length : Int)))), (9, .t (.int .i64 x6)), (10, .t (.bool (decide (x6 < ((p0.length : Int)))))), (11, .fadr [.int .u8 y10]), (12, .t (.int .u8 y10))], [], []⟩) (mo := []) (mr := []) (by kernel_rfl) (by kernel_rfl) (by kernel_rfl) (by kernel_rfl)) ?_
        refine Wp.seq ?_
        refine Wp.regionS (pOf []) (rhoOf []) (by kernel_rfl) ?_
        refine Runs.all (by kernel_rfl) ?_
        refine thenN ?_
        refine Wp.le (Le.of (s := ⟨[(2, .t (.int .i64 0)), (3, .t (.int .i64 (bRem .i64 (bAdd .i64 x4 (IntKind.wrap .i64 y10)) 251))), (4, .t (.int .i64 x5)), (6, .t (.int .u8 y10)), (7, .t (.sl 1 (p0.map (eInt .u8)))), (8, .t (.int .i64 ((p0.length : Int)))), (9, .t (.int .i64 x6)), (10, .t (.bool (decide (x6 < ((p0.length : Int)))))), (11, .fadr [.int .u8 y10]), (12, .t (.int .u8 y10)), (13, .t (.int .i64 x4)), (14, .t (.int .u8 y10)), (15, .t (.int .i64 (IntKind.wrap .i64 y10))), (16, .t (.int .i64 (bAdd .i64 x4 (IntKind.wrap .i64 y10)))), (17, .t (.int .i64 (bRem .i64 (bAdd .i64 x4 (IntKind.wrap .i64 y10)) 251)))], [], []⟩) (mo := []) (mr := []) (by kernel_rfl) (by kernel_rfl) (by kernel_rfl) (by kernel_rfl)) ?_
        refine Wp.regionS (pOf []) (rhoOf []) (by kernel_rfl) ?_
        refine Runs.all (by kernel_rfl) ?_
        refine blkN ?_
        refine thenN ?_
        refine Wp.regionS (pOf []) (rhoOf []) (by kernel_rfl) ?_
        refine Runs.all (by kernel_rfl) ?_
        refine thenN ?_
        exact ⟨(bRem .i64 (bAdd .i64 x4 (IntKind.wrap .i64 y10)) 251, bRem .i64 (bAdd .i64 x5 (bRem .i64 (bAdd .i64 x4 (IntKind.wrap .i64 y10)) 251)) 251, p0, bAdd .i64 x6 1), h, Le.of (mo := []) (mr := []) (by kernel_rfl) (by kernel_rfl) (by kernel_rfl) (by kernel_rfl)⟩
      · have h := cond_f h hc
        refine Wp.exit ?_
        refine thenE ?_
        refine thenE ?_
        refine blkE ?_
        refine thenN ?_
        exact ⟨(x4, x5), h, Le.of (mo := []) (mr := []) (by kernel_rfl) (by kernel_rfl) (by kernel_rfl) (by kernel_rfl)⟩
theorem impl_SumOf_ok (u : Nat) (p0 : List Int) (r : Sum) (h : impl_SumOf u p0 = some r) : CallOK Try.prog 148 [.one (.t (.sl 1 (p0.map (eInt .u8))))] (.agg [.t (.int .i64 r.fW), .t (.int .i64 r.fS)]) [] := by
  unfold impl_SumOf at h
  refine CallOK.of_bodyK (fn := Try.f148) (m := false) [.t (.sl 1 (p0.map (eInt .u8)))] (by kernel_rfl) rfl (by kernel_rfl) (by kernel_rfl) (by kernel_rfl) (by kernel_rfl) (by kernel_rfl) ?_
  refine Wp.seq ?_
  refine Wp.regionS (pOf []) (rhoOf []) (by kernel_rfl) ?_
  refine Runs.all (by kernel_rfl) ?_
  refine thenN ?_
  refine Wp.le (Le.of (s := ⟨[(0, .t (.sl 1 (p0.map (eInt .u8)))), (2, .obj 2 0)], [(2, [.t (.int .i64 0), .t (.int .i64 0)])], []⟩) (mo := []) (mr := []) (by kernel_rfl) (by kernel_rfl) (by kernel_rfl) (by kernel_rfl)) ?_
  refine Wp.seq ?_
  refine Wp.seq ?_
  refine Wp.regionS (pOf []) (rhoOf []) (by kernel_rfl) ?_
  refine Runs.batch 1 (by kernel_rfl) ?_
  refine Runs.lenT (y := .t (.sl 1 (p0.map (eInt .u8)))) (e := 5) (eInt .u8) p0 1 rfl rfl rfl (by kernel_rfl) (by kernel_rfl) (by kernel_rfl) (by kernel_rfl) (by kernel_rfl) ?_
  refine Runs.all (by kernel_rfl) ?_
  refine thenN ?_
  refine Wp.le (Le.of (s := ⟨[(0, .t (.sl 1 (p0.map (eInt .u8)))), (2, .obj 2 0), (8, .t (.bool (decide (((p0.length : Int)) > 6))))], [(2, [.t (.int .i64 0), .t (.int .i64 0)])], []⟩) (mo := []) (mr := []) (by kernel_rfl) (by kernel_rfl) (by kernel_rfl) (by kernel_rfl)) ?_
  refine Wp.cond2 (b := decide (((p0.length : Int)) > 6)) (by kernel_rfl) (fun hc => ?_) (fun hc => ?_)
  · have h := cond_t h hc
    refine Wp.seq ?_
    refine Wp.regionS (pOf []) (rhoOf []) (by kernel_rfl) ?_
    refine Runs.all (by kernel_rfl) ?_
    refine thenN ?_
    refine Wp.le (Le.of (s := ⟨[(0, .t (.sl 1 (p0.map (eInt .u8)))), (2, .obj 2 0)], [(2, [.t (.int .i64 0), .t (.int .i64 0)])], []⟩) (mo := []) (mr := []) (by kernel_rfl) (by kernel_rfl) (by kernel_rfl) (by kernel_rfl)) ?_
    refine Wp.ret ?_
    refine thenR ?_
    have hr := Option.some.inj h
    subst hr
    exact RetK [.agg [.t (.int .i64 0), .t (.int .i64 0)]] (.agg [.t (.int .i64 0), .t (.int .i64 0)]) [] (by kernel_rfl) (by kernel_rfl) (.refl _) .nil
  · have h := cond_f h hc
    refine Wp.skip ?_
    refine thenN ?_
    refine Wp.seq ?_
    refine Wp.regionS (pOf []) (rhoOf []) (by kernel_rfl) ?_
    refine Runs.all (by kernel_rfl) ?_
    refine thenN ?_
    refine Wp.le (Le.of (s := ⟨[(0, .t (.sl 1 (p0.map (eInt .u8)))), (2, .obj 2 0), (3, .t (.int .i64 1))], [(2, [.t (.int .i64 0), .t (.int .i64 0)])], []⟩) (mo := []) (mr := []) (by kernel_rfl) (by kernel_rfl) (by kernel_rfl) (by kernel_rfl)) ?_
    refine Wp.seqJ (α := (List Int) × Int) (fun a => ⟨[(0, .t (.sl 1 (a.1.map (eInt .u8)))), (2, .obj 2 0), (3, .t (.int .i64 a.2))], [(2, [.t (.int .i64 0), .t (.int .i64 0)])], []⟩) (fun a => impl_SumOf_j1 u a.1 a.2 = some r) ?_ ?_
    · rintro ⟨p0, x2001⟩ h
      change impl_SumOf_j1 u p0 x2001 = some r at h
      unfold impl_SumOf_j1 at h
      refine Wp.seq ?_
      refine Wp.regionS (pOf []) (rhoOf []) (by kernel_rfl) ?_
      refine Runs.batch 1 (by kernel_rfl) ?_
      obtain ⟨r2002, e_r2002, h⟩ := bind_some h
      refine Runs.callK false 23 151 [] [.t (.sl 1 (p0.map (eInt .u8)))] [.one (.t (.sl 1 (p0.map (eInt .u8))))] (.one (.t (.int .i64 r2002))) [] rfl rfl (by kernel_rfl) (by kernel_rfl) (by kernel_rfl) (by kernel_rfl) (by kernel_rfl) (impl_WeakOf_ok u p0 r2002 e_r2002) (by kernel_rfl) ?_
      refine Runs.all (by kernel_rfl) ?_
      refine thenN ?_
      refine Wp.le (Le.of (s := ⟨[(2, .obj 2 0)], [(2, [.t (.int .i64 r2002), .t (.int .i64 x2001)])], []⟩) (mo := []) (mr := []) (by kernel_rfl) (by kernel_rfl) (by kernel_rfl) (by kernel_rfl)) ?_
      refine Wp.ret ?_
      have hr := Option.some.inj h
      subst hr
      exact RetK [.agg [.t (.int .i64 r2002), .t (.int .i64 x2001)]] (.agg [.t (.int .i64 r2002), .t (.int .i64 x2001)]) [] (by kernel_rfl) (by kernel_rfl) (.refl _) .nil
    · refine Wp.seq ?_
      refine Wp.regionS (pOf []) (rhoOf []) (by kernel_rfl) ?_
      refine Runs.batch 1 (by kernel_rfl) ?_
      refine Runs.lenT (y := .t (.sl 1 (p0.map (eInt .u8)))) (e := 5) (eInt .u8) p0 1 rfl rfl rfl (by kernel_rfl) (by kernel_rfl) (by kernel_rfl) (by kernel_rfl) (by kernel_rfl) ?_
      refine Runs.all (by kernel_rfl) ?_
      refine thenN ?_
      refine Wp.le (Le.of (s := ⟨[(0, .t (.sl 1 (p0.map (eInt .u8)))), (2, .obj 2 0), (3, .t (.int .i64 1)), (10, .t (.sl 1 (p0.map (eInt .u8)))), (11, .t (.int .i64 ((p0.length : Int)))), (12, .t (.int .i64 0))], [(2, [.t (.int .i64 0), .t (.int .i64 0)])], []⟩) (mo := []) (mr := []) (by kernel_rfl) (by kernel_rfl) (by kernel_rfl) (by kernel_rfl)) ?_
      refine Wp.block ?_
      refine Wp.loopF (α := (List Int) × Int × Int) (fun a => ⟨[(0, .t (.sl 1 (a.1.map (eInt .u8)))), (2, .obj 2 0), (3, .t (.int .i64 a.2.1)), (10, .t (.sl 1 (a.1.map (eInt .u8)))), (11, .t (.int .i64 ((a.1.length : Int)))), (12, .t (.int .i64 a.2.2))], [(2, [.t (.int .i64 0), .t (.int .i64 0)])], []⟩) (fun k_impl_SumOf_l2 a => impl_SumOf_l2 u k_impl_SumOf_l2 a.1 a.2.1 a.2.2 = some r) ?_ ?_ u (p0, 1, 0) h (Le.of (mo := []) (mr := []) (by kernel_rfl) (by kernel_rfl) (by kernel_rfl) (by kernel_rfl))
      · intro a h; unfold impl_SumOf_l2 at h; cases h
      · rintro k_impl_SumOf_l2 ⟨p0, x3, x4⟩ h
        change impl_SumOf_l2 u (k_impl_SumOf_l2 + 1) p0 x3 x4 = some r at h
        rw [impl_SumOf_l2] at h
        refine Wp.seq ?_
        refine Wp.regionS (pOf []) (rhoOf []) (by kernel_rfl) ?_
        refine Runs.all (by kernel_rfl) ?_
        refine thenN ?_
        refine Wp.le (Le.of (s := ⟨[(0, .t (.sl 1 (p0.map (eInt .u8)))), (2, .obj 2 0), (3, .t (.int .i64 x3)), (10, .t (.sl 1 (p0.map (eInt .u8)))), (11, .t (.int .i64 ((p0.length : Int)))), (12, .t (.int .i64 x4)), (13, .t (.bool (decide (x4 < ((p0.length : Int))))))], [(2, [.t (.int .i64 0), .t (.int .i64 0)])], []⟩) (mo := []) (mr := []) (by kernel_rfl) (by kernel_rfl) (by kernel_rfl) (by kernel_rfl)) ?_
        refine Wp.seq ?_
        refine Wp.cond2 (b := decide (x4 < ((p0.length : Int)))) (by kernel_rfl) (fun hc => ?_) (fun hc => ?_)
        · have h := cond_t h hc
          refine Wp.skip ?_
          refine thenN ?_
          refine Wp.seq ?_
          refine Wp.block ?_
          refine Wp.seq ?_
          refine Wp.regionS (pOf []) (rhoOf []) (by kernel_rfl) ?_
          obtain ⟨y7, e_y7, h⟩ := bind_some h
          refine Runs.idxT (e := 5) (kk := .i64) (sz := 1) (eInt .u8) p0 x4 rfl (by kernel_rfl) (by kernel_rfl) (by kernel_rfl) (by kernel_rfl) (by kernel_rfl) (by kernel_rfl) e_y7 ?_
          refine Runs.all (by kernel_rfl) ?_
          refine thenN ?_
          refine Wp.le (Le.of (s := ⟨[(0, .t (.sl 1 (p0.map (eInt .u8)))), (2, .obj 2 0), (3, .t (.int .i64 x3)), (5, .t (.int .u8 y7)), (10, .t (.sl 1 (p0.map (eInt .u8)))), (11, .t (.int .i64 ((p0.length : Int)))), (12, .t (.int .i64 x4)), (13, .t (.bool (decide (x4 < ((p0.length : Int)))))), (14, .fadr [.int .u8 y7]), (15, .t (.int .u8 y7))], [(2, [.t (.int .i64 0), .t (.int .i64 0)])], []⟩) (mo := []) (mr := []) (by kernel_rfl) (by kernel_rfl) (by kernel_rfl) (by kernel_rfl)) ?_
          refine Wp.regionS (pOf []) (rhoOf []) (by kernel_rfl) ?_
          refine Runs.all (by kernel_rfl) ?_
          refine blkN ?_
          refine thenN ?_
          refine Wp.regionS (pOf []) (rhoOf []) (by kernel_rfl) ?_
          refine Runs.all (by kernel_rfl) ?_
          refine thenN ?_
          exact ⟨(p0, bOr .i64 (bShl .i64 x3 8) (IntKind.wrap .i64 y7), bAdd .i64 x4 1), h, Le.of (mo := []) (mr := []) (by kernel_rfl) (by kernel_rfl) (by kernel_rfl) (by kernel_rfl)⟩
        · have h := cond_f h hc
          refine Wp.exit ?_
          refine thenE ?_
          refine thenE ?_
          refine blkE ?_
          refine thenN ?_
          exact ⟨(p0, x3), h, Le.of (mo := []) (mr := []) (by kernel_rfl) (by kernel_rfl) (by kernel_rfl) (by kernel_rfl)⟩
theorem impl_SumsOf_ok (u : Nat) (p0 : List Int) (p1 : Int) (r : (List Sum)) (h : impl_SumsOf u p0 p1 = some r) : CallOK Try.prog 115 [.one (.t (.sl 1 (p0.map (eInt .u8)))), .one (.t (.int .i64 p1))] (.one (.ow 130 2 (r.map Sum.enc))) [] := by
  unfold impl_SumsOf at h
  refine CallOK.of_bodyK (fn := Try.f115) (m := true) [.t (.sl 1 (p0.map (eInt .u8))), .t (.int .i64 p1)] (by kernel_rfl) rfl (by kernel_rfl) (by kernel_rfl) (by kernel_rfl) (by kernel_rfl) (by kernel_rfl) ?_
  refine Wp.seq ?_
  refine Wp.regionS (pOf []) (rhoOf []) (by kernel_rfl) ?_
  refine Runs.all (by kernel_rfl) ?_
  refine thenN ?_
  refine Wp.le (Le.of (s := ⟨[(0, .t (.sl 1 (p0.map (eInt .u8)))), (1, .t (.int .i64 p1)), (4, .nil)], [], []⟩) (mo := []) (mr := []) (by kernel_rfl) (by kernel_rfl) (by kernel_rfl) (by kernel_rfl)) ?_
  refine Wp.seq ?_
  refine Wp.regionS (pOf []) (rhoOf []) (by kernel_rfl) ?_
  refine Runs.all (by kernel_rfl) ?_
  refine thenN ?_
  refine Wp.le (Le.of (s := ⟨[(0, .t (.sl 1 (p0.map (eInt .u8)))), (1, .t (.int .i64 p1)), (4, .nil), (5, .own 589824)], [], [(589824, .live 130 2 ((([] : List Sum)).map Sum.enc))]⟩) (mo := []) (mr := []) (by kernel_rfl) (by kernel_rfl) (by kernel_rfl) (by kernel_rfl)) ?_
  refine Wp.seqJ (α := (List Sum)) (fun a => ⟨[(4, .nil), (5, .own 327681)], [], [(327681, .live 130 2 (a.map Sum.enc))]⟩) (fun a => impl_SumsOf_j1 u a = some r) ?_ ?_
  · rintro x2001 h
    change impl_SumsOf_j1 u x2001 = some r at h
    unfold impl_SumsOf_j1 at h
    refine Wp.seq ?_
    refine Wp.regionS (pOf []) (rhoOf []) (by kernel_rfl) ?_
    refine Runs.all (by kernel_rfl) ?_
    refine thenN ?_
    refine Wp.le (Le.of (s := ⟨[(4, .own 327681)], [], [(327681, .live 130 2 (x2001.map Sum.enc))]⟩) (mo := []) (mr := []) (by kernel_rfl) (by kernel_rfl) (by kernel_rfl) (by kernel_rfl)) ?_
    refine Wp.ret ?_
    have hr := Option.some.inj h
    subst hr
    exact RetK [.own 327681] (.one (.ow 130 2 (x2001.map Sum.enc))) [] (by kernel_rfl) (by kernel_rfl) (.refl _) .nil
  · refine Wp.seq ?_
    refine Wp.regionS (pOf []) (rhoOf []) (by kernel_rfl) ?_
    refine Runs.batch 2 (by kernel_rfl) ?_
    refine Runs.lenT (y := .t (.sl 1 (p0.map (eInt .u8)))) (e := 5) (eInt .u8) p0 1 rfl rfl rfl (by kernel_rfl) (by kernel_rfl) (by kernel_rfl) (by kernel_rfl) (by kernel_rfl) ?_
    obtain ⟨r1, e_r1, h⟩ := bind_some h
    refine Runs.callK false 13 146 [] [.t (.int .i64 p1), .t (.int .i64 ((p0.length : Int)))] [.one (.t (.int .i64 p1)), .one (.t (.int .i64 ((p0.length : Int))))] (.one (.t (.int .i64 r1))) [] rfl rfl (by kernel_rfl) (by kernel_rfl) (by kernel_rfl) (by kernel_rfl) (by kernel_rfl) (impl_Blocks_ok u p1 ((p0.length : Int)) r1 e_r1) (by kernel_rfl) ?_
    refine Runs.all (by kernel_rfl) ?_
    refine thenN ?_
    refine Wp.le (Le.of (s := ⟨[(0, .t (.sl 1 (p0.map (eInt .u8)))), (1, .t (.int .i64 p1)), (4, .nil), (5, .own 589824), (13, .t (.int .i64 r1)), (14, .t (.int .i64 0))], [], [(589824, .live 130 2 ((([] : List Sum)).map Sum.enc))]⟩) (mo := []) (mr := []) (by kernel_rfl) (by kernel_rfl) (by kernel_rfl) (by kernel_rfl)) ?_
    refine Wp.block ?_
    refine Wp.loopF (α := (List Int) × Int × (List Sum) × Int × Int) (fun a => ⟨[(0, .t (.sl 1 (a.1.map (eInt .u8)))), (1, .t (.int .i64 a.2.1)), (4, .nil), (5, .own 327681), (13, .t (.int .i64 a.2.2.2.1)), (14, .t (.int .i64 a.2.2.2.2))], [], [(327681, .live 130 2 (a.2.2.1.map Sum.enc))]⟩) (fun k_impl_SumsOf_l2 a => impl_SumsOf_l2 u k_impl_SumsOf_l2 a.1 a.2.1 a.2.2.1 a.2.2.2.1 a.2.2.2.2 = some r) ?_ ?_ u (p0, p1, ([] : List Sum), r1, 0) h (Le.of (mo := []) (mr := [(327681, 589824)]) (by kernel_rfl) (by kernel_rfl) (by kernel_rfl) (by kernel_rfl))
    · intro a h; unfold impl_SumsOf_l2 at h; cases h
    · rintro k_impl_SumsOf_l2 ⟨p0, p1, x4, r1, x5⟩ h
      change impl_SumsOf_l2 u (k_impl_SumsOf_l2 + 1) p0 p1 x4 r1 x5 = some r at h
      rw [impl_SumsOf_l2] at h
      refine Wp.seq ?_
      refine Wp.regionS (pOf []) (rhoOf []) (by kernel_rfl) ?_
      refine Runs.all (by kernel_rfl) ?_
      refine thenN ?_
      refine Wp.le (Le.of (s := ⟨[(0, .t (.sl 1 (p0.map (eInt .u8)))), (1, .t (.int .i64 p1)), (4, .nil), (5, .own 327681), (13, .t (.int .i64 r1)), (14, .t (.int .i64 x5)), (15, .t (.bool (decide (x5 < r1))))], [], [(327681, .live 130 2 (x4.map Sum.enc))]⟩) (mo := []) (mr := []) (by kernel_rfl) (by kernel_rfl) (by kernel_rfl) (by kernel_rfl)) ?_
      refine Wp.seq ?_
      refine Wp.cond2 (b := decide (x5 < r1)) (by kernel_rfl) (fun hc => ?_) (fun hc => ?_)
      · have h := cond_t h hc
        refine Wp.skip ?_
        refine thenN ?_
        refine Wp.seq ?_
        refine Wp.block ?_
        refine Wp.seq ?_
        refine Wp.regionS (pOf []) (rhoOf []) (by kernel_rfl) ?_
        refine Runs.all (by kernel_rfl) ?_
        refine thenN ?_
        refine Wp.le (Le.of (s := ⟨[(0, .t (.sl 1 (p0.map (eInt .u8)))), (1, .t (.int .i64 p1)), (4, .nil), (5, .own 327681), (6, .t (.int .i64 x5)), (13, .t (.int .i64 r1)), (14, .t (.int .i64 x5)), (15, .t (.bool (decide (x5 < r1)))), (16, .t (.int .i64 x5))], [], [(327681, .live 130 2 (x4.map Sum.enc))]⟩) (mo := []) (mr := []) (by kernel_rfl) (by kernel_rfl) (by kernel_rfl) (by kernel_rfl)) ?_
        refine Wp.seq ?_
        refine Wp.regionS (pOf []) (rhoOf []) (by kernel_rfl) ?_
        refine Runs.batch 3 (by kernel_rfl) ?_
        obtain ⟨r8, e_r8, h⟩ := bind_some h
        refine Runs.callK false 21 147 [] [.t (.sl 1 (p0.map (eInt .u8))), .t (.int .i64 p1), .t (.int .i64 x5)] [.one (.t (.sl 1 (p0.map (eInt .u8)))), .one (.t (.int .i64 p1)), .one (.t (.int .i64 x5))] (.tup [.one (.ow 5 1 (r8.1.map (eInt .u8))), .one (.t (.bool r8.2))]) [] rfl rfl (by kernel_rfl) (by kernel_rfl) (by kernel_rfl) (by kernel_rfl) (by kernel_rfl) (impl_BlockAt_ok u p0 p1 x5 r8 e_r8) (by kernel_rfl) ?_
        refine Runs.all (by kernel_rfl) ?_
        refine thenN ?_
        refine Wp.le (Le.of (s := ⟨[(0, .t (.sl 1 (p0.map (eInt .u8)))), (1, .t (.int .i64 p1)), (4, .nil), (5, .own 327681), (6, .t (.int .i64 x5)), (7, .own 1376256), (13, .t (.int .i64 r1)), (14, .t (.int .i64 x5)), (15, .t (.bool (decide (x5 < r1)))), (16, .t (.int .i64 x5)), (17, .tup [.own 1376256, .t (.bool r8.2)]), (18, .t (.sl 1 (p0.map (eInt .u8)))), (19, .t (.int .i64 p1)), (20, .t (.int .i64 x5)), (21, .tup [.own 1376256, .t (.bool r8.2)]), (22, .own 1376256), (23, .t (.bool r8.2))], [], [(327681, .live 130 2 (x4.map Sum.enc)), (1376256, .live 5 1 (r8.1.map (eInt .u8)))]⟩) (mo := []) (mr := []) (by kernel_rfl) (by kernel_rfl) (by kernel_rfl) (by kernel_rfl)) ?_
        refine Wp.regionS (pOf []) (rhoOf []) (by kernel_rfl) ?_
        refine Runs.batch 2 (by kernel_rfl) ?_
        obtain ⟨r9, e_r9, h⟩ := bind_some h
        refine Runs.callBK 26 148 [] [.own 1376256] [.one (.t (.sl 1 (r8.1.map (eInt .u8))))] (.agg [.t (.int .i64 r9.fW), .t (.int .i64 r9.fS)]) rfl rfl (by kernel_rfl) (by kernel_rfl) (by kernel_rfl) (by kernel_rfl) (by kernel_rfl) (impl_SumOf_ok u r8.1 r9 e_r9) (by simp [V.plain, V.plains, C.plain, T.sc]) (by kernel_rfl) ?_
        refine Runs.batch 1 (by kernel_rfl) ?_
        obtain ⟨_, e_10, h⟩ := bind_some h
        refine Runs.appT (y := .own 1769472) Sum.enc 28 2 130 2 16 327681 x4 ([r9]) rfl rfl rfl rfl (by kernel_rfl) (by kernel_rfl) (by kernel_rfl) (by kernel_rfl) (by kernel_rfl) (by kernel_rfl) (.inl rfl) (by kernel_rfl) (of_decide_eq_true (chk_some e_10)) (by kernel_rfl) (by kernel_rfl) ?_
        refine Runs.all (by kernel_rfl) ?_
        refine blkN ?_
        refine thenN ?_
        refine Wp.regionS (pOf []) (rhoOf []) (by kernel_rfl) ?_
        refine Runs.all (by kernel_rfl) ?_
        refine thenN ?_
        exact ⟨(p0, p1, x4 ++ ([r9]), r1, bAdd .i64 x5 1), h, Le.of (mo := []) (mr := [(327681, 1835008)]) (by kernel_rfl) (by kernel_rfl) (by kernel_rfl) (by kernel_rfl)⟩
      · have h := cond_f h hc
        refine Wp.exit ?_
        refine thenE ?_
        refine thenE ?_
        refine blkE ?_
        refine thenN ?_
        exact ⟨x4, h, Le.of (mo := []) (mr := []) (by kernel_rfl) (by kernel_rfl) (by kernel_rfl) (by kernel_rfl)⟩
theorem impl_ManOf_ok (u : Nat) (p0 : Int) (p1 : List Int) (p2 : Int) (r : Manifest) (h : impl_ManOf u p0 p1 p2 = some r) : CallOK Try.prog 59 [.one (.t (.int .i64 p0)), .one (.t (.sl 1 (p1.map (eInt .u8)))), .one (.t (.int .i64 p2))] (.agg [.t (.int .i64 r.fGen), .t (.int .i64 r.fSize), .t (.int .i64 r.fLen), .ow 130 2 (r.fSums.map Sum.enc)]) [] := by
  unfold impl_ManOf at h
  refine CallOK.of_bodyK (fn := Try.f59) (m := true) [.t (.int .i64 p0), .t (.sl 1 (p1.map (eInt .u8))), .t (.int .i64 p2)] (by kernel_rfl) rfl (by kernel_rfl) (by kernel_rfl) (by kernel_rfl) (by kernel_rfl) (by kernel_rfl) ?_
  refine Wp.seq ?_
  refine Wp.regionS (pOf []) (rhoOf []) (by kernel_rfl) ?_
  refine Runs.all (by kernel_rfl) ?_
  refine thenN ?_
  refine Wp.le (Le.of (s := ⟨[(0, .t (.int .i64 p0)), (1, .t (.sl 1 (p1.map (eInt .u8)))), (2, .t (.int .i64 p2)), (6, .obj 6 0)], [(6, [.t (.int .i64 0), .t (.int .i64 0), .t (.int .i64 0), .nil])], []⟩) (mo := []) (mr := []) (by kernel_rfl) (by kernel_rfl) (by kernel_rfl) (by kernel_rfl)) ?_
  refine Wp.seq ?_
  refine Wp.seqJ (α := Int × (List Int) × Int × Bool) (fun a => ⟨[(0, .t (.int .i64 a.1)), (1, .t (.sl 1 (a.2.1.map (eInt .u8)))), (2, .t (.int .i64 a.2.2.1)), (6, .obj 6 0), (16, .t (.bool a.2.2.2))], [(6, [.t (.int .i64 0), .t (.int .i64 0), .t (.int .i64 0), .nil])], []⟩) (fun a => impl_ManOf_j1 u a.1 a.2.1 a.2.2.1 a.2.2.2 = some r) ?_ ?_
  · rintro ⟨p0, p1, p2, x2001⟩ h
    change impl_ManOf_j1 u p0 p1 p2 x2001 = some r at h
    unfold impl_ManOf_j1 at h
    refine Wp.cond2 (b := x2001) (by kernel_rfl) (fun hc => ?_) (fun hc => ?_)
    · have h := cond_t h hc
      refine Wp.seq ?_
      refine Wp.regionS (pOf []) (rhoOf []) (by kernel_rfl) ?_
      refine Runs.all (by kernel_rfl) ?_
      refine thenN ?_
      refine Wp.le (Le.of (s := ⟨[(0, .t (.int .i64 p0)), (1, .t (.sl 1 (p1.map (eInt .u8)))), (2, .t (.int .i64 p2)), (6, .obj 6 0)], [(6, [.t (.int .i64 0), .t (.int .i64 0), .t (.int .i64 0), .nil])], []⟩) (mo := []) (mr := []) (by kernel_rfl) (by kernel_rfl) (by kernel_rfl) (by kernel_rfl)) ?_
      refine Wp.ret ?_
      refine thenR ?_
      have hr := Option.some.inj h
      subst hr
      exact RetK [.agg [.t (.int .i64 0), .t (.int .i64 0), .t (.int .i64 0), .nil]] (.agg [.t (.int .i64 0), .t (.int .i64 0), .t (.int .i64 0), .nil]) [] (by kernel_rfl) (by kernel_rfl) (.agg (.cons (.refl _) (.cons (.refl _) (.cons (.refl _) (.cons (.nilO _ _) .nil))))) .nil
    · have h := cond_f h hc
      refine Wp.skip ?_
      refine thenN ?_
      refine Wp.seq ?_
      refine Wp.regionS (pOf []) (rhoOf []) (by kernel_rfl) ?_
      refine Runs.batch 3 (by kernel_rfl) ?_
      refine Runs.lenT (y := .t (.sl 1 (p1.map (eInt .u8)))) (e := 5) (eInt .u8) p1 1 rfl rfl rfl (by kernel_rfl) (by kernel_rfl) (by kernel_rfl) (by kernel_rfl) (by kernel_rfl) ?_
      refine Runs.batch 2 (by kernel_rfl) ?_
      obtain ⟨r2002, e_r2002, h⟩ := bind_some h
      refine Runs.callK false 24 115 [] [.t (.sl 1 (p1.map (eInt .u8))), .t (.int .i64 p2)] [.one (.t (.sl 1 (p1.map (eInt .u8)))), .one (.t (.int .i64 p2))] (.one (.ow 130 2 (r2002.map Sum.enc))) [] rfl rfl (by kernel_rfl) (by kernel_rfl) (by kernel_rfl) (by kernel_rfl) (by kernel_rfl) (impl_SumsOf_ok u p1 p2 r2002 e_r2002) (by kernel_rfl) ?_
      refine Runs.all (by kernel_rfl) ?_
      refine thenN ?_
      refine Wp.le (Le.of (s := ⟨[(6, .obj 6 0)], [(6, [.t (.int .i64 p0), .t (.int .i64 p2), .t (.int .i64 ((p1.length : Int))), .own 1572864])], [(1572864, .live 130 2 (r2002.map Sum.enc))]⟩) (mo := []) (mr := []) (by kernel_rfl) (by kernel_rfl) (by kernel_rfl) (by kernel_rfl)) ?_
      refine Wp.ret ?_
      have hr := Option.some.inj h
      subst hr
      exact RetK [.agg [.t (.int .i64 p0), .t (.int .i64 p2), .t (.int .i64 ((p1.length : Int))), .own 1572864]] (.agg [.t (.int .i64 p0), .t (.int .i64 p2), .t (.int .i64 ((p1.length : Int))), .ow 130 2 (r2002.map Sum.enc)]) [] (by kernel_rfl) (by kernel_rfl) (.refl _) .nil
  · refine Wp.regionS (pOf []) (rhoOf []) (by kernel_rfl) ?_
    refine Runs.batch 1 (by kernel_rfl) ?_
    obtain ⟨r1, e_r1, h⟩ := bind_some h
    refine Runs.callK false 8 106 [] [.t (.int .i64 p0), .t (.int .i64 1), .t (.int .i64 1000000)] [.one (.t (.int .i64 p0)), .one (.t (.int .i64 1)), .one (.t (.int .i64 1000000))] (.one (.t (.bool r1))) [] rfl rfl (by kernel_rfl) (by kernel_rfl) (by kernel_rfl) (by kernel_rfl) (by kernel_rfl) (impl_within_ok u p0 1 1000000 r1 e_r1) (by kernel_rfl) ?_
    refine Runs.batch 2 (by kernel_rfl) ?_
    rcases tf (!r1) with hc | hc
    · have h := cond_t h hc
      refine Runs.known 10 (v := true) (by kernel_rfl) hc ?_
      refine Runs.all (by kernel_rfl) ?_
      refine thenN ?_
      exact ⟨(p0, p1, p2, true), h, Le.of (mo := []) (mr := []) (by kernel_rfl) (by kernel_rfl) (by kernel_rfl) (by kernel_rfl)⟩
    · have h := cond_f h hc
      refine Runs.known 10 (v := false) (by kernel_rfl) hc ?_
      refine Runs.batch 2 (by kernel_rfl) ?_
      refine Runs.lenT (y := .t (.sl 1 (p1.map (eInt .u8)))) (e := 5) (eInt .u8) p1 1 rfl rfl rfl (by kernel_rfl) (by kernel_rfl) (by kernel_rfl) (by kernel_rfl) (by kernel_rfl) ?_
      obtain ⟨r2, e_r2, h⟩ := bind_some h
      refine Runs.callK false 14 73 [] [.t (.int .i64 p2), .t (.int .i64 ((p1.length : Int)))] [.one (.t (.int .i64 p2)), .one (.t (.int .i64 ((p1.length : Int))))] (.one (.t (.bool r2))) [] rfl rfl (by kernel_rfl) (by kernel_rfl) (by kernel_rfl) (by kernel_rfl) (by kernel_rfl) (impl_SizeOk_ok u p2 ((p1.length : Int)) r2 e_r2) (by kernel_rfl) ?_
      refine Runs.all (by kernel_rfl) ?_
      refine thenN ?_
      exact ⟨(p0, p1, p2, !r2), h, Le.of (mo := []) (mr := []) (by kernel_rfl) (by kernel_rfl) (by kernel_rfl) (by kernel_rfl)⟩
theorem impl_FindSum_ok (u : Nat) (p0 : List Int) (p1 : Sum) (p2 : Int) (r : Int) (h : impl_FindSum u p0 p1 p2 = some r) : CallOK Try.prog 152 [.one (.t (.sl 1 (p0.map (eInt .u8)))), .agg [.t (.int .i64 p1.fW), .t (.int .i64 p1.fS)], .one (.t (.int .i64 p2))] (.one (.t (.int .i64 r))) [] := by
  unfold impl_FindSum at h
  refine CallOK.of_bodyK (fn := Try.f152) (m := false) [.t (.sl 1 (p0.map (eInt .u8))), .agg [.t (.int .i64 p1.fW), .t (.int .i64 p1.fS)], .t (.int .i64 p2)] (by kernel_rfl) rfl (by kernel_rfl) (by kernel_rfl) (by kernel_rfl) (by kernel_rfl) (by kernel_rfl) ?_
  refine Wp.seq ?_
  refine Wp.regionS (pOf []) (rhoOf []) (by kernel_rfl) ?_
  refine Runs.all (by kernel_rfl) ?_
  refine thenN ?_
  refine Wp.le (Le.of (s := ⟨[(0, .t (.sl 1 (p0.map (eInt .u8)))), (2, .t (.int .i64 p2)), (4, .obj 4 0), (6, .t (.int .i64 0))], [(4, [.t (.int .i64 p1.fW), .t (.int .i64 p1.fS)])], []⟩) (mo := []) (mr := []) (by kernel_rfl) (by kernel_rfl) (by kernel_rfl) (by kernel_rfl)) ?_
  refine Wp.seq ?_
  refine Wp.seq ?_
  refine Wp.regionS (pOf []) (rhoOf []) (by kernel_rfl) ?_
  refine Runs.batch 1 (by kernel_rfl) ?_
  obtain ⟨r1, e_r1, h⟩ := bind_some h
  refine Runs.callK false 9 106 [] [.t (.int .i64 p2), .t (.int .i64 1), .t (.int .i64 6)] [.one (.t (.int .i64 p2)), .one (.t (.int .i64 1)), .one (.t (.int .i64 6))] (.one (.t (.bool r1))) [] rfl rfl (by kernel_rfl) (by kernel_rfl) (by kernel_rfl) (by kernel_rfl) (by kernel_rfl) (impl_within_ok u p2 1 6 r1 e_r1) (by kernel_rfl) ?_
  refine Runs.all (by kernel_rfl) ?_
  refine thenN ?_
  refine Wp.le (Le.of (s := ⟨[(0, .t (.sl 1 (p0.map (eInt .u8)))), (2, .t (.int .i64 p2)), (4, .obj 4 0), (6, .t (.int .i64 0)), (10, .t (.bool (!r1)))], [(4, [.t (.int .i64 p1.fW), .t (.int .i64 p1.fS)])], []⟩) (mo := []) (mr := []) (by kernel_rfl) (by kernel_rfl) (by kernel_rfl) (by kernel_rfl)) ?_
  refine Wp.cond2 (b := !r1) (by kernel_rfl) (fun hc => ?_) (fun hc => ?_)
  · have h := cond_t h hc
    refine Wp.seq ?_
    refine Wp.regionS (pOf []) (rhoOf []) (by kernel_rfl) ?_
    refine Runs.all (by kernel_rfl) ?_
    refine thenN ?_
    refine Wp.le (Le.of (s := ⟨[(0, .t (.sl 1 (p0.map (eInt .u8)))), (2, .t (.int .i64 p2)), (4, .obj 4 0), (6, .t (.int .i64 (-1)))], [(4, [.t (.int .i64 p1.fW), .t (.int .i64 p1.fS)])], []⟩) (mo := []) (mr := []) (by kernel_rfl) (by kernel_rfl) (by kernel_rfl) (by kernel_rfl)) ?_
    refine Wp.ret ?_
    refine thenR ?_
    have hr := Option.some.inj h
    subst hr
    exact RetK [.t (.int .i64 (-1))] (.one (.t (.int .i64 (-1)))) [] (by kernel_rfl) (by kernel_rfl) (.refl _) .nil
  · have h := cond_f h hc
    refine Wp.skip ?_
    refine thenN ?_
    refine Wp.seqJ (α := Unit) (fun a => ⟨[(6, .t (.int .i64 0))], [], []⟩) (fun a => impl_FindSum_j1 u = some r) ?_ ?_
    · rintro ⟨⟩ h
      change impl_FindSum_j1 u = some r at h
      unfold impl_FindSum_j1 at h
      refine Wp.seq ?_
      refine Wp.regionS (pOf []) (rhoOf []) (by kernel_rfl) ?_
      refine Runs.all (by kernel_rfl) ?_
      refine thenN ?_
      refine Wp.le (Le.of (s := ⟨[(6, .t (.int .i64 (-1)))], [], []⟩) (mo := []) (mr := []) (by kernel_rfl) (by kernel_rfl) (by kernel_rfl) (by kernel_rfl)) ?_
      refine Wp.ret ?_
      have hr := Option.some.inj h
      subst hr
      exact RetK [.t (.int .i64 (-1))] (.one (.t (.int .i64 (-1)))) [] (by kernel_rfl) (by kernel_rfl) (.refl _) .nil
    · refine Wp.seq ?_
      refine Wp.regionS (pOf []) (rhoOf []) (by kernel_rfl) ?_
      refine Runs.all (by kernel_rfl) ?_
      refine thenN ?_
      refine Wp.le (Le.of (s := ⟨[(0, .t (.sl 1 (p0.map (eInt .u8)))), (2, .t (.int .i64 p2)), (4, .obj 4 0), (6, .t (.int .i64 0)), (7, .t (.int .i64 0))], [(4, [.t (.int .i64 p1.fW), .t (.int .i64 p1.fS)])], []⟩) (mo := []) (mr := []) (by kernel_rfl) (by kernel_rfl) (by kernel_rfl) (by kernel_rfl)) ?_
      refine Wp.block ?_
      refine Wp.loopF (α := (List Int) × Int × Int × Sum) (fun a => ⟨[(0, .t (.sl 1 (a.1.map (eInt .u8)))), (2, .t (.int .i64 a.2.1)), (4, .obj 4 0), (6, .t (.int .i64 0)), (7, .t (.int .i64 a.2.2.1))], [(4, [.t (.int .i64 a.2.2.2.fW), .t (.int .i64 a.2.2.2.fS)])], []⟩) (fun k_impl_FindSum_l2 a => impl_FindSum_l2 u k_impl_FindSum_l2 a.1 a.2.1 a.2.2.1 a.2.2.2 = some r) ?_ ?_ u (p0, p2, 0, p1) h (Le.of (mo := []) (mr := []) (by kernel_rfl) (by kernel_rfl) (by kernel_rfl) (by kernel_rfl))
      · intro a h; unfold impl_FindSum_l2 at h; cases h
      · rintro k_impl_FindSum_l2 ⟨p0, p2, x3, p1⟩ h
        change impl_FindSum_l2 u (k_impl_FindSum_l2 + 1) p0 p2 x3 p1 = some r at h
        rw [impl_FindSum_l2] at h
        refine Wp.seq ?_
        refine Wp.seq ?_
        refine Wp.regionS (pOf []) (rhoOf []) (by kernel_rfl) ?_
        refine Runs.batch 4 (by kernel_rfl) ?_
        refine Runs.lenT (y := .t (.sl 1 (p0.map (eInt .u8)))) (e := 5) (eInt .u8) p0 1 rfl rfl rfl (by kernel_rfl) (by kernel_rfl) (by kernel_rfl) (by kernel_rfl) (by kernel_rfl) ?_
        refine Runs.all (by kernel_rfl) ?_
        refine thenN ?_
        refine Wp.le (Le.of (s := ⟨[(0, .t (.sl 1 (p0.map (eInt .u8)))), (2, .t (.int .i64 p2)), (4, .obj 4 0), (6, .t (.int .i64 0)), (7, .t (.int .i64 x3)), (11, .t (.int .i64 x3)), (12, .t (.int .i64 p2)), (13, .t (.int .i64 (bAdd .i64 x3 p2))), (14, .t (.sl 1 (p0.map (eInt .u8)))), (15, .t (.int .i64 ((p0.length : Int)))), (16, .t (.bool (decide ((bAdd .i64 x3 p2) ≤ ((p0.length : Int))))))], [(4, [.t (.int .i64 p1.fW), .t (.int .i64 p1.fS)])], []⟩) (mo := []) (mr := []) (by kernel_rfl) (by kernel_rfl) (by kernel_rfl) (by kernel_rfl)) ?_
        refine Wp.cond2 (b := decide ((bAdd .i64 x3 p2) ≤ ((p0.length : Int)))) (by kernel_rfl) (fun hc => ?_) (fun hc => ?_)
        · have h := cond_t h hc
          refine Wp.skip ?_
          refine thenN ?_
          refine Wp.seq ?_
          refine Wp.block ?_
          refine Wp.seq ?_
          refine Wp.regionA (pOf []) (rhoOf [(0, .frz), (2, .frz), (4, .obj 4), (7, .frz), (19, .frz), (20, .frz), (21, .frz), (22, .frz), (23, .frz), (24, .frz), (25, .frz), (26, .frz)]) (by kernel_rfl) (by kernel_rfl) ?_
          refine Runs.batch 5 (by kernel_rfl) ?_
          obtain ⟨_, e_5, h⟩ := bind_some h
          refine Runs.subsl (e := 5) (ax := .t (.sl 1 (p0.map (eInt .u8)))) (alo := (some (.t (.int .i64 x3)))) (ahi := (some (.t (.int .i64 (bAdd .i64 x3 p2))))) (eInt .u8) p0 1 x3 (bAdd .i64 x3 p2) rfl (by kernel_rfl) (by kernel_rfl) (by kernel_rfl) (by kernel_rfl) (by kernel_rfl) (by kernel_rfl) (by kernel_rfl) (by kernel_rfl) (by kernel_rfl) (by kernel_rfl) (chk_some e_5) ?_
          obtain ⟨r6, e_r6, h⟩ := bind_some h
          refine Runs.callK false 25 148 [] [.t (.sl 1 (((p0.take (Int.toNat (bAdd .i64 x3 p2))).drop (Int.toNat x3)).map (eInt .u8)))] [.one (.t (.sl 1 (((p0.take (Int.toNat (bAdd .i64 x3 p2))).drop (Int.toNat x3)).map (eInt .u8))))] (.agg [.t (.int .i64 r6.fW), .t (.int .i64 r6.fS)]) [] rfl rfl (by kernel_rfl) (by kernel_rfl) (by kernel_rfl) (by kernel_rfl) (by kernel_rfl) (impl_SumOf_ok u ((p0.take (Int.toNat (bAdd .i64 x3 p2))).drop (Int.toNat x3)) r6 e_r6) (by kernel_rfl) ?_
          refine Runs.all (by kernel_rfl) ?_
          refine thenN ?_
          refine Wp.le (Le.of (s := ⟨[(0, .t (.sl 1 (p0.map (eInt .u8)))), (2, .t (.int .i64 p2)), (4, .obj 4 0), (6, .t (.int .i64 0)), (7, .t (.int .i64 x3)), (11, .t (.int .i64 x3)), (12, .t (.int .i64 p2)), (13, .t (.int .i64 (bAdd .i64 x3 p2))), (14, .t (.sl 1 (p0.map (eInt .u8)))), (15, .t (.int .i64 ((p0.length : Int)))), (16, .t (.bool (decide ((bAdd .i64 x3 p2) ≤ ((p0.length : Int)))))), (19, .t (.sl 1 (p0.map (eInt .u8)))), (20, .t (.int .i64 x3)), (21, .t (.int .i64 x3)), (22, .t (.int .i64 p2)), (23, .t (.int .i64 (bAdd .i64 x3 p2))), (24, .t (.sl 1 (((p0.take (Int.toNat (bAdd .i64 x3 p2))).drop (Int.toNat x3)).map (eInt .u8)))), (25, .agg [.t (.int .i64 r6.fW), .t (.int .i64 r6.fS)]), (26, .agg [.t (.int .i64 p1.fW), .t (.int .i64 p1.fS)]), (27, .t (.bool ([r6.fW, r6.fS] == [p1.fW, p1.fS])))], [(4, [.t (.int .i64 p1.fW), .t (.int .i64 p1.fS)])], []⟩) (mo := []) (mr := []) (by kernel_rfl) (by kernel_rfl) (by kernel_rfl) (by kernel_rfl)) ?_
          refine Wp.cond2 (b := [r6.fW, r6.fS] == [p1.fW, p1.fS]) (by kernel_rfl) (fun hc => ?_) (fun hc => ?_)
          · have h := cond_t h hc
            refine Wp.seq ?_
            refine Wp.regionS (pOf []) (rhoOf []) (by kernel_rfl) ?_
            refine Runs.all (by kernel_rfl) ?_
            refine thenN ?_
            refine Wp.le (Le.of (s := ⟨[(0, .t (.sl 1 (p0.map (eInt .u8)))), (2, .t (.int .i64 p2)), (4, .obj 4 0), (6, .t (.int .i64 x3)), (7, .t (.int .i64 x3)), (11, .t (.int .i64 x3)), (12, .t (.int .i64 p2)), (13, .t (.int .i64 (bAdd .i64 x3 p2))), (14, .t (.sl 1 (p0.map (eInt .u8)))), (15, .t (.int .i64 ((p0.length : Int)))), (16, .t (.bool (decide ((bAdd .i64 x3 p2) ≤ ((p0.length : Int)))))), (19, .t (.sl 1 (p0.map (eInt .u8)))), (20, .t (.int .i64 x3)), (21, .t (.int .i64 x3)), (22, .t (.int .i64 p2)), (23, .t (.int .i64 (bAdd .i64 x3 p2))), (24, .t (.sl 1 (((p0.take (Int.toNat (bAdd .i64 x3 p2))).drop (Int.toNat x3)).map (eInt .u8)))), (25, .agg [.t (.int .i64 r6.fW), .t (.int .i64 r6.fS)]), (26, .agg [.t (.int .i64 p1.fW), .t (.int .i64 p1.fS)]), (27, .t (.bool ([r6.fW, r6.fS] == [p1.fW, p1.fS]))), (28, .t (.int .i64 x3))], [(4, [.t (.int .i64 p1.fW), .t (.int .i64 p1.fS)])], []⟩) (mo := []) (mr := []) (by kernel_rfl) (by kernel_rfl) (by kernel_rfl) (by kernel_rfl)) ?_
            refine Wp.ret ?_
            refine blkR ?_
            refine thenR ?_
            refine thenR ?_
            refine blkR ?_
            refine thenR ?_
            have hr := Option.some.inj h
            subst hr
            exact RetK [.t (.int .i64 x3)] (.one (.t (.int .i64 x3))) [] (by kernel_rfl) (by kernel_rfl) (.refl _) .nil
          · have h := cond_f h hc
            refine Wp.skip ?_
            refine blkN ?_
            refine thenN ?_
            refine Wp.regionS (pOf []) (rhoOf []) (by kernel_rfl) ?_
            refine Runs.all (by kernel_rfl) ?_
            refine thenN ?_
            exact ⟨(p0, p2, bAdd .i64 x3 1, p1), h, Le.of (mo := []) (mr := []) (by kernel_rfl) (by kernel_rfl) (by kernel_rfl) (by kernel_rfl)⟩
        · have h := cond_f h hc
          refine Wp.exit ?_
          refine thenE ?_
          refine thenE ?_
          refine blkE ?_
          refine thenN ?_
          exact ⟨(), h, Le.of (mo := []) (mr := []) (by kernel_rfl) (by kernel_rfl) (by kernel_rfl) (by kernel_rfl)⟩
theorem impl_PlaceOf_ok (u : Nat) (p0 : List Int) (p1 : Manifest) (p2 : Int) (r : Int) (h : impl_PlaceOf u p0 p1 p2 = some r) : CallOK Try.prog 119 [.one (.t (.sl 1 (p0.map (eInt .u8)))), .agg [.t (.int .i64 p1.fGen), .t (.int .i64 p1.fSize), .t (.int .i64 p1.fLen), .t (.sl 2 (p1.fSums.map Sum.enc))], .one (.t (.int .i64 p2))] (.one (.t (.int .i64 r))) [] := by
  unfold impl_PlaceOf at h
  refine CallOK.of_bodyK (fn := Try.f119) (m := false) [.t (.sl 1 (p0.map (eInt .u8))), .agg [.t (.int .i64 p1.fGen), .t (.int .i64 p1.fSize), .t (.int .i64 p1.fLen), .t (.sl 2 (p1.fSums.map Sum.enc))], .t (.int .i64 p2)] (by kernel_rfl) rfl (by kernel_rfl) (by kernel_rfl) (by kernel_rfl) (by kernel_rfl) (by kernel_rfl) ?_
  refine Wp.seq ?_
  refine Wp.regionS (pOf []) (rhoOf []) (by kernel_rfl) ?_
  refine Runs.all (by kernel_rfl) ?_
  refine thenN ?_
  refine Wp.le (Le.of (s := ⟨[(0, .t (.sl 1 (p0.map (eInt .u8)))), (2, .t (.int .i64 p2)), (4, .obj 4 0), (6, .t (.int .i64 0))], [(4, [.t (.int .i64 p1.fGen), .t (.int .i64 p1.fSize), .t (.int .i64 p1.fLen), .t (.sl 2 (p1.fSums.map Sum.enc))])], []⟩) (mo := []) (mr := []) (by kernel_rfl) (by kernel_rfl) (by kernel_rfl) (by kernel_rfl)) ?_
  refine Wp.seq ?_
  refine Wp.regionS (pOf []) (rhoOf []) (by kernel_rfl) ?_
  refine Runs.batch 5 (by kernel_rfl) ?_
  obtain ⟨r1, e_r1, h⟩ := bind_some h
  refine Runs.callK false 15 118 [] [.t (.int .i64 p1.fSize), .t (.int .i64 p1.fLen), .t (.int .i64 p2)] [.one (.t (.int .i64 p1.fSize)), .one (.t (.int .i64 p1.fLen)), .one (.t (.int .i64 p2))] (.tup [.one (.t (.int .i64 r1.1)), .one (.t (.int .i64 r1.2))]) [] rfl rfl (by kernel_rfl) (by kernel_rfl) (by kernel_rfl) (by kernel_rfl) (by kernel_rfl) (impl_SpanOf_ok u p1.fSize p1.fLen p2 r1 e_r1) (by kernel_rfl) ?_
  refine Runs.all (by kernel_rfl) ?_
  refine thenN ?_
  refine Wp.le (Le.of (s := ⟨[(0, .t (.sl 1 (p0.map (eInt .u8)))), (2, .t (.int .i64 p2)), (4, .obj 4 0), (6, .t (.int .i64 0)), (8, .t (.int .i64 r1.2))], [(4, [.t (.int .i64 p1.fGen), .t (.int .i64 p1.fSize), .t (.int .i64 p1.fLen), .t (.sl 2 (p1.fSums.map Sum.enc))])], []⟩) (mo := []) (mr := []) (by kernel_rfl) (by kernel_rfl) (by kernel_rfl) (by kernel_rfl)) ?_
  refine Wp.seq ?_
  refine Wp.seq ?_
  refine Wp.regionS (pOf []) (rhoOf []) (by kernel_rfl) ?_
  refine Runs.batch 3 (by kernel_rfl) ?_
  refine Runs.lenT (y := .t (.sl 2 (p1.fSums.map Sum.enc))) (e := 130) Sum.enc p1.fSums 2 rfl rfl rfl (by kernel_rfl) (by kernel_rfl) (by kernel_rfl) (by kernel_rfl) (by kernel_rfl) ?_
  refine Runs.batch 1 (by kernel_rfl) ?_
  obtain ⟨r2, e_r2, h⟩ := bind_some h
  refine Runs.callK false 23 106 [] [.t (.int .i64 p2), .t (.int .i64 0), .t (.int .i64 (bSub .i64 ((p1.fSums.length : Int)) 1))] [.one (.t (.int .i64 p2)), .one (.t (.int .i64 0)), .one (.t (.int .i64 (bSub .i64 ((p1.fSums.length : Int)) 1)))] (.one (.t (.bool r2))) [] rfl rfl (by kernel_rfl) (by kernel_rfl) (by kernel_rfl) (by kernel_rfl) (by kernel_rfl) (impl_within_ok u p2 0 (bSub .i64 ((p1.fSums.length : Int)) 1) r2 e_r2) (by kernel_rfl) ?_
  refine Runs.all (by kernel_rfl) ?_
  refine thenN ?_
  refine Wp.le (Le.of (s := ⟨[(0, .t (.sl 1 (p0.map (eInt .u8)))), (2, .t (.int .i64 p2)), (4, .obj 4 0), (6, .t (.int .i64 0)), (8, .t (.int .i64 r1.2)), (24, .t (.bool (!r2)))], [(4, [.t (.int .i64 p1.fGen), .t (.int .i64 p1.fSize), .t (.int .i64 p1.fLen), .t (.sl 2 (p1.fSums.map Sum.enc))])], []⟩) (mo := []) (mr := []) (by kernel_rfl) (by kernel_rfl) (by kernel_rfl) (by kernel_rfl)) ?_
  refine Wp.cond2 (b := !r2) (by kernel_rfl) (fun hc => ?_) (fun hc => ?_)
  · have h := cond_t h hc
    refine Wp.seq ?_
    refine Wp.regionS (pOf []) (rhoOf []) (by kernel_rfl) ?_
    refine Runs.all (by kernel_rfl) ?_
    refine thenN ?_
    refine Wp.le (Le.of (s := ⟨[(0, .t (.sl 1 (p0.map (eInt .u8)))), (2, .t (.int .i64 p2)), (4, .obj 4 0), (6, .t (.int .i64 (-1))), (8, .t (.int .i64 r1.2))], [(4, [.t (.int .i64 p1.fGen), .t (.int .i64 p1.fSize), .t (.int .i64 p1.fLen), .t (.sl 2 (p1.fSums.map Sum.enc))])], []⟩) (mo := []) (mr := []) (by kernel_rfl) (by kernel_rfl) (by kernel_rfl) (by kernel_rfl)) ?_
    refine Wp.ret ?_
    refine thenR ?_
    have hr := Option.some.inj h
    subst hr
    exact RetK [.t (.int .i64 (-1))] (.one (.t (.int .i64 (-1)))) [] (by kernel_rfl) (by kernel_rfl) (.refl _) .nil
  · have h := cond_f h hc
    refine Wp.skip ?_
    refine thenN ?_
    refine Wp.seq ?_
    refine Wp.regionS (pOf []) (rhoOf []) (by kernel_rfl) ?_
    refine Runs.batch 4 (by kernel_rfl) ?_
    obtain ⟨y3, e_y3, h⟩ := bind_some h
    refine Runs.idxT (e := 130) (kk := .i64) (sz := 2) Sum.enc p1.fSums p2 rfl (by kernel_rfl) (by kernel_rfl) (by kernel_rfl) (by kernel_rfl) (by kernel_rfl) (by kernel_rfl) e_y3 ?_
    refine Runs.batch 2 (by kernel_rfl) ?_
    obtain ⟨r4, e_r4, h⟩ := bind_some h
    refine Runs.callK false 32 152 [] [.t (.sl 1 (p0.map (eInt .u8))), .agg [.t (.int .i64 y3.fW), .t (.int .i64 y3.fS)], .t (.int .i64 r1.2)] [.one (.t (.sl 1 (p0.map (eInt .u8)))), .agg [.t (.int .i64 y3.fW), .t (.int .i64 y3.fS)], .one (.t (.int .i64 r1.2))] (.one (.t (.int .i64 r4))) [] rfl rfl (by kernel_rfl) (by kernel_rfl) (by kernel_rfl) (by kernel_rfl) (by kernel_rfl) (impl_FindSum_ok u p0 y3 r1.2 r4 e_r4) (by kernel_rfl) ?_
    refine Runs.all (by kernel_rfl) ?_
    refine thenN ?_
    refine Wp.le (Le.of (s := ⟨[(6, .t (.int .i64 r4))], [], []⟩) (mo := []) (mr := []) (by kernel_rfl) (by kernel_rfl) (by kernel_rfl) (by kernel_rfl)) ?_
    refine Wp.ret ?_
    have hr := Option.some.inj h
    subst hr
    exact RetK [.t (.int .i64 r4)] (.one (.t (.int .i64 r4))) [] (by kernel_rfl) (by kernel_rfl) (.refl _) .nil
theorem impl_placed_ok (u : Nat) (p0 : List Int) (p1 : Manifest) (p2 : Bool) (r : Int) (h : impl_placed u p0 p1 p2 = some r) : CallOK Try.prog 164 [.one (.t (.sl 1 (p0.map (eInt .u8)))), .agg [.t (.int .i64 p1.fGen), .t (.int .i64 p1.fSize), .t (.int .i64 p1.fLen), .t (.sl 2 (p1.fSums.map Sum.enc))], .one (.t (.bool p2))] (.one (.t (.int .i64 r))) [] := by
  unfold impl_placed at h
  refine CallOK.of_bodyK (fn := Try.f164) (m := false) [.t (.sl 1 (p0.map (eInt .u8))), .agg [.t (.int .i64 p1.fGen), .t (.int .i64 p1.fSize), .t (.int .i64 p1.fLen), .t (.sl 2 (p1.fSums.map Sum.enc))], .t (.bool p2)] (by kernel_rfl) rfl (by kernel_rfl) (by kernel_rfl) (by kernel_rfl) (by kernel_rfl) (by kernel_rfl) ?_
  refine Wp.seq ?_
  refine Wp.regionS (pOf []) (rhoOf []) (by kernel_rfl) ?_
  refine Runs.all (by kernel_rfl) ?_
  refine thenN ?_
  refine Wp.le (Le.of (s := ⟨[(0, .t (.sl 1 (p0.map (eInt .u8)))), (2, .t (.bool p2)), (4, .obj 4 0), (6, .t (.int .i64 0))], [(4, [.t (.int .i64 p1.fGen), .t (.int .i64 p1.fSize), .t (.int .i64 p1.fLen), .t (.sl 2 (p1.fSums.map Sum.enc))])], []⟩) (mo := []) (mr := []) (by kernel_rfl) (by kernel_rfl) (by kernel_rfl) (by kernel_rfl)) ?_
  refine Wp.seq ?_
  refine Wp.regionS (pOf []) (rhoOf []) (by kernel_rfl) ?_
  refine Runs.all (by kernel_rfl) ?_
  refine thenN ?_
  refine Wp.le (Le.of (s := ⟨[(0, .t (.sl 1 (p0.map (eInt .u8)))), (2, .t (.bool p2)), (4, .obj 4 0), (6, .t (.int .i64 0)), (7, .t (.int .i64 0))], [(4, [.t (.int .i64 p1.fGen), .t (.int .i64 p1.fSize), .t (.int .i64 p1.fLen), .t (.sl 2 (p1.fSums.map Sum.enc))])], []⟩) (mo := []) (mr := []) (by kernel_rfl) (by kernel_rfl) (by kernel_rfl) (by kernel_rfl)) ?_
  refine Wp.seqJ (α := Int) (fun a => ⟨[(6, .t (.int .i64 0)), (7, .t (.int .i64 a))], [], []⟩) (fun a => impl_placed_j1 u a = some r) ?_ ?_
  · rintro x2001 h
    change impl_placed_j1 u x2001 = some r at h
    unfold impl_placed_j1 at h
    refine Wp.seq ?_
    refine Wp.regionS (pOf []) (rhoOf []) (by kernel_rfl) ?_
    refine Runs.all (by kernel_rfl) ?_
    refine thenN ?_
    refine Wp.le (Le.of (s := ⟨[(6, .t (.int .i64 x2001))], [], []⟩) (mo := []) (mr := []) (by kernel_rfl) (by kernel_rfl) (by kernel_rfl) (by kernel_rfl)) ?_
    refine Wp.ret ?_
    have hr := Option.some.inj h
    subst hr
    exact RetK [.t (.int .i64 x2001)] (.one (.t (.int .i64 x2001))) [] (by kernel_rfl) (by kernel_rfl) (.refl _) .nil
  · refine Wp.seq ?_
    refine Wp.regionS (pOf []) (rhoOf []) (by kernel_rfl) ?_
    refine Runs.batch 2 (by kernel_rfl) ?_
    refine Runs.lenT (y := .t (.sl 2 (p1.fSums.map Sum.enc))) (e := 130) Sum.enc p1.fSums 2 rfl rfl rfl (by kernel_rfl) (by kernel_rfl) (by kernel_rfl) (by kernel_rfl) (by kernel_rfl) ?_
    refine Runs.all (by kernel_rfl) ?_
    refine thenN ?_
    refine Wp.le (Le.of (s := ⟨[(0, .t (.sl 1 (p0.map (eInt .u8)))), (2, .t (.bool p2)), (4, .obj 4 0), (6, .t (.int .i64 0)), (7, .t (.int .i64 0)), (12, .t (.int .i64 (if ((p1.fSums.length : Int)) < 40 then ((p1.fSums.length : Int)) else 40))), (13, .t (.int .i64 0))], [(4, [.t (.int .i64 p1.fGen), .t (.int .i64 p1.fSize), .t (.int .i64 p1.fLen), .t (.sl 2 (p1.fSums.map Sum.enc))])], []⟩) (mo := []) (mr := []) (by kernel_rfl) (by kernel_rfl) (by kernel_rfl) (by kernel_rfl)) ?_
    refine Wp.block ?_
    refine Wp.loopF (α := (List Int) × Bool × Int × Manifest × Int) (fun a => ⟨[(0, .t (.sl 1 (a.1.map (eInt .u8)))), (2, .t (.bool a.2.1)), (4, .obj 4 0), (6, .t (.int .i64 0)), (7, .t (.int .i64 a.2.2.1)), (12, .t (.int .i64 (if ((a.2.2.2.1.fSums.length : Int)) < 40 then ((a.2.2.2.1.fSums.length : Int)) else 40))), (13, .t (.int .i64 a.2.2.2.2))], [(4, [.t (.int .i64 a.2.2.2.1.fGen), .t (.int .i64 a.2.2.2.1.fSize), .t (.int .i64 a.2.2.2.1.fLen), .t (.sl 2 (a.2.2.2.1.fSums.map Sum.enc))])], []⟩) (fun k_impl_placed_l2 a => impl_placed_l2 u k_impl_placed_l2 a.1 a.2.1 a.2.2.1 a.2.2.2.1 a.2.2.2.2 = some r) ?_ ?_ u (p0, p2, 0, p1, 0) h (Le.of (mo := []) (mr := []) (by kernel_rfl) (by kernel_rfl) (by kernel_rfl) (by kernel_rfl))
    · intro a h; unfold impl_placed_l2 at h; cases h
    · rintro k_impl_placed_l2 ⟨p0, p2, x3, p1, x4⟩ h
      change impl_placed_l2 u (k_impl_placed_l2 + 1) p0 p2 x3 p1 x4 = some r at h
      rw [impl_placed_l2] at h
      refine Wp.seq ?_
      refine Wp.regionS (pOf []) (rhoOf []) (by kernel_rfl) ?_
      refine Runs.all (by kernel_rfl) ?_
      refine thenN ?_
      refine Wp.le (Le.of (s := ⟨[(0, .t (.sl 1 (p0.map (eInt .u8)))), (2, .t (.bool p2)), (4, .obj 4 0), (6, .t (.int .i64 0)), (7, .t (.int .i64 x3)), (12, .t (.int .i64 (if ((p1.fSums.length : Int)) < 40 then ((p1.fSums.length : Int)) else 40))), (13, .t (.int .i64 x4)), (14, .t (.bool (decide (x4 < (if ((p1.fSums.length : Int)) < 40 then ((p1.fSums.length : Int)) else 40)))))], [(4, [.t (.int .i64 p1.fGen), .t (.int .i64 p1.fSize), .t (.int .i64 p1.fLen), .t (.sl 2 (p1.fSums.map Sum.enc))])], []⟩) (mo := []) (mr := []) (by kernel_rfl) (by kernel_rfl) (by kernel_rfl) (by kernel_rfl)) ?_
      refine Wp.seq ?_
      refine Wp.cond2 (b := decide (x4 < (if ((p1.fSums.length : Int)) < 40 then ((p1.fSums.length : Int)) else 40))) (by kernel_rfl) (fun hc => ?_) (fun hc => ?_)
      · have h := cond_t h hc
        refine Wp.skip ?_
        refine thenN ?_
        refine Wp.seqJ (α := (List Int) × Bool × Int × Int × Manifest × Int) (fun a => ⟨[(0, .t (.sl 1 (a.1.map (eInt .u8)))), (2, .t (.bool a.2.1)), (4, .obj 4 0), (6, .t (.int .i64 0)), (7, .t (.int .i64 a.2.2.1)), (8, .t (.int .i64 a.2.2.2.1)), (12, .t (.int .i64 (if ((a.2.2.2.2.1.fSums.length : Int)) < 40 then ((a.2.2.2.2.1.fSums.length : Int)) else 40))), (13, .t (.int .i64 a.2.2.2.1)), (14, .t (.bool (decide (a.2.2.2.1 < (if ((a.2.2.2.2.1.fSums.length : Int)) < 40 then ((a.2.2.2.2.1.fSums.length : Int)) else 40))))), (15, .t (.int .i64 a.2.2.2.1)), (16, .t (.sl 1 (a.1.map (eInt .u8)))), (17, .agg [.t (.int .i64 a.2.2.2.2.1.fGen), .t (.int .i64 a.2.2.2.2.1.fSize), .t (.int .i64 a.2.2.2.2.1.fLen), .t (.sl 2 (a.2.2.2.2.1.fSums.map Sum.enc))]), (18, .t (.int .i64 a.2.2.2.1)), (19, .t (.int .i64 a.2.2.2.2.2)), (20, .t (.bool (decide (a.2.2.2.2.2 ≥ 0)))), (21, .t (.bool a.2.1)), (22, .t (.bool ((decide (a.2.2.2.2.2 ≥ 0)) == a.2.1)))], [(4, [.t (.int .i64 a.2.2.2.2.1.fGen), .t (.int .i64 a.2.2.2.2.1.fSize), .t (.int .i64 a.2.2.2.2.1.fLen), .t (.sl 2 (a.2.2.2.2.1.fSums.map Sum.enc))])], []⟩) (fun a => impl_placed_j3 u (fun z0 z1 z2 z3 z4 => impl_placed_l2 u k_impl_placed_l2 z0 z1 z2 z3 z4) a.1 a.2.1 a.2.2.1 a.2.2.2.1 a.2.2.2.2.1 a.2.2.2.2.2 = some r) ?_ ?_
        · rintro ⟨p0, p2, x2007, x4, p1, r7⟩ h
          change impl_placed_j3 u (fun z0 z1 z2 z3 z4 => impl_placed_l2 u k_impl_placed_l2 z0 z1 z2 z3 z4) p0 p2 x2007 x4 p1 r7 = some r at h
          unfold impl_placed_j3 at h
          refine Wp.regionS (pOf []) (rhoOf []) (by kernel_rfl) ?_
          refine Runs.all (by kernel_rfl) ?_
          refine thenN ?_
          exact ⟨(p0, p2, x2007, p1, bAdd .i64 x4 1), h, Le.of (mo := []) (mr := []) (by kernel_rfl) (by kernel_rfl) (by kernel_rfl) (by kernel_rfl)⟩
        · refine Wp.block ?_
          refine Wp.seq ?_
          refine Wp.regionS (pOf []) (rhoOf []) (by kernel_rfl) ?_
          refine Runs.all (by kernel_rfl) ?_
          refine thenN ?_
          refine Wp.le (Le.of (s := ⟨[(0, .t (.sl 1 (p0.map (eInt .u8)))), (2, .t (.bool p2)), (4, .obj 4 0), (6, .t (.int .i64 0)), (7, .t (.int .i64 x3)), (8, .t (.int .i64 x4)), (12, .t (.int .i64 (if ((p1.fSums.length : Int)) < 40 then ((p1.fSums.length : Int)) else 40))), (13, .t (.int .i64 x4)), (14, .t (.bool (decide (x4 < (if ((p1.fSums.length : Int)) < 40 then ((p1.fSums.length : Int)) else 40))))), (15, .t (.int .i64 x4))], [(4, [.t (.int .i64 p1.fGen), .t (.int .i64 p1.fSize), .t (.int .i64 p1.fLen), .t (.sl 2 (p1.fSums.map Sum.enc))])], []⟩) (mo := []) (mr := []) (by kernel_rfl) (by kernel_rfl) (by kernel_rfl) (by kernel_rfl)) ?_
          refine Wp.seq ?_
          refine Wp.regionS (pOf []) (rhoOf []) (by kernel_rfl) ?_
          refine Runs.batch 3 (by kernel_rfl) ?_
          obtain ⟨r7, e_r7, h⟩ := bind_some h
          refine Runs.callK false 19 119 [] [.t (.sl 1 (p0.map (eInt .u8))), .agg [.t (.int .i64 p1.fGen), .t (.int .i64 p1.fSize), .t (.int .i64 p1.fLen), .t (.sl 2 (p1.fSums.map Sum.enc))], .t (.int .i64 x4)] [.one (.t (.sl 1 (p0.map (eInt .u8)))), .agg [.t (.int .i64 p1.fGen), .t (.int .i64 p1.fSize), .t (.int .i64 p1.fLen), .t (.sl 2 (p1.fSums.map Sum.enc))], .one (.t (.int .i64 x4))] (.one (.t (.int .i64 r7))) [] rfl rfl (by kernel_rfl) (by kernel_rfl) (by kernel_rfl) (by kernel_rfl) (by kernel_rfl) (impl_PlaceOf_ok u p0 p1 x4 r7 e_r7) (by kernel_rfl) ?_
          refine Runs.all (by kernel_rfl) ?_
          refine thenN ?_
          refine Wp.le (Le.of (s := ⟨[(0, .t (.sl 1 (p0.map (eInt .u8)))), (2, .t (.bool p2)), (4, .obj 4 0), (6, .t (.int .i64 0)), (7, .t (.int .i64 x3)), (8, .t (.int .i64 x4)), (12, .t (.int .i64 (if ((p1.fSums.length : Int)) < 40 then ((p1.fSums.length : Int)) else 40))), (13, .t (.int .i64 x4)), (14, .t (.bool (decide (x4 < (if ((p1.fSums.length : Int)) < 40 then ((p1.fSums.length : Int)) else 40))))), (15, .t (.int .i64 x4)), (16, .t (.sl 1 (p0.map (eInt .u8)))), (17, .agg [.t (.int .i64 p1.fGen), .t (.int .i64 p1.fSize), .t (.int .i64 p1.fLen), .t (.sl 2 (p1.fSums.map Sum.enc))]), (18, .t (.int .i64 x4)), (19, .t (.int .i64 r7)), (20, .t (.bool (decide (r7 ≥ 0)))), (21, .t (.bool p2)), (22, .t (.bool ((decide (r7 ≥ 0)) == p2)))], [(4, [.t (.int .i64 p1.fGen), .t (.int .i64 p1.fSize), .t (.int .i64 p1.fLen), .t (.sl 2 (p1.fSums.map Sum.enc))])], []⟩) (mo := []) (mr := []) (by kernel_rfl) (by kernel_rfl) (by kernel_rfl) (by kernel_rfl)) ?_
          refine Wp.cond2 (b := (decide (r7 ≥ 0)) == p2) (by kernel_rfl) (fun hc => ?_) (fun hc => ?_)
          · have h := cond_t h hc
            refine Wp.regionS (pOf []) (rhoOf []) (by kernel_rfl) ?_
            refine Runs.batch 2 (by kernel_rfl) ?_
            obtain ⟨_, e_8, h⟩ := bind_some h
            refine Runs.num .shl (.int .i64 1) (.int .i64 x4) (.int .i64 (bShl .i64 1 x4)) rfl (by kernel_rfl) (by kernel_rfl) (by kernel_rfl) (by kernel_rfl) (bin_shl _ _ _ _ _ (chk_some e_8)) ?_
            refine Runs.all (by kernel_rfl) ?_
            refine blkN ?_
            refine thenN ?_
            exact ⟨(p0, p2, bOr .i64 x3 (bShl .i64 1 x4), x4, p1, r7), h, Le.of (mo := []) (mr := []) (by kernel_rfl) (by kernel_rfl) (by kernel_rfl) (by kernel_rfl)⟩
          · have h := cond_f h hc
            refine Wp.skip ?_
            refine blkN ?_
            refine thenN ?_
            exact ⟨(p0, p2, x3, x4, p1, r7), h, Le.of (mo := []) (mr := []) (by kernel_rfl) (by kernel_rfl) (by kernel_rfl) (by kernel_rfl)⟩
      · have h := cond_f h hc
        refine Wp.exit ?_
        refine thenE ?_
        refine thenE ?_
        refine blkE ?_
        refine thenN ?_
        exact ⟨x3, h, Le.of (mo := []) (mr := []) (by kernel_rfl) (by kernel_rfl) (by kernel_rfl) (by kernel_rfl)⟩
theorem impl_Lacking_ok (u : Nat) (p0 : List Int) (p1 : Manifest) (r : Int) (h : impl_Lacking u p0 p1 = some r) : CallOK Try.prog 136 [.one (.t (.sl 1 (p0.map (eInt .u8)))), .agg [.t (.int .i64 p1.fGen), .t (.int .i64 p1.fSize), .t (.int .i64 p1.fLen), .t (.sl 2 (p1.fSums.map Sum.enc))]] (.one (.t (.int .i64 r))) [] := by
  unfold impl_Lacking at h
  refine CallOK.of_bodyK (fn := Try.f136) (m := false) [.t (.sl 1 (p0.map (eInt .u8))), .agg [.t (.int .i64 p1.fGen), .t (.int .i64 p1.fSize), .t (.int .i64 p1.fLen), .t (.sl 2 (p1.fSums.map Sum.enc))]] (by kernel_rfl) rfl (by kernel_rfl) (by kernel_rfl) (by kernel_rfl) (by kernel_rfl) (by kernel_rfl) ?_
  refine Wp.seq ?_
  refine Wp.regionS (pOf []) (rhoOf []) (by kernel_rfl) ?_
  refine Runs.all (by kernel_rfl) ?_
  refine thenN ?_
  refine Wp.le (Le.of (s := ⟨[(0, .t (.sl 1 (p0.map (eInt .u8)))), (3, .obj 3 0), (4, .t (.int .i64 0))], [(3, [.t (.int .i64 p1.fGen), .t (.int .i64 p1.fSize), .t (.int .i64 p1.fLen), .t (.sl 2 (p1.fSums.map Sum.enc))])], []⟩) (mo := []) (mr := []) (by kernel_rfl) (by kernel_rfl) (by kernel_rfl) (by kernel_rfl)) ?_
  refine Wp.seq ?_
  refine Wp.regionS (pOf []) (rhoOf []) (by kernel_rfl) ?_
  refine Runs.batch 2 (by kernel_rfl) ?_
  obtain ⟨r1, e_r1, h⟩ := bind_some h
  refine Runs.callK false 7 164 [] [.t (.sl 1 (p0.map (eInt .u8))), .agg [.t (.int .i64 p1.fGen), .t (.int .i64 p1.fSize), .t (.int .i64 p1.fLen), .t (.sl 2 (p1.fSums.map Sum.enc))], .t (.bool false)] [.one (.t (.sl 1 (p0.map (eInt .u8)))), .agg [.t (.int .i64 p1.fGen), .t (.int .i64 p1.fSize), .t (.int .i64 p1.fLen), .t (.sl 2 (p1.fSums.map Sum.enc))], .one (.t (.bool false))] (.one (.t (.int .i64 r1))) [] rfl rfl (by kernel_rfl) (by kernel_rfl) (by kernel_rfl) (by kernel_rfl) (by kernel_rfl) (impl_placed_ok u p0 p1 false r1 e_r1) (by kernel_rfl) ?_
  refine Runs.all (by kernel_rfl) ?_
  refine thenN ?_
  refine Wp.le (Le.of (s := ⟨[(4, .t (.int .i64 r1))], [], []⟩) (mo := []) (mr := []) (by kernel_rfl) (by kernel_rfl) (by kernel_rfl) (by kernel_rfl)) ?_
  refine Wp.ret ?_
  have hr := Option.some.inj h
  subst hr
  exact RetK [.t (.int .i64 r1)] (.one (.t (.int .i64 r1))) [] (by kernel_rfl) (by kernel_rfl) (.refl _) .nil
theorem impl_SetOk_ok (u : Nat) (p0 : Int) (r : Bool) (h : impl_SetOk u p0 = some r) : CallOK Try.prog 140 [.one (.t (.int .i64 p0))] (.one (.t (.bool r))) [] := by
  unfold impl_SetOk at h
  refine CallOK.of_bodyK (fn := Try.f140) (m := false) [.t (.int .i64 p0)] (by kernel_rfl) rfl (by kernel_rfl) (by kernel_rfl) (by kernel_rfl) (by kernel_rfl) (by kernel_rfl) ?_
  refine Wp.seq ?_
  refine Wp.regionS (pOf []) (rhoOf []) (by kernel_rfl) ?_
  refine Runs.all (by kernel_rfl) ?_
  refine thenN ?_
  refine Wp.le (Le.of (s := ⟨[(0, .t (.int .i64 p0)), (2, .t (.bool false))], [], []⟩) (mo := []) (mr := []) (by kernel_rfl) (by kernel_rfl) (by kernel_rfl) (by kernel_rfl)) ?_
  refine Wp.seq ?_
  refine Wp.regionS (pOf []) (rhoOf []) (by kernel_rfl) ?_
  refine Runs.batch 1 (by kernel_rfl) ?_
  obtain ⟨r1, e_r1, h⟩ := bind_some h
  refine Runs.callK false 4 106 [] [.t (.int .i64 p0), .t (.int .i64 0), .t (.int .i64 1099511627775)] [.one (.t (.int .i64 p0)), .one (.t (.int .i64 0)), .one (.t (.int .i64 1099511627775))] (.one (.t (.bool r1))) [] rfl rfl (by kernel_rfl) (by kernel_rfl) (by kernel_rfl) (by kernel_rfl) (by kernel_rfl) (impl_within_ok u p0 0 1099511627775 r1 e_r1) (by kernel_rfl) ?_
  refine Runs.all (by kernel_rfl) ?_
  refine thenN ?_
  refine Wp.le (Le.of (s := ⟨[(2, .t (.bool r1))], [], []⟩) (mo := []) (mr := []) (by kernel_rfl) (by kernel_rfl) (by kernel_rfl) (by kernel_rfl)) ?_
  refine Wp.ret ?_
  have hr := Option.some.inj h
  subst hr
  exact RetK [.t (.bool r1)] (.one (.t (.bool r1))) [] (by kernel_rfl) (by kernel_rfl) (.refl _) .nil
theorem impl_isPlace_ok (u : Nat) (p0 : Int) (r : Bool) (h : impl_isPlace u p0 = some r) : CallOK Try.prog 141 [.one (.t (.int .i64 p0))] (.one (.t (.bool r))) [] := by
  unfold impl_isPlace at h
  refine CallOK.of_bodyK (fn := Try.f141) (m := false) [.t (.int .i64 p0)] (by kernel_rfl) rfl (by kernel_rfl) (by kernel_rfl) (by kernel_rfl) (by kernel_rfl) (by kernel_rfl) ?_
  refine Wp.seq ?_
  refine Wp.regionS (pOf []) (rhoOf []) (by kernel_rfl) ?_
  refine Runs.all (by kernel_rfl) ?_
  refine thenN ?_
  refine Wp.le (Le.of (s := ⟨[(0, .t (.int .i64 p0)), (2, .t (.bool false))], [], []⟩) (mo := []) (mr := []) (by kernel_rfl) (by kernel_rfl) (by kernel_rfl) (by kernel_rfl)) ?_
  refine Wp.seq ?_
  refine Wp.regionS (pOf []) (rhoOf []) (by kernel_rfl) ?_
  refine Runs.batch 1 (by kernel_rfl) ?_
  obtain ⟨r1, e_r1, h⟩ := bind_some h
  refine Runs.callK false 4 106 [] [.t (.int .i64 p0), .t (.int .i64 0), .t (.int .i64 39)] [.one (.t (.int .i64 p0)), .one (.t (.int .i64 0)), .one (.t (.int .i64 39))] (.one (.t (.bool r1))) [] rfl rfl (by kernel_rfl) (by kernel_rfl) (by kernel_rfl) (by kernel_rfl) (by kernel_rfl) (impl_within_ok u p0 0 39 r1 e_r1) (by kernel_rfl) ?_
  refine Runs.all (by kernel_rfl) ?_
  refine thenN ?_
  refine Wp.le (Le.of (s := ⟨[(2, .t (.bool r1))], [], []⟩) (mo := []) (mr := []) (by kernel_rfl) (by kernel_rfl) (by kernel_rfl) (by kernel_rfl)) ?_
  refine Wp.ret ?_
  have hr := Option.some.inj h
  subst hr
  exact RetK [.t (.bool r1)] (.one (.t (.bool r1))) [] (by kernel_rfl) (by kernel_rfl) (.refl _) .nil
theorem impl_InSet_ok (u : Nat) (p0 : Int) (p1 : Int) (r : Bool) (h : impl_InSet u p0 p1 = some r) : CallOK Try.prog 91 [.one (.t (.int .i64 p0)), .one (.t (.int .i64 p1))] (.one (.t (.bool r))) [] := by
  unfold impl_InSet at h
  refine CallOK.of_bodyK (fn := Try.f91) (m := false) [.t (.int .i64 p0), .t (.int .i64 p1)] (by kernel_rfl) rfl (by kernel_rfl) (by kernel_rfl) (by kernel_rfl) (by kernel_rfl) (by kernel_rfl) ?_
  refine Wp.seq ?_
  refine Wp.regionS (pOf []) (rhoOf []) (by kernel_rfl) ?_
  refine Runs.all (by kernel_rfl) ?_
  refine thenN ?_
  refine Wp.le (Le.of (s := ⟨[(0, .t (.int .i64 p0)), (1, .t (.int .i64 p1)), (4, .t (.bool false))], [], []⟩) (mo := []) (mr := []) (by kernel_rfl) (by kernel_rfl) (by kernel_rfl) (by kernel_rfl)) ?_
  refine Wp.seq ?_
  refine Wp.regionS (pOf []) (rhoOf []) (by kernel_rfl) ?_
  refine Runs.batch 1 (by kernel_rfl) ?_
  obtain ⟨r1, e_r1, h⟩ := bind_some h
  refine Runs.callK false 6 140 [] [.t (.int .i64 p0)] [.one (.t (.int .i64 p0))] (.one (.t (.bool r1))) [] rfl rfl (by kernel_rfl) (by kernel_rfl) (by kernel_rfl) (by kernel_rfl) (by kernel_rfl) (impl_SetOk_ok u p0 r1 e_r1) (by kernel_rfl) ?_
  refine Runs.batch 1 (by kernel_rfl) ?_
  rcases tf (r1) with hc | hc
  · have h := cond_t h hc
    refine Runs.known 7 (v := true) (by kernel_rfl) hc ?_
    refine Runs.batch 1 (by kernel_rfl) ?_
    obtain ⟨r2, e_r2, h⟩ := bind_some h
    refine Runs.callK false 9 141 [] [.t (.int .i64 p1)] [.one (.t (.int .i64 p1))] (.one (.t (.bool r2))) [] rfl rfl (by kernel_rfl) (by kernel_rfl) (by kernel_rfl) (by kernel_rfl) (by kernel_rfl) (impl_isPlace_ok u p1 r2 e_r2) (by kernel_rfl) ?_
    refine Runs.batch 2 (by kernel_rfl) ?_
    rcases tf (r2) with hc | hc
    · have h := cond_t h hc
      refine Runs.known 11 (v := true) (by kernel_rfl) hc ?_
      refine Runs.batch 2 (by kernel_rfl) ?_
      obtain ⟨_, e_3, h⟩ := bind_some h
      refine Runs.num .shr (.int .i64 p0) (.int .i64 p1) (.int .i64 (bShr .i64 p0 p1)) rfl (by kernel_rfl) (by kernel_rfl) (by kernel_rfl) (by kernel_rfl) (bin_shr _ _ _ _ _ (chk_some e_3)) ?_
      refine Runs.all (by kernel_rfl) ?_
      refine thenN ?_
      refine Wp.le (Le.of (s := ⟨[(4, .t (.bool ((bAnd .i64 (bShr .i64 p0 p1) 1) == 1)))], [], []⟩) (mo := []) (mr := []) (by kernel_rfl) (by kernel_rfl) (by kernel_rfl) (by kernel_rfl)) ?_
      refine Wp.ret ?_
      have hr := Option.some.inj h
      subst hr
      exact RetK [.t (.bool ((bAnd .i64 (bShr .i64 p0 p1) 1) == 1))] (.one (.t (.bool ((bAnd .i64 (bShr .i64 p0 p1) 1) == 1)))) [] (by kernel_rfl) (by kernel_rfl) (.refl _) .nil
    · have h := cond_f h hc
      refine Runs.known 11 (v := false) (by kernel_rfl) hc ?_
      refine Runs.all (by kernel_rfl) ?_
      refine thenN ?_
      refine Wp.le (Le.of (s := ⟨[(4, .t (.bool false))], [], []⟩) (mo := []) (mr := []) (by kernel_rfl) (by kernel_rfl) (by kernel_rfl) (by kernel_rfl)) ?_
      refine Wp.ret ?_
      have hr := Option.some.inj h
      subst hr
      exact RetK [.t (.bool false)] (.one (.t (.bool false))) [] (by kernel_rfl) (by kernel_rfl) (.refl _) .nil
  · have h := cond_f h hc
    refine Runs.known 7 (v := false) (by kernel_rfl) hc ?_
    refine Runs.all (by kernel_rfl) ?_
    refine thenN ?_
    refine Wp.le (Le.of (s := ⟨[(4, .t (.bool false))], [], []⟩) (mo := []) (mr := []) (by kernel_rfl) (by kernel_rfl) (by kernel_rfl) (by kernel_rfl)) ?_
    refine Wp.ret ?_
    have hr := Option.some.inj h
    subst hr
    exact RetK [.t (.bool false)] (.one (.t (.bool false))) [] (by kernel_rfl) (by kernel_rfl) (.refl _) .nil
theorem impl_PartsIn_ok (u : Nat) (p0 : Int) (r : (List Int)) (h : impl_PartsIn u p0 = some r) : CallOK Try.prog 135 [.one (.t (.int .i64 p0))] (.one (.ow 3 1 (r.map (eInt .i64)))) [] := by
  unfold impl_PartsIn at h
  refine CallOK.of_bodyK (fn := Try.f135) (m := true) [.t (.int .i64 p0)] (by kernel_rfl) rfl (by kernel_rfl) (by kernel_rfl) (by kernel_rfl) (by kernel_rfl) (by kernel_rfl) ?_
  refine Wp.seq ?_
  refine Wp.regionS (pOf []) (rhoOf []) (by kernel_rfl) ?_
  refine Runs.all (by kernel_rfl) ?_
  refine thenN ?_
  refine Wp.le (Le.of (s := ⟨[(0, .t (.int .i64 p0)), (2, .nil)], [], []⟩) (mo := []) (mr := []) (by kernel_rfl) (by kernel_rfl) (by kernel_rfl) (by kernel_rfl)) ?_
  refine Wp.seq ?_
  refine Wp.regionS (pOf []) (rhoOf []) (by kernel_rfl) ?_
  refine Runs.all (by kernel_rfl) ?_
  refine thenN ?_
  refine Wp.le (Le.of (s := ⟨[(0, .t (.int .i64 p0)), (2, .nil), (3, .own 327680)], [], [(327680, .live 3 1 ((([] : List Int)).map (eInt .i64)))]⟩) (mo := []) (mr := []) (by kernel_rfl) (by kernel_rfl) (by kernel_rfl) (by kernel_rfl)) ?_
  refine Wp.seqJ (α := (List Int)) (fun a => ⟨[(2, .nil), (3, .own 196609)], [], [(196609, .live 3 1 (a.map (eInt .i64)))]⟩) (fun a => impl_PartsIn_j1 u a = some r) ?_ ?_
  · rintro x2001 h
    change impl_PartsIn_j1 u x2001 = some r at h
    unfold impl_PartsIn_j1 at h
    refine Wp.seq ?_
    refine Wp.regionS (pOf []) (rhoOf []) (by kernel_rfl) ?_
    refine Runs.all (by kernel_rfl) ?_
    refine thenN ?_
    refine Wp.le (Le.of (s := ⟨[(2, .own 196609)], [], [(196609, .live 3 1 (x2001.map (eInt .i64)))]⟩) (mo := []) (mr := []) (by kernel_rfl) (by kernel_rfl) (by kernel_rfl) (by kernel_rfl)) ?_
    refine Wp.ret ?_
    have hr := Option.some.inj h
    subst hr
    exact RetK [.own 196609] (.one (.ow 3 1 (x2001.map (eInt .i64)))) [] (by kernel_rfl) (by kernel_rfl) (.refl _) .nil
  · refine Wp.seq ?_
    refine Wp.regionS (pOf []) (rhoOf []) (by kernel_rfl) ?_
    refine Runs.all (by kernel_rfl) ?_
    refine thenN ?_
    refine Wp.le (Le.of (s := ⟨[(0, .t (.int .i64 p0)), (2, .nil), (3, .own 327680), (6, .t (.int .i64 0))], [], [(327680, .live 3 1 ((([] : List Int)).map (eInt .i64)))]⟩) (mo := []) (mr := []) (by kernel_rfl) (by kernel_rfl) (by kernel_rfl) (by kernel_rfl)) ?_
    refine Wp.block ?_
    refine Wp.loopF (α := Int × (List Int) × Int) (fun a => ⟨[(0, .t (.int .i64 a.1)), (2, .nil), (3, .own 196609), (6, .t (.int .i64 a.2.2))], [], [(196609, .live 3 1 (a.2.1.map (eInt .i64)))]⟩) (fun k_impl_PartsIn_l2 a => impl_PartsIn_l2 u k_impl_PartsIn_l2 a.1 a.2.1 a.2.2 = some r) ?_ ?_ u (p0, ([] : List Int), 0) h (Le.of (mo := []) (mr := [(196609, 327680)]) (by kernel_rfl) (by kernel_rfl) (by kernel_rfl) (by kernel_rfl))
    · intro a h; unfold impl_PartsIn_l2 at h; cases h
    · rintro k_impl_PartsIn_l2 ⟨p0, x3, x4⟩ h
      change impl_PartsIn_l2 u (k_impl_PartsIn_l2 + 1) p0 x3 x4 = some r at h
      rw [impl_PartsIn_l2] at h
      refine Wp.seq ?_
      refine Wp.regionS (pOf []) (rhoOf []) (by kernel_rfl) ?_
      refine Runs.all (by kernel_rfl) ?_
      refine thenN ?_
      refine Wp.le (Le.of (s := ⟨[(0, .t (.int .i64 p0)), (2, .nil), (3, .own 196609), (6, .t (.int .i64 x4)), (7, .t (.bool (decide (x4 < 40))))], [], [(196609, .live 3 1 (x3.map (eInt .i64)))]⟩) (mo := []) (mr := []) (by kernel_rfl) (by kernel_rfl) (by kernel_rfl) (by kernel_rfl)) ?_
      refine Wp.seq ?_
      refine Wp.cond2 (b := decide (x4 < 40)) (by kernel_rfl) (fun hc => ?_) (fun hc => ?_)
      · have h := cond_t h hc
        refine Wp.skip ?_
        refine thenN ?_
        refine Wp.seqJ (α := Int × (List Int) × Int × Bool) (fun a => ⟨[(0, .t (.int .i64 a.1)), (2, .nil), (3, .own 196609), (4, .t (.int .i64 a.2.2.1)), (6, .t (.int .i64 a.2.2.1)), (7, .t (.bool (decide (a.2.2.1 < 40)))), (8, .t (.int .i64 a.2.2.1)), (9, .t (.int .i64 a.1)), (10, .t (.int .i64 a.2.2.1)), (11, .t (.bool a.2.2.2))], [], [(196609, .live 3 1 (a.2.1.map (eInt .i64)))]⟩) (fun a => impl_PartsIn_j3 u (fun z0 z1 z2 => impl_PartsIn_l2 u k_impl_PartsIn_l2 z0 z1 z2) a.1 a.2.1 a.2.2.1 a.2.2.2 = some r) ?_ ?_
        · rintro ⟨p0, x2007, x4, r7⟩ h
          change impl_PartsIn_j3 u (fun z0 z1 z2 => impl_PartsIn_l2 u k_impl_PartsIn_l2 z0 z1 z2) p0 x2007 x4 r7 = some r at h
          unfold impl_PartsIn_j3 at h
          refine Wp.regionS (pOf []) (rhoOf []) (by kernel_rfl) ?_
          refine Runs.all (by kernel_rfl) ?_
          refine thenN ?_
          exact ⟨(p0, x2007, bAdd .i64 x4 1), h, Le.of (mo := []) (mr := []) (by kernel_rfl) (by kernel_rfl) (by kernel_rfl) (by kernel_rfl)⟩
        · refine Wp.block ?_
          refine Wp.seq ?_
          refine Wp.regionS (pOf []) (rhoOf []) (by kernel_rfl) ?_
          refine Runs.all (by kernel_rfl) ?_
          refine thenN ?_
          refine Wp.le (Le.of (s := ⟨[(0, .t (.int .i64 p0)), (2, .nil), (3, .own 196609), (4, .t (.int .i64 x4)), (6, .t (.int .i64 x4)), (7, .t (.bool (decide (x4 < 40)))), (8, .t (.int .i64 x4))], [], [(196609, .live 3 1 (x3.map (eInt .i64)))]⟩) (mo := []) (mr := []) (by kernel_rfl) (by kernel_rfl) (by kernel_rfl) (by kernel_rfl)) ?_
          refine Wp.seq ?_
          refine Wp.regionS (pOf []) (rhoOf []) (by kernel_rfl) ?_
          refine Runs.batch 2 (by kernel_rfl) ?_
          obtain ⟨r7, e_r7, h⟩ := bind_some h
          refine Runs.callK false 11 91 [] [.t (.int .i64 p0), .t (.int .i64 x4)] [.one (.t (.int .i64 p0)), .one (.t (.int .i64 x4))] (.one (.t (.bool r7))) [] rfl rfl (by kernel_rfl) (by kernel_rfl) (by kernel_rfl) (by kernel_rfl) (by kernel_rfl) (impl_InSet_ok u p0 x4 r7 e_r7) (by kernel_rfl) ?_
          refine Runs.done ?_
          refine thenN ?_
          refine Wp.le (Le.of (s := ⟨[(0, .t (.int .i64 p0)), (2, .nil), (3, .own 196609), (4, .t (.int .i64 x4)), (6, .t (.int .i64 x4)), (7, .t (.bool (decide (x4 < 40)))), (8, .t (.int .i64 x4)), (9, .t (.int .i64 p0)), (10, .t (.int .i64 x4)), (11, .t (.bool r7))], [], [(196609, .live 3 1 (x3.map (eInt .i64)))]⟩) (mo := []) (mr := []) (by kernel_rfl) (by kernel_rfl) (by kernel_rfl) (by kernel_rfl)) ?_
          refine Wp.cond2 (b := r7) (by kernel_rfl) (fun hc => ?_) (fun hc => ?_)
          · have h := cond_t h hc
            refine Wp.regionS (pOf []) (rhoOf []) (by kernel_rfl) ?_
            refine Runs.batch 3 (by kernel_rfl) ?_
            obtain ⟨_, e_8, h⟩ := bind_some h
            refine Runs.appT (y := .own 917504) (eInt .i64) 15 1 3 1 8 196609 x3 ([x4]) rfl rfl rfl rfl (by kernel_rfl) (by kernel_rfl) (by kernel_rfl) (by kernel_rfl) (by kernel_rfl) (by kernel_rfl) (.inl rfl) (by kernel_rfl) (of_decide_eq_true (chk_some e_8)) (by kernel_rfl) (by kernel_rfl) ?_
            refine Runs.all (by kernel_rfl) ?_
            refine blkN ?_
            refine thenN ?_
            exact ⟨(p0, x3 ++ ([x4]), x4, r7), h, Le.of (mo := []) (mr := [(196609, 983040)]) (by kernel_rfl) (by kernel_rfl) (by kernel_rfl) (by kernel_rfl)⟩
          · have h := cond_f h hc
            refine Wp.skip ?_
            refine blkN ?_
            refine thenN ?_
            exact ⟨(p0, x3, x4, r7), h, Le.of (mo := []) (mr := []) (by kernel_rfl) (by kernel_rfl) (by kernel_rfl) (by kernel_rfl)⟩
      · have h := cond_f h hc
        refine Wp.exit ?_
        refine thenE ?_
        refine thenE ?_
        refine blkE ?_
        refine thenN ?_
        exact ⟨x3, h, Le.of (mo := []) (mr := []) (by kernel_rfl) (by kernel_rfl) (by kernel_rfl) (by kernel_rfl)⟩
end Go.Tm
