/- The functions as they are translated do what the pure functions say (printed). -/
import Derived.Test.YtpjnojikkfoekaaCBestSizeK1
import Derived.Test.YtpjnojikkfoekaaTm38
import Derived.Test.YtpjnojikkfoekaaProg
set_option maxRecDepth 100000
set_option linter.unusedVariables false
set_option linter.unusedSimpArgs false
namespace Go.Tm
open Go.Proofs
theorem impl_Blocks_ok (u : Nat) (p0 : Int) (p1 : Int) (r : Int) (h : impl_Blocks u p0 p1 = some r) : CallOK Try.prog 74 [.one (.t (.int .i64 p0)), .one (.t (.int .i64 p1))] (.one (.t (.int .i64 r))) [] := by
  unfold impl_Blocks at h
  refine CallOK.of_bodyK (fn := Try.f74) (m := false) [.t (.int .i64 p0), .t (.int .i64 p1)] (by kernel_rfl) rfl (by kernel_rfl) (by kernel_rfl) (by kernel_rfl) (by kernel_rfl) (by kernel_rfl) ?_
  refine Wp.seq ?_
  refine Wp.regionS (pOf []) (rhoOf []) (by kernel_rfl) ?_
  refine Runs.all (by kernel_rfl) ?_
  refine thenN ?_
  refine Wp.le (Le.of (s := ⟨[(0, .t (.int .i64 p0)), (1, .t (.int .i64 p1)), (4, .t (.int .i64 0))], [], []⟩) (mo := []) (mr := []) (by kernel_rfl) (by kernel_rfl) (by kernel_rfl) (by kernel_rfl)) ?_
  refine Wp.seq ?_
  refine Wp.seq ?_
  refine Wp.regionS (pOf []) (rhoOf []) (by kernel_rfl) ?_
  refine Runs.batch 2 (by kernel_rfl) ?_
  obtain ⟨r1, e_r1, h⟩ := bind_some h
  refine Runs.callK false 7 48 [] [.t (.int .i64 p0), .t (.int .i64 p1)] [.one (.t (.int .i64 p0)), .one (.t (.int .i64 p1))] (.one (.t (.bool r1))) [] rfl rfl (by kernel_rfl) (by kernel_rfl) (by kernel_rfl) (by kernel_rfl) (by kernel_rfl) (impl_SizeOk_ok u p0 p1 r1 e_r1) (by kernel_rfl) ?_
  refine Runs.all (by kernel_rfl) ?_
  refine thenN ?_
  refine Wp.le (Le.of (s := ⟨[(0, .t (.int .i64 p0)), (1, .t (.int .i64 p1)), (4, .t (.int .i64 0)), (8, .t (.bool (!r1)))], [], []⟩) (mo := []) (mr := []) (by kernel_rfl) (by kernel_rfl) (by kernel_rfl) (by kernel_rfl)) ?_
  refine Wp.cond2 (b := !r1) (by kernel_rfl) (fun hc => ?_) (fun hc => ?_)
  · have h := cond_t h hc
    refine Wp.seq ?_
    refine Wp.regionS (pOf []) (rhoOf []) (by kernel_rfl) ?_
    refine Runs.all (by kernel_rfl) ?_
    refine thenN ?_
    refine Wp.le (Le.of (s := ⟨[(0, .t (.int .i64 p0)), (1, .t (.int .i64 p1)), (4, .t (.int .i64 0))], [], []⟩) (mo := []) (mr := []) (by kernel_rfl) (by kernel_rfl) (by kernel_rfl) (by kernel_rfl)) ?_
    refine Wp.ret ?_
    refine thenR ?_
    have hr := Option.some.inj h
    subst hr
    exact RetK [.t (.int .i64 0)] (.one (.t (.int .i64 0))) [] (by kernel_rfl) (by kernel_rfl) (.refl _) .nil
  · have h := cond_f h hc
    refine Wp.skip ?_
    refine thenN ?_
    refine Wp.seq ?_
    refine Wp.regionS (pOf []) (rhoOf []) (by kernel_rfl) ?_
    refine Runs.batch 2 (by kernel_rfl) ?_
    obtain ⟨r2, e_r2, h⟩ := bind_some h
    refine Runs.callK false 11 73 [] [.t (.int .i64 p1), .t (.int .i64 p0)] [.one (.t (.int .i64 p1)), .one (.t (.int .i64 p0))] (.one (.t (.int .i64 r2))) [] rfl rfl (by kernel_rfl) (by kernel_rfl) (by kernel_rfl) (by kernel_rfl) (by kernel_rfl) (impl_CeilDiv_ok u p1 p0 r2 e_r2) (by kernel_rfl) ?_
    refine Runs.all (by kernel_rfl) ?_
    refine thenN ?_
    refine Wp.le (Le.of (s := ⟨[(4, .t (.int .i64 r2))], [], []⟩) (mo := []) (mr := []) (by kernel_rfl) (by kernel_rfl) (by kernel_rfl) (by kernel_rfl)) ?_
    refine Wp.ret ?_
    have hr := Option.some.inj h
    subst hr
    exact RetK [.t (.int .i64 r2)] (.one (.t (.int .i64 r2))) [] (by kernel_rfl) (by kernel_rfl) (.refl _) .nil
theorem impl_SpanOf_ok (u : Nat) (p0 : Int) (p1 : Int) (p2 : Int) (r : Int × Int) (h : impl_SpanOf u p0 p1 p2 = some r) : CallOK Try.prog 106 [.one (.t (.int .i64 p0)), .one (.t (.int .i64 p1)), .one (.t (.int .i64 p2))] (.tup [.one (.t (.int .i64 r.1)), .one (.t (.int .i64 r.2))]) [] := by
  unfold impl_SpanOf at h
  refine CallOK.of_bodyK (fn := Try.f106) (m := false) [.t (.int .i64 p0), .t (.int .i64 p1), .t (.int .i64 p2)] (by kernel_rfl) rfl (by kernel_rfl) (by kernel_rfl) (by kernel_rfl) (by kernel_rfl) (by kernel_rfl) ?_
  refine Wp.seq ?_
  refine Wp.regionS (pOf []) (rhoOf []) (by kernel_rfl) ?_
  refine Runs.all (by kernel_rfl) ?_
  refine thenN ?_
  refine Wp.le (Le.of (s := ⟨[(0, .t (.int .i64 p0)), (1, .t (.int .i64 p1)), (2, .t (.int .i64 p2)), (6, .t (.int .i64 0)), (7, .t (.int .i64 0))], [], []⟩) (mo := []) (mr := []) (by kernel_rfl) (by kernel_rfl) (by kernel_rfl) (by kernel_rfl)) ?_
  refine Wp.seq ?_
  refine Wp.seq ?_
  refine Wp.regionS (pOf []) (rhoOf []) (by kernel_rfl) ?_
  refine Runs.batch 3 (by kernel_rfl) ?_
  obtain ⟨r1, e_r1, h⟩ := bind_some h
  refine Runs.callK false 11 74 [] [.t (.int .i64 p0), .t (.int .i64 p1)] [.one (.t (.int .i64 p0)), .one (.t (.int .i64 p1))] (.one (.t (.int .i64 r1))) [] rfl rfl (by kernel_rfl) (by kernel_rfl) (by kernel_rfl) (by kernel_rfl) (by kernel_rfl) (impl_Blocks_ok u p0 p1 r1 e_r1) (by kernel_rfl) ?_
  refine Runs.batch 1 (by kernel_rfl) ?_
  obtain ⟨r2, e_r2, h⟩ := bind_some h
  refine Runs.callK false 13 41 [] [.t (.int .i64 p2), .t (.int .i64 0), .t (.int .i64 (bSub .i64 r1 1))] [.one (.t (.int .i64 p2)), .one (.t (.int .i64 0)), .one (.t (.int .i64 (bSub .i64 r1 1)))] (.one (.t (.bool r2))) [] rfl rfl (by kernel_rfl) (by kernel_rfl) (by kernel_rfl) (by kernel_rfl) (by kernel_rfl) (impl_within_ok u p2 0 (bSub .i64 r1 1) r2 e_r2) (by kernel_rfl) ?_
  refine Runs.all (by kernel_rfl) ?_
  refine thenN ?_
  refine Wp.le (Le.of (s := ⟨[(0, .t (.int .i64 p0)), (1, .t (.int .i64 p1)), (2, .t (.int .i64 p2)), (6, .t (.int .i64 0)), (7, .t (.int .i64 0)), (14, .t (.bool (!r2)))], [], []⟩) (mo := []) (mr := []) (by kernel_rfl) (by kernel_rfl) (by kernel_rfl) (by kernel_rfl)) ?_
  refine Wp.cond2 (b := !r2) (by kernel_rfl) (fun hc => ?_) (fun hc => ?_)
  · have h := cond_t h hc
    refine Wp.seq ?_
    refine Wp.regionS (pOf []) (rhoOf []) (by kernel_rfl) ?_
    refine Runs.all (by kernel_rfl) ?_
    refine thenN ?_
    refine Wp.le (Le.of (s := ⟨[(0, .t (.int .i64 p0)), (1, .t (.int .i64 p1)), (2, .t (.int .i64 p2)), (6, .t (.int .i64 0)), (7, .t (.int .i64 0))], [], []⟩) (mo := []) (mr := []) (by kernel_rfl) (by kernel_rfl) (by kernel_rfl) (by kernel_rfl)) ?_
    refine Wp.ret ?_
    refine thenR ?_
    have hr := Option.some.inj h
    subst hr
    exact RetK [.t (.int .i64 0), .t (.int .i64 0)] (.tup [.one (.t (.int .i64 0)), .one (.t (.int .i64 0))]) [] (by kernel_rfl) (by kernel_rfl) (.refl _) .nil
  · have h := cond_f h hc
    refine Wp.skip ?_
    refine thenN ?_
    refine Wp.seq ?_
    refine Wp.regionS (pOf []) (rhoOf []) (by kernel_rfl) ?_
    refine Runs.all (by kernel_rfl) ?_
    refine thenN ?_
    refine Wp.le (Le.of (s := ⟨[(6, .t (.int .i64 (bMul .i64 p2 p0))), (7, .t (.int .i64 (if (bSub .i64 p1 (bMul .i64 p2 p0)) < p0 then (bSub .i64 p1 (bMul .i64 p2 p0)) else p0)))], [], []⟩) (mo := []) (mr := []) (by kernel_rfl) (by kernel_rfl) (by kernel_rfl) (by kernel_rfl)) ?_
    refine Wp.ret ?_
    have hr := Option.some.inj h
    subst hr
    exact RetK [.t (.int .i64 (bMul .i64 p2 p0)), .t (.int .i64 (if (bSub .i64 p1 (bMul .i64 p2 p0)) < p0 then (bSub .i64 p1 (bMul .i64 p2 p0)) else p0))] (.tup [.one (.t (.int .i64 (bMul .i64 p2 p0))), .one (.t (.int .i64 (if (bSub .i64 p1 (bMul .i64 p2 p0)) < p0 then (bSub .i64 p1 (bMul .i64 p2 p0)) else p0)))]) [] (by kernel_rfl) (by kernel_rfl) (.refl _) .nil
theorem impl_cloned_ok (u : Nat) (p0 : List Int) (r : (List Int)) (h : impl_cloned u p0 = some r) : CallOK Try.prog 144 [.one (.t (.sl 1 (p0.map (eInt .u8))))] (.one (.ow 5 1 (r.map (eInt .u8)))) [] := by
  unfold impl_cloned at h
  refine CallOK.of_bodyK (fn := Try.f144) (m := true) [.t (.sl 1 (p0.map (eInt .u8)))] (by kernel_rfl) rfl (by kernel_rfl) (by kernel_rfl) (by kernel_rfl) (by kernel_rfl) (by kernel_rfl) ?_
  refine Wp.seq ?_
  refine Wp.regionS (pOf []) (rhoOf []) (by kernel_rfl) ?_
  refine Runs.all (by kernel_rfl) ?_
  refine thenN ?_
  refine Wp.le (Le.of (s := ⟨[(0, .t (.sl 1 (p0.map (eInt .u8)))), (2, .nil)], [], []⟩) (mo := []) (mr := []) (by kernel_rfl) (by kernel_rfl) (by kernel_rfl) (by kernel_rfl)) ?_
  refine Wp.seq ?_
  refine Wp.regionS (pOf []) (rhoOf []) (by kernel_rfl) ?_
  refine Runs.batch 1 (by kernel_rfl) ?_
  refine Runs.lenT (y := .t (.sl 1 (p0.map (eInt .u8)))) (e := 5) (eInt .u8) p0 1 rfl rfl rfl (by kernel_rfl) (by kernel_rfl) (by kernel_rfl) (by kernel_rfl) (by kernel_rfl) ?_
  obtain ⟨_, e_1, h⟩ := bind_some h
  obtain ⟨_, e_2, h⟩ := bind_some h
  refine Runs.mkS (eInt .u8) (0 : Int) 5 5 1 1 0 ((p0.length : Int)) rfl rfl (by kernel_rfl) (by kernel_rfl) (by kernel_rfl) (by kernel_rfl) (by kernel_rfl) (by kernel_rfl) (chk_some e_1) (of_decide_eq_true (chk_some e_2)) (by kernel_rfl) ?_
  refine Runs.batch 1 (by kernel_rfl) ?_
  obtain ⟨_, e_3, h⟩ := bind_some h
  refine Runs.appT (y := .t (.sl 1 (p0.map (eInt .u8)))) (eInt .u8) 7 1 5 1 1 327680 (List.replicate (Int.toNat 0) (0 : Int)) p0 rfl rfl rfl rfl (by kernel_rfl) (by kernel_rfl) (by kernel_rfl) (by kernel_rfl) (by kernel_rfl) (by kernel_rfl) (.inl rfl) (by kernel_rfl) (of_decide_eq_true (chk_some e_3)) (by kernel_rfl) (by kernel_rfl) ?_
  refine Runs.all (by kernel_rfl) ?_
  refine thenN ?_
  refine Wp.le (Le.of (s := ⟨[(2, .own 458752)], [], [(458752, .live 5 1 (((List.replicate (Int.toNat 0) (0 : Int)) ++ p0).map (eInt .u8)))]⟩) (mo := []) (mr := []) (by kernel_rfl) (by kernel_rfl) (by kernel_rfl) (by kernel_rfl)) ?_
  refine Wp.ret ?_
  have hr := Option.some.inj h
  subst hr
  exact RetK [.own 458752] (.one (.ow 5 1 (((List.replicate (Int.toNat 0) (0 : Int)) ++ p0).map (eInt .u8)))) [] (by kernel_rfl) (by kernel_rfl) (.refl _) .nil
theorem impl_Slice_ok (u : Nat) (p0 : List Int) (p1 : Int) (p2 : Int) (r : (List Int) × Bool) (h : impl_Slice u p0 p1 p2 = some r) : CallOK Try.prog 174 [.one (.t (.sl 1 (p0.map (eInt .u8)))), .one (.t (.int .i64 p1)), .one (.t (.int .i64 p2))] (.tup [.one (.ow 5 1 (r.1.map (eInt .u8))), .one (.t (.bool r.2))]) [] := by
  unfold impl_Slice at h
  refine CallOK.of_bodyK (fn := Try.f174) (m := true) [.t (.sl 1 (p0.map (eInt .u8))), .t (.int .i64 p1), .t (.int .i64 p2)] (by kernel_rfl) rfl (by kernel_rfl) (by kernel_rfl) (by kernel_rfl) (by kernel_rfl) (by kernel_rfl) ?_
  refine Wp.seq ?_
  refine Wp.regionS (pOf []) (rhoOf []) (by kernel_rfl) ?_
  refine Runs.all (by kernel_rfl) ?_
  refine thenN ?_
  refine Wp.le (Le.of (s := ⟨[(0, .t (.sl 1 (p0.map (eInt .u8)))), (1, .t (.int .i64 p1)), (2, .t (.int .i64 p2)), (6, .nil), (7, .t (.bool false))], [], []⟩) (mo := []) (mr := []) (by kernel_rfl) (by kernel_rfl) (by kernel_rfl) (by kernel_rfl)) ?_
  refine Wp.seq ?_
  refine Wp.seqJ (α := (List Int) × Int × Int × Bool) (fun a => ⟨[(0, .t (.sl 1 (a.1.map (eInt .u8)))), (1, .t (.int .i64 a.2.1)), (2, .t (.int .i64 a.2.2.1)), (6, .nil), (7, .t (.bool false)), (21, .t (.bool a.2.2.2))], [], []⟩) (fun a => impl_Slice_j1 u a.1 a.2.1 a.2.2.1 a.2.2.2 = some r) ?_ ?_
  · rintro ⟨p0, p1, p2, x3⟩ h
    change impl_Slice_j1 u p0 p1 p2 x3 = some r at h
    unfold impl_Slice_j1 at h
    refine Wp.cond2 (b := x3) (by kernel_rfl) (fun hc => ?_) (fun hc => ?_)
    · have h := cond_t h hc
      refine Wp.seq ?_
      refine Wp.regionS (pOf []) (rhoOf []) (by kernel_rfl) ?_
      refine Runs.all (by kernel_rfl) ?_
      refine thenN ?_
      refine Wp.le (Le.of (s := ⟨[(0, .t (.sl 1 (p0.map (eInt .u8)))), (1, .t (.int .i64 p1)), (2, .t (.int .i64 p2)), (6, .nil), (7, .t (.bool false))], [], []⟩) (mo := []) (mr := []) (by kernel_rfl) (by kernel_rfl) (by kernel_rfl) (by kernel_rfl)) ?_
      refine Wp.ret ?_
      refine thenR ?_
      have hr := Option.some.inj h
      subst hr
      exact RetK [.nil, .t (.bool false)] (.tup [.one (.nil), .one (.t (.bool false))]) [] (by kernel_rfl) (by kernel_rfl) (.tup (.cons (.one (.nilO _ _)) (.cons (.refl _) .nil))) .nil
    · have h := cond_f h hc
      refine Wp.skip ?_
      refine thenN ?_
      refine Wp.seq ?_
      refine Wp.regionS (pOf []) (rhoOf []) (by kernel_rfl) ?_
      refine Runs.batch 5 (by kernel_rfl) ?_
      obtain ⟨_, e_4, h⟩ := bind_some h
      refine Runs.subsl (e := 5) (ax := .t (.sl 1 (p0.map (eInt .u8)))) (alo := (some (.t (.int .i64 p1)))) (ahi := (some (.t (.int .i64 (bAdd .i64 p1 p2))))) (eInt .u8) p0 1 p1 (bAdd .i64 p1 p2) rfl (by kernel_rfl) (by kernel_rfl) (by kernel_rfl) (by kernel_rfl) (by kernel_rfl) (by kernel_rfl) (by kernel_rfl) (by kernel_rfl) (by kernel_rfl) (by kernel_rfl) (chk_some e_4) ?_
      obtain ⟨r5, e_r5, h⟩ := bind_some h
      refine Runs.callK false 28 144 [] [.t (.sl 1 (((p0.take (Int.toNat (bAdd .i64 p1 p2))).drop (Int.toNat p1)).map (eInt .u8)))] [.one (.t (.sl 1 (((p0.take (Int.toNat (bAdd .i64 p1 p2))).drop (Int.toNat p1)).map (eInt .u8))))] (.one (.ow 5 1 (r5.map (eInt .u8)))) [] rfl rfl (by kernel_rfl) (by kernel_rfl) (by kernel_rfl) (by kernel_rfl) (by kernel_rfl) (impl_cloned_ok u ((p0.take (Int.toNat (bAdd .i64 p1 p2))).drop (Int.toNat p1)) r5 e_r5) (by kernel_rfl) ?_
      refine Runs.all (by kernel_rfl) ?_
      refine thenN ?_
      refine Wp.le (Le.of (s := ⟨[(6, .own 1835008), (7, .t (.bool true))], [], [(1835008, .live 5 1 (r5.map (eInt .u8)))]⟩) (mo := []) (mr := []) (by kernel_rfl) (by kernel_rfl) (by kernel_rfl) (by kernel_rfl)) ?_
      refine Wp.ret ?_
      have hr := Option.some.inj h
      subst hr
      exact RetK [.own 1835008, .t (.bool true)] (.tup [.one (.ow 5 1 (r5.map (eInt .u8))), .one (.t (.bool true))]) [] (by kernel_rfl) (by kernel_rfl) (.refl _) .nil
  · refine Wp.regionS (pOf []) (rhoOf []) (by kernel_rfl) ?_
    refine Runs.batch 2 (by kernel_rfl) ?_
    refine Runs.lenT (y := .t (.sl 1 (p0.map (eInt .u8)))) (e := 5) (eInt .u8) p0 1 rfl rfl rfl (by kernel_rfl) (by kernel_rfl) (by kernel_rfl) (by kernel_rfl) (by kernel_rfl) ?_
    obtain ⟨r1, e_r1, h⟩ := bind_some h
    refine Runs.callK false 11 41 [] [.t (.int .i64 p1), .t (.int .i64 0), .t (.int .i64 ((p0.length : Int)))] [.one (.t (.int .i64 p1)), .one (.t (.int .i64 0)), .one (.t (.int .i64 ((p0.length : Int))))] (.one (.t (.bool r1))) [] rfl rfl (by kernel_rfl) (by kernel_rfl) (by kernel_rfl) (by kernel_rfl) (by kernel_rfl) (impl_within_ok u p1 0 ((p0.length : Int)) r1 e_r1) (by kernel_rfl) ?_
    refine Runs.batch 2 (by kernel_rfl) ?_
    rcases tf (!r1) with hc | hc
    · have h := cond_t h hc
      refine Runs.known 13 (v := true) (by kernel_rfl) hc ?_
      refine Runs.all (by kernel_rfl) ?_
      refine thenN ?_
      exact ⟨(p0, p1, p2, true), h, Le.of (mo := []) (mr := []) (by kernel_rfl) (by kernel_rfl) (by kernel_rfl) (by kernel_rfl)⟩
    · have h := cond_f h hc
      refine Runs.known 13 (v := false) (by kernel_rfl) hc ?_
      refine Runs.batch 2 (by kernel_rfl) ?_
      refine Runs.lenT (y := .t (.sl 1 (p0.map (eInt .u8)))) (e := 5) (eInt .u8) p0 1 rfl rfl rfl (by kernel_rfl) (by kernel_rfl) (by kernel_rfl) (by kernel_rfl) (by kernel_rfl) ?_
      refine Runs.batch 2 (by kernel_rfl) ?_
      obtain ⟨r2, e_r2, h⟩ := bind_some h
      refine Runs.callK false 19 41 [] [.t (.int .i64 p2), .t (.int .i64 0), .t (.int .i64 (bSub .i64 ((p0.length : Int)) p1))] [.one (.t (.int .i64 p2)), .one (.t (.int .i64 0)), .one (.t (.int .i64 (bSub .i64 ((p0.length : Int)) p1)))] (.one (.t (.bool r2))) [] rfl rfl (by kernel_rfl) (by kernel_rfl) (by kernel_rfl) (by kernel_rfl) (by kernel_rfl) (impl_within_ok u p2 0 (bSub .i64 ((p0.length : Int)) p1) r2 e_r2) (by kernel_rfl) ?_
      refine Runs.all (by kernel_rfl) ?_
      refine thenN ?_
      exact ⟨(p0, p1, p2, !r2), h, Le.of (mo := []) (mr := []) (by kernel_rfl) (by kernel_rfl) (by kernel_rfl) (by kernel_rfl)⟩
theorem impl_BlockAt_ok (u : Nat) (p0 : List Int) (p1 : Int) (p2 : Int) (r : (List Int) × Bool) (h : impl_BlockAt u p0 p1 p2 = some r) : CallOK Try.prog 141 [.one (.t (.sl 1 (p0.map (eInt .u8)))), .one (.t (.int .i64 p1)), .one (.t (.int .i64 p2))] (.tup [.one (.ow 5 1 (r.1.map (eInt .u8))), .one (.t (.bool r.2))]) [] := by
  unfold impl_BlockAt at h
  refine CallOK.of_bodyK (fn := Try.f141) (m := true) [.t (.sl 1 (p0.map (eInt .u8))), .t (.int .i64 p1), .t (.int .i64 p2)] (by kernel_rfl) rfl (by kernel_rfl) (by kernel_rfl) (by kernel_rfl) (by kernel_rfl) (by kernel_rfl) ?_
  refine Wp.seq ?_
  refine Wp.regionS (pOf []) (rhoOf []) (by kernel_rfl) ?_
  refine Runs.all (by kernel_rfl) ?_
  refine thenN ?_
  refine Wp.le (Le.of (s := ⟨[(0, .t (.sl 1 (p0.map (eInt .u8)))), (1, .t (.int .i64 p1)), (2, .t (.int .i64 p2)), (6, .nil), (7, .t (.bool false))], [], []⟩) (mo := []) (mr := []) (by kernel_rfl) (by kernel_rfl) (by kernel_rfl) (by kernel_rfl)) ?_
  refine Wp.seq ?_
  refine Wp.regionS (pOf []) (rhoOf []) (by kernel_rfl) ?_
  refine Runs.batch 2 (by kernel_rfl) ?_
  refine Runs.lenT (y := .t (.sl 1 (p0.map (eInt .u8)))) (e := 5) (eInt .u8) p0 1 rfl rfl rfl (by kernel_rfl) (by kernel_rfl) (by kernel_rfl) (by kernel_rfl) (by kernel_rfl) ?_
  refine Runs.batch 1 (by kernel_rfl) ?_
  obtain ⟨r1, e_r1, h⟩ := bind_some h
  refine Runs.callK false 15 106 [] [.t (.int .i64 p1), .t (.int .i64 ((p0.length : Int))), .t (.int .i64 p2)] [.one (.t (.int .i64 p1)), .one (.t (.int .i64 ((p0.length : Int)))), .one (.t (.int .i64 p2))] (.tup [.one (.t (.int .i64 r1.1)), .one (.t (.int .i64 r1.2))]) [] rfl rfl (by kernel_rfl) (by kernel_rfl) (by kernel_rfl) (by kernel_rfl) (by kernel_rfl) (impl_SpanOf_ok u p1 ((p0.length : Int)) p2 r1 e_r1) (by kernel_rfl) ?_
  refine Runs.all (by kernel_rfl) ?_
  refine thenN ?_
  refine Wp.le (Le.of (s := ⟨[(0, .t (.sl 1 (p0.map (eInt .u8)))), (6, .nil), (7, .t (.bool false)), (8, .t (.int .i64 r1.1)), (9, .t (.int .i64 r1.2))], [], []⟩) (mo := []) (mr := []) (by kernel_rfl) (by kernel_rfl) (by kernel_rfl) (by kernel_rfl)) ?_
  refine Wp.seq ?_
  refine Wp.seq ?_
  refine Wp.regionS (pOf []) (rhoOf []) (by kernel_rfl) ?_
  refine Runs.all (by kernel_rfl) ?_
  refine thenN ?_
  refine Wp.le (Le.of (s := ⟨[(0, .t (.sl 1 (p0.map (eInt .u8)))), (6, .nil), (7, .t (.bool false)), (8, .t (.int .i64 r1.1)), (9, .t (.int .i64 r1.2)), (19, .t (.bool (r1.2 == 0)))], [], []⟩) (mo := []) (mr := []) (by kernel_rfl) (by kernel_rfl) (by kernel_rfl) (by kernel_rfl)) ?_
  refine Wp.cond2 (b := r1.2 == 0) (by kernel_rfl) (fun hc => ?_) (fun hc => ?_)
  · have h := cond_t h hc
    refine Wp.seq ?_
    refine Wp.regionS (pOf []) (rhoOf []) (by kernel_rfl) ?_
    refine Runs.all (by kernel_rfl) ?_
    refine thenN ?_
    refine Wp.le (Le.of (s := ⟨[(0, .t (.sl 1 (p0.map (eInt .u8)))), (6, .nil), (7, .t (.bool false)), (8, .t (.int .i64 r1.1)), (9, .t (.int .i64 r1.2))], [], []⟩) (mo := []) (mr := []) (by kernel_rfl) (by kernel_rfl) (by kernel_rfl) (by kernel_rfl)) ?_
    refine Wp.ret ?_
    refine thenR ?_
    have hr := Option.some.inj h
    subst hr
    exact RetK [.nil, .t (.bool false)] (.tup [.one (.nil), .one (.t (.bool false))]) [] (by kernel_rfl) (by kernel_rfl) (.tup (.cons (.one (.nilO _ _)) (.cons (.refl _) .nil))) .nil
  · have h := cond_f h hc
    refine Wp.skip ?_
    refine thenN ?_
    refine Wp.seq ?_
    refine Wp.regionS (pOf []) (rhoOf []) (by kernel_rfl) ?_
    refine Runs.batch 3 (by kernel_rfl) ?_
    obtain ⟨r2, e_r2, h⟩ := bind_some h
    refine Runs.callK false 23 174 [] [.t (.sl 1 (p0.map (eInt .u8))), .t (.int .i64 r1.1), .t (.int .i64 r1.2)] [.one (.t (.sl 1 (p0.map (eInt .u8)))), .one (.t (.int .i64 r1.1)), .one (.t (.int .i64 r1.2))] (.tup [.one (.ow 5 1 (r2.1.map (eInt .u8))), .one (.t (.bool r2.2))]) [] rfl rfl (by kernel_rfl) (by kernel_rfl) (by kernel_rfl) (by kernel_rfl) (by kernel_rfl) (impl_Slice_ok u p0 r1.1 r1.2 r2 e_r2) (by kernel_rfl) ?_
    refine Runs.all (by kernel_rfl) ?_
    refine thenN ?_
    refine Wp.le (Le.of (s := ⟨[(6, .own 1507328), (7, .t (.bool r2.2))], [], [(1507328, .live 5 1 (r2.1.map (eInt .u8)))]⟩) (mo := []) (mr := []) (by kernel_rfl) (by kernel_rfl) (by kernel_rfl) (by kernel_rfl)) ?_
    refine Wp.ret ?_
    have hr := Option.some.inj h
    subst hr
    exact RetK [.own 1507328, .t (.bool r2.2)] (.tup [.one (.ow 5 1 (r2.1.map (eInt .u8))), .one (.t (.bool r2.2))]) [] (by kernel_rfl) (by kernel_rfl) (.refl _) .nil
theorem impl_Wrap_ok (u : Nat) (p0 : Int) (p1 : Int) (r : Int) (h : impl_Wrap u p0 p1 = some r) : CallOK Try.prog 204 [.one (.t (.int .i64 p0)), .one (.t (.int .i64 p1))] (.one (.t (.int .i64 r))) [] := by
  unfold impl_Wrap at h
  refine CallOK.of_bodyK (fn := Try.f204) (m := false) [.t (.int .i64 p0), .t (.int .i64 p1)] (by kernel_rfl) rfl (by kernel_rfl) (by kernel_rfl) (by kernel_rfl) (by kernel_rfl) (by kernel_rfl) ?_
  refine Wp.seq ?_
  refine Wp.regionS (pOf []) (rhoOf []) (by kernel_rfl) ?_
  refine Runs.all (by kernel_rfl) ?_
  refine thenN ?_
  refine Wp.le (Le.of (s := ⟨[(0, .t (.int .i64 p0)), (1, .t (.int .i64 p1)), (4, .t (.int .i64 0))], [], []⟩) (mo := []) (mr := []) (by kernel_rfl) (by kernel_rfl) (by kernel_rfl) (by kernel_rfl)) ?_
  refine Wp.seq ?_
  refine Wp.seq ?_
  refine Wp.regionS (pOf []) (rhoOf []) (by kernel_rfl) ?_
  refine Runs.batch 1 (by kernel_rfl) ?_
  obtain ⟨r1, e_r1, h⟩ := bind_some h
  refine Runs.callK false 6 41 [] [.t (.int .i64 p1), .t (.int .i64 1), .t (.int .i64 1000000000000)] [.one (.t (.int .i64 p1)), .one (.t (.int .i64 1)), .one (.t (.int .i64 1000000000000))] (.one (.t (.bool r1))) [] rfl rfl (by kernel_rfl) (by kernel_rfl) (by kernel_rfl) (by kernel_rfl) (by kernel_rfl) (impl_within_ok u p1 1 1000000000000 r1 e_r1) (by kernel_rfl) ?_
  refine Runs.all (by kernel_rfl) ?_
  refine thenN ?_
  refine Wp.le (Le.of (s := ⟨[(0, .t (.int .i64 p0)), (1, .t (.int .i64 p1)), (4, .t (.int .i64 0)), (7, .t (.bool (!r1)))], [], []⟩) (mo := []) (mr := []) (by kernel_rfl) (by kernel_rfl) (by kernel_rfl) (by kernel_rfl)) ?_
  refine Wp.cond2 (b := !r1) (by kernel_rfl) (fun hc => ?_) (fun hc => ?_)
  · have h := cond_t h hc
    refine Wp.seq ?_
    refine Wp.regionS (pOf []) (rhoOf []) (by kernel_rfl) ?_
    refine Runs.all (by kernel_rfl) ?_
    refine thenN ?_
    refine Wp.le (Le.of (s := ⟨[(0, .t (.int .i64 p0)), (1, .t (.int .i64 p1)), (4, .t (.int .i64 0))], [], []⟩) (mo := []) (mr := []) (by kernel_rfl) (by kernel_rfl) (by kernel_rfl) (by kernel_rfl)) ?_
    refine Wp.ret ?_
    refine thenR ?_
    have hr := Option.some.inj h
    subst hr
    exact RetK [.t (.int .i64 0)] (.one (.t (.int .i64 0))) [] (by kernel_rfl) (by kernel_rfl) (.refl _) .nil
  · have h := cond_f h hc
    refine Wp.skip ?_
    refine thenN ?_
    refine Wp.seq ?_
    refine Wp.regionS (pOf []) (rhoOf []) (by kernel_rfl) ?_
    refine Runs.batch 2 (by kernel_rfl) ?_
    obtain ⟨_, e_2, h⟩ := bind_some h
    refine Runs.num .rem (.int .i64 p0) (.int .i64 p1) (.int .i64 (bRem .i64 p0 p1)) rfl (by kernel_rfl) (by kernel_rfl) (by kernel_rfl) (by kernel_rfl) (bin_rem _ _ _ _ (by simpa using chk_some e_2)) ?_
    refine Runs.batch 3 (by kernel_rfl) ?_
    obtain ⟨_, e_3, h⟩ := bind_some h
    refine Runs.num .rem (.int .i64 (bAdd .i64 (bRem .i64 p0 p1) p1)) (.int .i64 p1) (.int .i64 (bRem .i64 (bAdd .i64 (bRem .i64 p0 p1) p1) p1)) rfl (by kernel_rfl) (by kernel_rfl) (by kernel_rfl) (by kernel_rfl) (bin_rem _ _ _ _ (by simpa using chk_some e_3)) ?_
    refine Runs.all (by kernel_rfl) ?_
    refine thenN ?_
    refine Wp.le (Le.of (s := ⟨[(4, .t (.int .i64 (bRem .i64 (bAdd .i64 (bRem .i64 p0 p1) p1) p1)))], [], []⟩) (mo := []) (mr := []) (by kernel_rfl) (by kernel_rfl) (by kernel_rfl) (by kernel_rfl)) ?_
    refine Wp.ret ?_
    have hr := Option.some.inj h
    subst hr
    exact RetK [.t (.int .i64 (bRem .i64 (bAdd .i64 (bRem .i64 p0 p1) p1) p1))] (.one (.t (.int .i64 (bRem .i64 (bAdd .i64 (bRem .i64 p0 p1) p1) p1)))) [] (by kernel_rfl) (by kernel_rfl) (.refl _) .nil
theorem impl_weak_ok (u : Nat) (p0 : Int) (p1 : Int) (r : Int) (h : impl_weak u p0 p1 = some r) : CallOK Try.prog 196 [.one (.t (.int .i64 p0)), .one (.t (.int .i64 p1))] (.one (.t (.int .i64 r))) [] := by
  unfold impl_weak at h
  refine CallOK.of_bodyK (fn := Try.f196) (m := false) [.t (.int .i64 p0), .t (.int .i64 p1)] (by kernel_rfl) rfl (by kernel_rfl) (by kernel_rfl) (by kernel_rfl) (by kernel_rfl) (by kernel_rfl) ?_
  refine Wp.seq ?_
  refine Wp.regionS (pOf []) (rhoOf []) (by kernel_rfl) ?_
  refine Runs.all (by kernel_rfl) ?_
  refine thenN ?_
  refine Wp.le (Le.of (s := ⟨[(0, .t (.int .i64 p0)), (1, .t (.int .i64 p1)), (4, .t (.int .i64 0))], [], []⟩) (mo := []) (mr := []) (by kernel_rfl) (by kernel_rfl) (by kernel_rfl) (by kernel_rfl)) ?_
  refine Wp.seq ?_
  refine Wp.regionS (pOf []) (rhoOf []) (by kernel_rfl) ?_
  refine Runs.batch 1 (by kernel_rfl) ?_
  obtain ⟨r1, e_r1, h⟩ := bind_some h
  refine Runs.callK false 6 204 [] [.t (.int .i64 p0), .t (.int .i64 251)] [.one (.t (.int .i64 p0)), .one (.t (.int .i64 251))] (.one (.t (.int .i64 r1))) [] rfl rfl (by kernel_rfl) (by kernel_rfl) (by kernel_rfl) (by kernel_rfl) (by kernel_rfl) (impl_Wrap_ok u p0 251 r1 e_r1) (by kernel_rfl) ?_
  refine Runs.batch 1 (by kernel_rfl) ?_
  obtain ⟨r2, e_r2, h⟩ := bind_some h
  refine Runs.callK false 8 204 [] [.t (.int .i64 p1), .t (.int .i64 251)] [.one (.t (.int .i64 p1)), .one (.t (.int .i64 251))] (.one (.t (.int .i64 r2))) [] rfl rfl (by kernel_rfl) (by kernel_rfl) (by kernel_rfl) (by kernel_rfl) (by kernel_rfl) (impl_Wrap_ok u p1 251 r2 e_r2) (by kernel_rfl) ?_
  refine Runs.all (by kernel_rfl) ?_
  refine thenN ?_
  refine Wp.le (Le.of (s := ⟨[(4, .t (.int .i64 (bAdd .i64 r1 (bMul .i64 251 r2))))], [], []⟩) (mo := []) (mr := []) (by kernel_rfl) (by kernel_rfl) (by kernel_rfl) (by kernel_rfl)) ?_
  refine Wp.ret ?_
  have hr := Option.some.inj h
  subst hr
  exact RetK [.t (.int .i64 (bAdd .i64 r1 (bMul .i64 251 r2)))] (.one (.t (.int .i64 (bAdd .i64 r1 (bMul .i64 251 r2))))) [] (by kernel_rfl) (by kernel_rfl) (.refl _) .nil
theorem impl_WeakOf_ok (u : Nat) (p0 : List Int) (r : Int) (h : impl_WeakOf u p0 = some r) : CallOK Try.prog 175 [.one (.t (.sl 1 (p0.map (eInt .u8))))] (.one (.t (.int .i64 r))) [] := by
  unfold impl_WeakOf at h
  refine CallOK.of_bodyK (fn := Try.f175) (m := false) [.t (.sl 1 (p0.map (eInt .u8)))] (by kernel_rfl) rfl (by kernel_rfl) (by kernel_rfl) (by kernel_rfl) (by kernel_rfl) (by kernel_rfl) ?_
  refine Wp.seq ?_
  refine Wp.regionS (pOf []) (rhoOf []) (by kernel_rfl) ?_
  refine Runs.all (by kernel_rfl) ?_
  refine thenN ?_
  refine Wp.le (Le.of (s := ⟨[(0, .t (.sl 1 (p0.map (eInt .u8)))), (2, .t (.int .i64 0))], [], []⟩) (mo := []) (mr := []) (by kernel_rfl) (by kernel_rfl) (by kernel_rfl) (by kernel_rfl)) ?_
  refine Wp.seq ?_
  refine Wp.regionS (pOf []) (rhoOf []) (by kernel_rfl) ?_
  refine Runs.all (by kernel_rfl) ?_
  refine thenN ?_
  refine Wp.le (Le.of (s := ⟨[(0, .t (.sl 1 (p0.map (eInt .u8)))), (2, .t (.int .i64 0)), (3, .t (.int .i64 0)), (4, .t (.int .i64 0))], [], []⟩) (mo := []) (mr := []) (by kernel_rfl) (by kernel_rfl) (by kernel_rfl) (by kernel_rfl)) ?_
  refine Wp.seqJ (α := Int × Int) (fun a => ⟨[(2, .t (.int .i64 0)), (3, .t (.int .i64 a.1)), (4, .t (.int .i64 a.2))], [], []⟩) (fun a => impl_WeakOf_j1 u a.1 a.2 = some r) ?_ ?_
  · rintro ⟨x11, x12⟩ h
    change impl_WeakOf_j1 u x11 x12 = some r at h
    unfold impl_WeakOf_j1 at h
    refine Wp.seq ?_
    refine Wp.regionS (pOf []) (rhoOf []) (by kernel_rfl) ?_
    refine Runs.batch 2 (by kernel_rfl) ?_
    obtain ⟨r13, e_r13, h⟩ := bind_some h
    refine Runs.callK false 25 196 [] [.t (.int .i64 x11), .t (.int .i64 x12)] [.one (.t (.int .i64 x11)), .one (.t (.int .i64 x12))] (.one (.t (.int .i64 r13))) [] rfl rfl (by kernel_rfl) (by kernel_rfl) (by kernel_rfl) (by kernel_rfl) (by kernel_rfl) (impl_weak_ok u x11 x12 r13 e_r13) (by kernel_rfl) ?_
    refine Runs.all (by kernel_rfl) ?_
    refine thenN ?_
    refine Wp.le (Le.of (s := ⟨[(2, .t (.int .i64 r13))], [], []⟩) (mo := []) (mr := []) (by kernel_rfl) (by kernel_rfl) (by kernel_rfl) (by kernel_rfl)) ?_
    refine Wp.ret ?_
    have hr := Option.some.inj h
    subst hr
    exact RetK [.t (.int .i64 r13)] (.one (.t (.int .i64 r13))) [] (by kernel_rfl) (by kernel_rfl) (.refl _) .nil
  · refine Wp.seq ?_
    refine Wp.regionS (pOf []) (rhoOf []) (by kernel_rfl) ?_
    refine Runs.batch 1 (by kernel_rfl) ?_
    refine Runs.lenT (y := .t (.sl 1 (p0.map (eInt .u8)))) (e := 5) (eInt .u8) p0 1 rfl rfl rfl (by kernel_rfl) (by kernel_rfl) (by kernel_rfl) (by kernel_rfl) (by kernel_rfl) ?_
    refine Runs.all (by kernel_rfl) ?_
    refine thenN ?_
    refine Wp.le (Le.of (s := ⟨[(2, .t (.int .i64 0)), (3, .t (.int .i64 0)), (4, .t (.int .i64 0)), (7, .t (.sl 1 (p0.map (eInt .u8)))), (8, .t (.int .i64 ((p0.length : Int)))), (9, .t (.int .i64 0))], [], []⟩) (mo := []) (mr := []) (by kernel_rfl) (by kernel_rfl) (by kernel_rfl) (by kernel_rfl)) ?_
    refine Wp.block ?_
    refine Wp.loopF (α := Int × Int × (List Int) × Int) (fun a => ⟨[(2, .t (.int .i64 0)), (3, .t (.int .i64 a.1)), (4, .t (.int .i64 a.2.1)), (7, .t (.sl 1 (a.2.2.1.map (eInt .u8)))), (8, .t (.int .i64 ((a.2.2.1.length : Int)))), (9, .t (.int .i64 a.2.2.2))], [], []⟩) (fun k_impl_WeakOf_l2 a => impl_WeakOf_l2 u k_impl_WeakOf_l2 a.1 a.2.1 a.2.2.1 a.2.2.2 = some r) ?_ ?_ u (0, 0, p0, 0) h (Le.of (mo := []) (mr := []) (by kernel_rfl) (by kernel_rfl) (by kernel_rfl) (by kernel_rfl))
    · intro a h; unfold impl_WeakOf_l2 at h; cases h
    · rintro k_impl_WeakOf_l2 ⟨x4, x5, p0, x6⟩ h
      change impl_WeakOf_l2 u (k_impl_WeakOf_l2 + 1) x4 x5 p0 x6 = some r at h
      rw [impl_WeakOf_l2] at h
      refine Wp.seq ?_
      refine Wp.regionS (pOf []) (rhoOf []) (by kernel_rfl) ?_
      refine Runs.all (by kernel_rfl) ?_
      refine thenN ?_
      refine Wp.le (Le.of (s := ⟨[(2, .t (.int .i64 0)), (3, .t (.int .i64 x4)), (4, .t (.int .i64 x5)), (7, .t (.sl 1 (p0.map (eInt .u8)))), (8, .t (.int .i64 ((p0.length : Int)))), (9, .t (.int .i64 x6)), (10, .t (.bool (decide (x6 < ((p0.length : Int))))))], [], []⟩) (mo := []) (mr := []) (by kernel_rfl) (by kernel_rfl) (by kernel_rfl) (by kernel_rfl)) ?_
      refine Wp.seq ?_
      refine Wp.cond2 (b := decide (x6 < ((p0.length : Int)))) (by kernel_rfl) (fun hc => ?_) (fun hc => ?_)
      · have h := cond_t h hc
        refine Wp.skip ?_
        refine thenN ?_
        refine Wp.seq ?_
        refine Wp.block ?_
        refine Wp.seq ?_
        refine Wp.regionS (pOf []) (rhoOf []) (by kernel_rfl) ?_
        obtain ⟨y10, e_y10, h⟩ := bind_some h
        refine Runs.idxT (e := 5) (kk := .i64) (sz := 1) (eInt .u8) p0 x6 rfl (by kernel_rfl) (by kernel_rfl) (by kernel_rfl) (by kernel_rfl) (by kernel_rfl) (by kernel_rfl) e_y10 ?_
        refine Runs.all (by kernel_rfl) ?_
        refine thenN ?_
        refine Wp.le (Le.of (s := ⟨[(2, .t (.int .i64 0)), (3, .t (.int .i64 x4)), (4, .t (.int .i64 x5)), (6, .t (.int .u8 y10)), (7, .t (.sl 1 (p0.map (eInt .u8)))), (8, .t (.int .i64 ((p0.length : Int)))), (9, .t (.int .i64 x6)), (10, .t (.bool (decide (x6 < ((p0.length : Int)))))), (11, .fadr [.int .u8 y10]), (12, .t (.int .u8 y10))], [], []⟩) (mo := []) (mr := []) (by kernel_rfl) (by kernel_rfl) (by kernel_rfl) (by kernel_rfl)) ?_
        refine Wp.seq ?_
        refine Wp.regionS (pOf []) (rhoOf []) (by kernel_rfl) ?_
        refine Runs.all (by kernel_rfl) ?_
        refine thenN ?_
        refine Wp.le (Le.of (s := ⟨[(2, .t (.int .i64 0)), (3, .t (.int .i64 (bRem .i64 (bAdd .i64 x4 (IntKind.wrap .i64 y10)) 251))), (4, .t (.int .i64 x5)), (6, .t (.int .u8 y10)), (7, .t (.sl 1 (p0.map (eInt .u8)))), (8, .t (.int .i64 ((p0.length : Int)))), (9, .t (.int .i64 x6)), (10, .t (.bool (decide (x6 < ((p0.length : Int)))))), (11, .fadr [.int .u8 y10]), (12, .t (.int .u8 y10)), (13, .t (.int .i64 x4)), (14, .t (.int .u8 y10)), (15, .t (.int .i64 (IntKind.wrap .i64 y10))), (16, .t (.int .i64 (bAdd .i64 x4 (IntKind.wrap .i64 y10)))), (17, .t (.int .i64 (bRem .i64 (bAdd .i64 x4 (IntKind.wrap .i64 y10)) 251)))], [], []⟩) (mo := []) (mr := []) (by kernel_rfl) (by kernel_rfl) (by kernel_rfl) (by kernel_rfl)) ?_
        refine Wp.regionS (pOf []) (rhoOf []) (by kernel_rfl) ?_
        refine Runs.all (by kernel_rfl) ?_
        refine blkN ?_
        refine thenN ?_
        refine Wp.regionS (pOf []) (rhoOf []) (by kernel_rfl) ?_
        refine Runs.all (by kernel_rfl) ?_
        refine thenN ?_
        exact ⟨(bRem .i64 (bAdd .i64 x4 (IntKind.wrap .i64 y10)) 251, bRem .i64 (bAdd .i64 x5 (bRem .i64 (bAdd .i64 x4 (IntKind.wrap .i64 y10)) 251)) 251, p0, bAdd .i64 x6 1), h, Le.of (mo := []) (mr := []) (by kernel_rfl) (by kernel_rfl) (by kernel_rfl) (by kernel_rfl)⟩
      · have h := cond_f h hc
        refine Wp.exit ?_
        refine thenE ?_
        refine thenE ?_
        refine blkE ?_
        refine thenN ?_
        exact ⟨(x4, x5), h, Le.of (mo := []) (mr := []) (by kernel_rfl) (by kernel_rfl) (by kernel_rfl) (by kernel_rfl)⟩
theorem impl_SumOf_ok (u : Nat) (p0 : List Int) (r : Sum) (h : impl_SumOf u p0 = some r) : CallOK Try.prog 142 [.one (.t (.sl 1 (p0.map (eInt .u8))))] (.agg [.t (.int .i64 r.fW), .t (.int .i64 r.fS)]) [] := by
  unfold impl_SumOf at h
  refine CallOK.of_bodyK (fn := Try.f142) (m := false) [.t (.sl 1 (p0.map (eInt .u8)))] (by kernel_rfl) rfl (by kernel_rfl) (by kernel_rfl) (by kernel_rfl) (by kernel_rfl) (by kernel_rfl) ?_
  refine Wp.seq ?_
  refine Wp.regionS (pOf []) (rhoOf []) (by kernel_rfl) ?_
  refine Runs.all (by kernel_rfl) ?_
  refine thenN ?_
  refine Wp.le (Le.of (s := ⟨[(0, .t (.sl 1 (p0.map (eInt .u8)))), (2, .obj 2 0)], [(2, [.t (.int .i64 0), .t (.int .i64 0)])], []⟩) (mo := []) (mr := []) (by kernel_rfl) (by kernel_rfl) (by kernel_rfl) (by kernel_rfl)) ?_
  refine Wp.seq ?_
  refine Wp.seq ?_
  refine Wp.regionS (pOf []) (rhoOf []) (by kernel_rfl) ?_
  refine Runs.batch 1 (by kernel_rfl) ?_
  refine Runs.lenT (y := .t (.sl 1 (p0.map (eInt .u8)))) (e := 5) (eInt .u8) p0 1 rfl rfl rfl (by kernel_rfl) (by kernel_rfl) (by kernel_rfl) (by kernel_rfl) (by kernel_rfl) ?_
  refine Runs.all (by kernel_rfl) ?_
  refine thenN ?_
  refine Wp.le (Le.of (s := ⟨[(0, .t (.sl 1 (p0.map (eInt .u8)))), (2, .obj 2 0), (8, .t (.bool (decide (((p0.length : Int)) > 6))))], [(2, [.t (.int .i64 0), .t (.int .i64 0)])], []⟩) (mo := []) (mr := []) (by kernel_rfl) (by kernel_rfl) (by kernel_rfl) (by kernel_rfl)) ?_
  refine Wp.cond2 (b := decide (((p0.length : Int)) > 6)) (by kernel_rfl) (fun hc => ?_) (fun hc => ?_)
  · have h := cond_t h hc
    refine Wp.seq ?_
    refine Wp.regionS (pOf []) (rhoOf []) (by kernel_rfl) ?_
    refine Runs.all (by kernel_rfl) ?_
    refine thenN ?_
    refine Wp.le (Le.of (s := ⟨[(0, .t (.sl 1 (p0.map (eInt .u8)))), (2, .obj 2 0)], [(2, [.t (.int .i64 0), .t (.int .i64 0)])], []⟩) (mo := []) (mr := []) (by kernel_rfl) (by kernel_rfl) (by kernel_rfl) (by kernel_rfl)) ?_
    refine Wp.ret ?_
    refine thenR ?_
    have hr := Option.some.inj h
    subst hr
    exact RetK [.agg [.t (.int .i64 0), .t (.int .i64 0)]] (.agg [.t (.int .i64 0), .t (.int .i64 0)]) [] (by kernel_rfl) (by kernel_rfl) (.refl _) .nil
  · have h := cond_f h hc
    refine Wp.skip ?_
    refine thenN ?_
    refine Wp.seq ?_
    refine Wp.regionS (pOf []) (rhoOf []) (by kernel_rfl) ?_
    refine Runs.all (by kernel_rfl) ?_
    refine thenN ?_
    refine Wp.le (Le.of (s := ⟨[(0, .t (.sl 1 (p0.map (eInt .u8)))), (2, .obj 2 0), (3, .t (.int .i64 1))], [(2, [.t (.int .i64 0), .t (.int .i64 0)])], []⟩) (mo := []) (mr := []) (by kernel_rfl) (by kernel_rfl) (by kernel_rfl) (by kernel_rfl)) ?_
    refine Wp.seqJ (α := (List Int) × Int) (fun a => ⟨[(0, .t (.sl 1 (a.1.map (eInt .u8)))), (2, .obj 2 0), (3, .t (.int .i64 a.2))], [(2, [.t (.int .i64 0), .t (.int .i64 0)])], []⟩) (fun a => impl_SumOf_j1 u a.1 a.2 = some r) ?_ ?_
    · rintro ⟨p0, x8⟩ h
      change impl_SumOf_j1 u p0 x8 = some r at h
      unfold impl_SumOf_j1 at h
      refine Wp.seq ?_
      refine Wp.regionS (pOf []) (rhoOf []) (by kernel_rfl) ?_
      refine Runs.batch 1 (by kernel_rfl) ?_
      obtain ⟨r9, e_r9, h⟩ := bind_some h
      refine Runs.callK false 23 175 [] [.t (.sl 1 (p0.map (eInt .u8)))] [.one (.t (.sl 1 (p0.map (eInt .u8))))] (.one (.t (.int .i64 r9))) [] rfl rfl (by kernel_rfl) (by kernel_rfl) (by kernel_rfl) (by kernel_rfl) (by kernel_rfl) (impl_WeakOf_ok u p0 r9 e_r9) (by kernel_rfl) ?_
      refine Runs.all (by kernel_rfl) ?_
      refine thenN ?_
      refine Wp.le (Le.of (s := ⟨[(2, .obj 2 0)], [(2, [.t (.int .i64 r9), .t (.int .i64 x8)])], []⟩) (mo := []) (mr := []) (by kernel_rfl) (by kernel_rfl) (by kernel_rfl) (by kernel_rfl)) ?_
      refine Wp.ret ?_
      have hr := Option.some.inj h
      subst hr
      exact RetK [.agg [.t (.int .i64 r9), .t (.int .i64 x8)]] (.agg [.t (.int .i64 r9), .t (.int .i64 x8)]) [] (by kernel_rfl) (by kernel_rfl) (.refl _) .nil
    · refine Wp.seq ?_
      refine Wp.regionS (pOf []) (rhoOf []) (by kernel_rfl) ?_
      refine Runs.batch 1 (by kernel_rfl) ?_
      refine Runs.lenT (y := .t (.sl 1 (p0.map (eInt .u8)))) (e := 5) (eInt .u8) p0 1 rfl rfl rfl (by kernel_rfl) (by kernel_rfl) (by kernel_rfl) (by kernel_rfl) (by kernel_rfl) ?_
      refine Runs.all (by kernel_rfl) ?_
      refine thenN ?_
      refine Wp.le (Le.of (s := ⟨[(0, .t (.sl 1 (p0.map (eInt .u8)))), (2, .obj 2 0), (3, .t (.int .i64 1)), (10, .t (.sl 1 (p0.map (eInt .u8)))), (11, .t (.int .i64 ((p0.length : Int)))), (12, .t (.int .i64 0))], [(2, [.t (.int .i64 0), .t (.int .i64 0)])], []⟩) (mo := []) (mr := []) (by kernel_rfl) (by kernel_rfl) (by kernel_rfl) (by kernel_rfl)) ?_
      refine Wp.block ?_
      refine Wp.loopF (α := (List Int) × Int × Int) (fun a => ⟨[(0, .t (.sl 1 (a.1.map (eInt .u8)))), (2, .obj 2 0), (3, .t (.int .i64 a.2.1)), (10, .t (.sl 1 (a.1.map (eInt .u8)))), (11, .t (.int .i64 ((a.1.length : Int)))), (12, .t (.int .i64 a.2.2))], [(2, [.t (.int .i64 0), .t (.int .i64 0)])], []⟩) (fun k_impl_SumOf_l2 a => impl_SumOf_l2 u k_impl_SumOf_l2 a.1 a.2.1 a.2.2 = some r) ?_ ?_ u (p0, 1, 0) h (Le.of (mo := []) (mr := []) (by kernel_rfl) (by kernel_rfl) (by kernel_rfl) (by kernel_rfl))
      · intro a h; unfold impl_SumOf_l2 at h; cases h
      · rintro k_impl_SumOf_l2 ⟨p0, x3, x4⟩ h
        change impl_SumOf_l2 u (k_impl_SumOf_l2 + 1) p0 x3 x4 = some r at h
        rw [impl_SumOf_l2] at h
        refine Wp.seq ?_
        refine Wp.regionS (pOf []) (rhoOf []) (by kernel_rfl) ?_
        refine Runs.all (by kernel_rfl) ?_
        refine thenN ?_
        refine Wp.le (Le.of (s := ⟨[(0, .t (.sl 1 (p0.map (eInt .u8)))), (2, .obj 2 0), (3, .t (.int .i64 x3)), (10, .t (.sl 1 (p0.map (eInt .u8)))), (11, .t (.int .i64 ((p0.length : Int)))), (12, .t (.int .i64 x4)), (13, .t (.bool (decide (x4 < ((p0.length : Int))))))], [(2, [.t (.int .i64 0), .t (.int .i64 0)])], []⟩) (mo := []) (mr := []) (by kernel_rfl) (by kernel_rfl) (by kernel_rfl) (by kernel_rfl)) ?_
        refine Wp.seq ?_
        refine Wp.cond2 (b := decide (x4 < ((p0.length : Int)))) (by kernel_rfl) (fun hc => ?_) (fun hc => ?_)
        · have h := cond_t h hc
          refine Wp.skip ?_
          refine thenN ?_
          refine Wp.seq ?_
          refine Wp.block ?_
          refine Wp.seq ?_
          refine Wp.regionS (pOf []) (rhoOf []) (by kernel_rfl) ?_
          obtain ⟨y7, e_y7, h⟩ := bind_some h
          refine Runs.idxT (e := 5) (kk := .i64) (sz := 1) (eInt .u8) p0 x4 rfl (by kernel_rfl) (by kernel_rfl) (by kernel_rfl) (by kernel_rfl) (by kernel_rfl) (by kernel_rfl) e_y7 ?_
          refine Runs.all (by kernel_rfl) ?_
          refine thenN ?_
          refine Wp.le (Le.of (s := ⟨[(0, .t (.sl 1 (p0.map (eInt .u8)))), (2, .obj 2 0), (3, .t (.int .i64 x3)), (5, .t (.int .u8 y7)), (10, .t (.sl 1 (p0.map (eInt .u8)))), (11, .t (.int .i64 ((p0.length : Int)))), (12, .t (.int .i64 x4)), (13, .t (.bool (decide (x4 < ((p0.length : Int)))))), (14, .fadr [.int .u8 y7]), (15, .t (.int .u8 y7))], [(2, [.t (.int .i64 0), .t (.int .i64 0)])], []⟩) (mo := []) (mr := []) (by kernel_rfl) (by kernel_rfl) (by kernel_rfl) (by kernel_rfl)) ?_
          refine Wp.regionS (pOf []) (rhoOf []) (by kernel_rfl) ?_
          refine Runs.all (by kernel_rfl) ?_
          refine blkN ?_
          refine thenN ?_
          refine Wp.regionS (pOf []) (rhoOf []) (by kernel_rfl) ?_
          refine Runs.all (by kernel_rfl) ?_
          refine thenN ?_
          exact ⟨(p0, bOr .i64 (bShl .i64 x3 8) (IntKind.wrap .i64 y7), bAdd .i64 x4 1), h, Le.of (mo := []) (mr := []) (by kernel_rfl) (by kernel_rfl) (by kernel_rfl) (by kernel_rfl)⟩
        · have h := cond_f h hc
          refine Wp.exit ?_
          refine thenE ?_
          refine thenE ?_
          refine blkE ?_
          refine thenN ?_
          exact ⟨(p0, x3), h, Le.of (mo := []) (mr := []) (by kernel_rfl) (by kernel_rfl) (by kernel_rfl) (by kernel_rfl)⟩
theorem impl_SumsOf_ok (u : Nat) (p0 : List Int) (p1 : Int) (r : (List Sum)) (h : impl_SumsOf u p0 p1 = some r) : CallOK Try.prog 102 [.one (.t (.sl 1 (p0.map (eInt .u8)))), .one (.t (.int .i64 p1))] (.one (.ow 166 2 (r.map Sum.enc))) [] := by
  unfold impl_SumsOf at h
  refine CallOK.of_bodyK (fn := Try.f102) (m := true) [.t (.sl 1 (p0.map (eInt .u8))), .t (.int .i64 p1)] (by kernel_rfl) rfl (by kernel_rfl) (by kernel_rfl) (by kernel_rfl) (by kernel_rfl) (by kernel_rfl) ?_
  refine Wp.seq ?_
  refine Wp.regionS (pOf []) (rhoOf []) (by kernel_rfl) ?_
  refine Runs.all (by kernel_rfl) ?_
  refine thenN ?_
  refine Wp.le (Le.of (s := ⟨[(0, .t (.sl 1 (p0.map (eInt .u8)))), (1, .t (.int .i64 p1)), (4, .nil)], [], []⟩) (mo := []) (mr := []) (by kernel_rfl) (by kernel_rfl) (by kernel_rfl) (by kernel_rfl)) ?_
  refine Wp.seq ?_
  refine Wp.regionS (pOf []) (rhoOf []) (by kernel_rfl) ?_
  refine Runs.all (by kernel_rfl) ?_
  refine thenN ?_
  refine Wp.le (Le.of (s := ⟨[(0, .t (.sl 1 (p0.map (eInt .u8)))), (1, .t (.int .i64 p1)), (4, .nil), (5, .own 589824)], [], [(589824, .live 166 2 ((([] : List Sum)).map Sum.enc))]⟩) (mo := []) (mr := []) (by kernel_rfl) (by kernel_rfl) (by kernel_rfl) (by kernel_rfl)) ?_
  refine Wp.seqJ (α := (List Sum)) (fun a => ⟨[(4, .nil), (5, .own 327681)], [], [(327681, .live 166 2 (a.map Sum.enc))]⟩) (fun a => impl_SumsOf_j1 u a = some r) ?_ ?_
  · rintro x10 h
    change impl_SumsOf_j1 u x10 = some r at h
    unfold impl_SumsOf_j1 at h
    refine Wp.seq ?_
    refine Wp.regionS (pOf []) (rhoOf []) (by kernel_rfl) ?_
    refine Runs.all (by kernel_rfl) ?_
    refine thenN ?_
    refine Wp.le (Le.of (s := ⟨[(4, .own 327681)], [], [(327681, .live 166 2 (x10.map Sum.enc))]⟩) (mo := []) (mr := []) (by kernel_rfl) (by kernel_rfl) (by kernel_rfl) (by kernel_rfl)) ?_
    refine Wp.ret ?_
    have hr := Option.some.inj h
    subst hr
    exact RetK [.own 327681] (.one (.ow 166 2 (x10.map Sum.enc))) [] (by kernel_rfl) (by kernel_rfl) (.refl _) .nil
  · refine Wp.seq ?_
    refine Wp.regionS (pOf []) (rhoOf []) (by kernel_rfl) ?_
    refine Runs.batch 2 (by kernel_rfl) ?_
    refine Runs.lenT (y := .t (.sl 1 (p0.map (eInt .u8)))) (e := 5) (eInt .u8) p0 1 rfl rfl rfl (by kernel_rfl) (by kernel_rfl) (by kernel_rfl) (by kernel_rfl) (by kernel_rfl) ?_
    obtain ⟨r1, e_r1, h⟩ := bind_some h
    refine Runs.callK false 13 74 [] [.t (.int .i64 p1), .t (.int .i64 ((p0.length : Int)))] [.one (.t (.int .i64 p1)), .one (.t (.int .i64 ((p0.length : Int))))] (.one (.t (.int .i64 r1))) [] rfl rfl (by kernel_rfl) (by kernel_rfl) (by kernel_rfl) (by kernel_rfl) (by kernel_rfl) (impl_Blocks_ok u p1 ((p0.length : Int)) r1 e_r1) (by kernel_rfl) ?_
    refine Runs.all (by kernel_rfl) ?_
    refine thenN ?_
    refine Wp.le (Le.of (s := ⟨[(0, .t (.sl 1 (p0.map (eInt .u8)))), (1, .t (.int .i64 p1)), (4, .nil), (5, .own 589824), (13, .t (.int .i64 r1)), (14, .t (.int .i64 0))], [], [(589824, .live 166 2 ((([] : List Sum)).map Sum.enc))]⟩) (mo := []) (mr := []) (by kernel_rfl) (by kernel_rfl) (by kernel_rfl) (by kernel_rfl)) ?_
    refine Wp.block ?_
    refine Wp.loopF (α := (List Int) × Int × (List Sum) × Int × Int) (fun a => ⟨[(0, .t (.sl 1 (a.1.map (eInt .u8)))), (1, .t (.int .i64 a.2.1)), (4, .nil), (5, .own 327681), (13, .t (.int .i64 a.2.2.2.1)), (14, .t (.int .i64 a.2.2.2.2))], [], [(327681, .live 166 2 (a.2.2.1.map Sum.enc))]⟩) (fun k_impl_SumsOf_l2 a => impl_SumsOf_l2 u k_impl_SumsOf_l2 a.1 a.2.1 a.2.2.1 a.2.2.2.1 a.2.2.2.2 = some r) ?_ ?_ u (p0, p1, ([] : List Sum), r1, 0) h (Le.of (mo := []) (mr := [(327681, 589824)]) (by kernel_rfl) (by kernel_rfl) (by kernel_rfl) (by kernel_rfl))
    · intro a h; unfold impl_SumsOf_l2 at h; cases h
    · rintro k_impl_SumsOf_l2 ⟨p0, p1, x4, r1, x5⟩ h
      change impl_SumsOf_l2 u (k_impl_SumsOf_l2 + 1) p0 p1 x4 r1 x5 = some r at h
      rw [impl_SumsOf_l2] at h
      refine Wp.seq ?_
      refine Wp.regionS (pOf []) (rhoOf []) (by kernel_rfl) ?_
      refine Runs.all (by kernel_rfl) ?_
      refine thenN ?_
      refine Wp.le (Le.of (s := ⟨[(0, .t (.sl 1 (p0.map (eInt .u8)))), (1, .t (.int .i64 p1)), (4, .nil), (5, .own 327681), (13, .t (.int .i64 r1)), (14, .t (.int .i64 x5)), (15, .t (.bool (decide (x5 < r1))))], [], [(327681, .live 166 2 (x4.map Sum.enc))]⟩) (mo := []) (mr := []) (by kernel_rfl) (by kernel_rfl) (by kernel_rfl) (by kernel_rfl)) ?_
      refine Wp.seq ?_
      refine Wp.cond2 (b := decide (x5 < r1)) (by kernel_rfl) (fun hc => ?_) (fun hc => ?_)
      · have h := cond_t h hc
        refine Wp.skip ?_
        refine thenN ?_
        refine Wp.seq ?_
        refine Wp.block ?_
        refine Wp.seq ?_
        refine Wp.regionS (pOf []) (rhoOf []) (by kernel_rfl) ?_
        refine Runs.all (by kernel_rfl) ?_
        refine thenN ?_
        refine Wp.le (Le.of (s := ⟨[(0, .t (.sl 1 (p0.map (eInt .u8)))), (1, .t (.int .i64 p1)), (4, .nil), (5, .own 327681), (6, .t (.int .i64 x5)), (13, .t (.int .i64 r1)), (14, .t (.int .i64 x5)), (15, .t (.bool (decide (x5 < r1)))), (16, .t (.int .i64 x5))], [], [(327681, .live 166 2 (x4.map Sum.enc))]⟩) (mo := []) (mr := []) (by kernel_rfl) (by kernel_rfl) (by kernel_rfl) (by kernel_rfl)) ?_
        refine Wp.seq ?_
        refine Wp.regionS (pOf []) (rhoOf []) (by kernel_rfl) ?_
        refine Runs.batch 3 (by kernel_rfl) ?_
        obtain ⟨r8, e_r8, h⟩ := bind_some h
        refine Runs.callK false 21 141 [] [.t (.sl 1 (p0.map (eInt .u8))), .t (.int .i64 p1), .t (.int .i64 x5)] [.one (.t (.sl 1 (p0.map (eInt .u8)))), .one (.t (.int .i64 p1)), .one (.t (.int .i64 x5))] (.tup [.one (.ow 5 1 (r8.1.map (eInt .u8))), .one (.t (.bool r8.2))]) [] rfl rfl (by kernel_rfl) (by kernel_rfl) (by kernel_rfl) (by kernel_rfl) (by kernel_rfl) (impl_BlockAt_ok u p0 p1 x5 r8 e_r8) (by kernel_rfl) ?_
        refine Runs.all (by kernel_rfl) ?_
        refine thenN ?_
        refine Wp.le (Le.of (s := ⟨[(0, .t (.sl 1 (p0.map (eInt .u8)))), (1, .t (.int .i64 p1)), (4, .nil), (5, .own 327681), (6, .t (.int .i64 x5)), (7, .own 1376256), (13, .t (.int .i64 r1)), (14, .t (.int .i64 x5)), (15, .t (.bool (decide (x5 < r1)))), (16, .t (.int .i64 x5)), (17, .tup [.own 1376256, .t (.bool r8.2)]), (18, .t (.sl 1 (p0.map (eInt .u8)))), (19, .t (.int .i64 p1)), (20, .t (.int .i64 x5)), (21, .tup [.own 1376256, .t (.bool r8.2)]), (22, .own 1376256), (23, .t (.bool r8.2))], [], [(327681, .live 166 2 (x4.map Sum.enc)), (1376256, .live 5 1 (r8.1.map (eInt .u8)))]⟩) (mo := []) (mr := []) (by kernel_rfl) (by kernel_rfl) (by kernel_rfl) (by kernel_rfl)) ?_
        refine Wp.regionS (pOf []) (rhoOf []) (by kernel_rfl) ?_
        refine Runs.batch 2 (by kernel_rfl) ?_
        obtain ⟨r9, e_r9, h⟩ := bind_some h
        refine Runs.callBK 26 142 [] [.own 1376256] [.one (.t (.sl 1 (r8.1.map (eInt .u8))))] (.agg [.t (.int .i64 r9.fW), .t (.int .i64 r9.fS)]) rfl rfl (by kernel_rfl) (by kernel_rfl) (by kernel_rfl) (by kernel_rfl) (by kernel_rfl) (impl_SumOf_ok u r8.1 r9 e_r9) (by simp [V.plain, V.plains, C.plain, T.sc]) (by kernel_rfl) ?_
        refine Runs.batch 1 (by kernel_rfl) ?_
        obtain ⟨_, e_10, h⟩ := bind_some h
        refine Runs.appT (y := .own 1769472) Sum.enc 28 2 166 2 16 327681 x4 ([r9]) rfl rfl rfl rfl (by kernel_rfl) (by kernel_rfl) (by kernel_rfl) (by kernel_rfl) (by kernel_rfl) (by kernel_rfl) (.inl rfl) (by kernel_rfl) (of_decide_eq_true (chk_some e_10)) (by kernel_rfl) (by kernel_rfl) ?_
        refine Runs.all (by kernel_rfl) ?_
        refine blkN ?_
        refine thenN ?_
        refine Wp.regionS (pOf []) (rhoOf []) (by kernel_rfl) ?_
        refine Runs.all (by kernel_rfl) ?_
        refine thenN ?_
        exact ⟨(p0, p1, x4 ++ ([r9]), r1, bAdd .i64 x5 1), h, Le.of (mo := []) (mr := [(327681, 1835008)]) (by kernel_rfl) (by kernel_rfl) (by kernel_rfl) (by kernel_rfl)⟩
      · have h := cond_f h hc
        refine Wp.exit ?_
        refine thenE ?_
        refine thenE ?_
        refine blkE ?_
        refine thenN ?_
        exact ⟨x4, h, Le.of (mo := []) (mr := []) (by kernel_rfl) (by kernel_rfl) (by kernel_rfl) (by kernel_rfl)⟩
theorem impl_ManOf_ok (u : Nat) (p0 : Int) (p1 : List Int) (p2 : Int) (r : Manifest) (h : impl_ManOf u p0 p1 p2 = some r) : CallOK Try.prog 49 [.one (.t (.int .i64 p0)), .one (.t (.sl 1 (p1.map (eInt .u8)))), .one (.t (.int .i64 p2))] (.agg [.t (.int .i64 r.fGen), .t (.int .i64 r.fSize), .t (.int .i64 r.fLen), .ow 166 2 (r.fSums.map Sum.enc)]) [] := by
  unfold impl_ManOf at h
  refine CallOK.of_bodyK (fn := Try.f49) (m := true) [.t (.int .i64 p0), .t (.sl 1 (p1.map (eInt .u8))), .t (.int .i64 p2)] (by kernel_rfl) rfl (by kernel_rfl) (by kernel_rfl) (by kernel_rfl) (by kernel_rfl) (by kernel_rfl) ?_
  refine Wp.seq ?_
  refine Wp.regionS (pOf []) (rhoOf []) (by kernel_rfl) ?_
  refine Runs.all (by kernel_rfl) ?_
  refine thenN ?_
  refine Wp.le (Le.of (s := ⟨[(0, .t (.int .i64 p0)), (1, .t (.sl 1 (p1.map (eInt .u8)))), (2, .t (.int .i64 p2)), (6, .obj 6 0)], [(6, [.t (.int .i64 0), .t (.int .i64 0), .t (.int .i64 0), .nil])], []⟩) (mo := []) (mr := []) (by kernel_rfl) (by kernel_rfl) (by kernel_rfl) (by kernel_rfl)) ?_
  refine Wp.seq ?_
  refine Wp.seqJ (α := Int × (List Int) × Int × Bool) (fun a => ⟨[(0, .t (.int .i64 a.1)), (1, .t (.sl 1 (a.2.1.map (eInt .u8)))), (2, .t (.int .i64 a.2.2.1)), (6, .obj 6 0), (16, .t (.bool a.2.2.2))], [(6, [.t (.int .i64 0), .t (.int .i64 0), .t (.int .i64 0), .nil])], []⟩) (fun a => impl_ManOf_j1 u a.1 a.2.1 a.2.2.1 a.2.2.2 = some r) ?_ ?_
  · rintro ⟨p0, p1, p2, x3⟩ h
    change impl_ManOf_j1 u p0 p1 p2 x3 = some r at h
    unfold impl_ManOf_j1 at h
    refine Wp.cond2 (b := x3) (by kernel_rfl) (fun hc => ?_) (fun hc => ?_)
    · have h := cond_t h hc
      refine Wp.seq ?_
      refine Wp.regionS (pOf []) (rhoOf []) (by kernel_rfl) ?_
      refine Runs.all (by kernel_rfl) ?_
      refine thenN ?_
      refine Wp.le (Le.of (s := ⟨[(0, .t (.int .i64 p0)), (1, .t (.sl 1 (p1.map (eInt .u8)))), (2, .t (.int .i64 p2)), (6, .obj 6 0)], [(6, [.t (.int .i64 0), .t (.int .i64 0), .t (.int .i64 0), .nil])], []⟩) (mo := []) (mr := []) (by kernel_rfl) (by kernel_rfl) (by kernel_rfl) (by kernel_rfl)) ?_
      refine Wp.ret ?_
      refine thenR ?_
      have hr := Option.some.inj h
      subst hr
      exact RetK [.agg [.t (.int .i64 0), .t (.int .i64 0), .t (.int .i64 0), .nil]] (.agg [.t (.int .i64 0), .t (.int .i64 0), .t (.int .i64 0), .nil]) [] (by kernel_rfl) (by kernel_rfl) (.agg (.cons (.refl _) (.cons (.refl _) (.cons (.refl _) (.cons (.nilO _ _) .nil))))) .nil
    · have h := cond_f h hc
      refine Wp.skip ?_
      refine thenN ?_
      refine Wp.seq ?_
      refine Wp.regionS (pOf []) (rhoOf []) (by kernel_rfl) ?_
      refine Runs.batch 3 (by kernel_rfl) ?_
      refine Runs.lenT (y := .t (.sl 1 (p1.map (eInt .u8)))) (e := 5) (eInt .u8) p1 1 rfl rfl rfl (by kernel_rfl) (by kernel_rfl) (by kernel_rfl) (by kernel_rfl) (by kernel_rfl) ?_
      refine Runs.batch 2 (by kernel_rfl) ?_
      obtain ⟨r4, e_r4, h⟩ := bind_some h
      refine Runs.callK false 24 102 [] [.t (.sl 1 (p1.map (eInt .u8))), .t (.int .i64 p2)] [.one (.t (.sl 1 (p1.map (eInt .u8)))), .one (.t (.int .i64 p2))] (.one (.ow 166 2 (r4.map Sum.enc))) [] rfl rfl (by kernel_rfl) (by kernel_rfl) (by kernel_rfl) (by kernel_rfl) (by kernel_rfl) (impl_SumsOf_ok u p1 p2 r4 e_r4) (by kernel_rfl) ?_
      refine Runs.all (by kernel_rfl) ?_
      refine thenN ?_
      refine Wp.le (Le.of (s := ⟨[(6, .obj 6 0)], [(6, [.t (.int .i64 p0), .t (.int .i64 p2), .t (.int .i64 ((p1.length : Int))), .own 1572864])], [(1572864, .live 166 2 (r4.map Sum.enc))]⟩) (mo := []) (mr := []) (by kernel_rfl) (by kernel_rfl) (by kernel_rfl) (by kernel_rfl)) ?_
      refine Wp.ret ?_
      have hr := Option.some.inj h
      subst hr
      exact RetK [.agg [.t (.int .i64 p0), .t (.int .i64 p2), .t (.int .i64 ((p1.length : Int))), .own 1572864]] (.agg [.t (.int .i64 p0), .t (.int .i64 p2), .t (.int .i64 ((p1.length : Int))), .ow 166 2 (r4.map Sum.enc)]) [] (by kernel_rfl) (by kernel_rfl) (.refl _) .nil
  · refine Wp.regionS (pOf []) (rhoOf []) (by kernel_rfl) ?_
    refine Runs.batch 1 (by kernel_rfl) ?_
    obtain ⟨r1, e_r1, h⟩ := bind_some h
    refine Runs.callK false 8 41 [] [.t (.int .i64 p0), .t (.int .i64 1), .t (.int .i64 1000000)] [.one (.t (.int .i64 p0)), .one (.t (.int .i64 1)), .one (.t (.int .i64 1000000))] (.one (.t (.bool r1))) [] rfl rfl (by kernel_rfl) (by kernel_rfl) (by kernel_rfl) (by kernel_rfl) (by kernel_rfl) (impl_within_ok u p0 1 1000000 r1 e_r1) (by kernel_rfl) ?_
    refine Runs.batch 2 (by kernel_rfl) ?_
    rcases tf (!r1) with hc | hc
    · have h := cond_t h hc
      refine Runs.known 10 (v := true) (by kernel_rfl) hc ?_
      refine Runs.all (by kernel_rfl) ?_
      refine thenN ?_
      exact ⟨(p0, p1, p2, true), h, Le.of (mo := []) (mr := []) (by kernel_rfl) (by kernel_rfl) (by kernel_rfl) (by kernel_rfl)⟩
    · have h := cond_f h hc
      refine Runs.known 10 (v := false) (by kernel_rfl) hc ?_
      refine Runs.batch 2 (by kernel_rfl) ?_
      refine Runs.lenT (y := .t (.sl 1 (p1.map (eInt .u8)))) (e := 5) (eInt .u8) p1 1 rfl rfl rfl (by kernel_rfl) (by kernel_rfl) (by kernel_rfl) (by kernel_rfl) (by kernel_rfl) ?_
      obtain ⟨r2, e_r2, h⟩ := bind_some h
      refine Runs.callK false 14 48 [] [.t (.int .i64 p2), .t (.int .i64 ((p1.length : Int)))] [.one (.t (.int .i64 p2)), .one (.t (.int .i64 ((p1.length : Int))))] (.one (.t (.bool r2))) [] rfl rfl (by kernel_rfl) (by kernel_rfl) (by kernel_rfl) (by kernel_rfl) (by kernel_rfl) (impl_SizeOk_ok u p2 ((p1.length : Int)) r2 e_r2) (by kernel_rfl) ?_
      refine Runs.all (by kernel_rfl) ?_
      refine thenN ?_
      exact ⟨(p0, p1, p2, !r2), h, Le.of (mo := []) (mr := []) (by kernel_rfl) (by kernel_rfl) (by kernel_rfl) (by kernel_rfl)⟩
theorem impl_isZeroMan_ok (u : Nat) (p0 : Manifest) (r : Bool) (h : impl_isZeroMan u p0 = some r) : CallOK Try.prog 176 [.agg [.t (.int .i64 p0.fGen), .t (.int .i64 p0.fSize), .t (.int .i64 p0.fLen), .t (.sl 2 (p0.fSums.map Sum.enc))]] (.one (.t (.bool r))) [] := by
  unfold impl_isZeroMan at h
  refine CallOK.of_bodyK (fn := Try.f176) (m := false) [.agg [.t (.int .i64 p0.fGen), .t (.int .i64 p0.fSize), .t (.int .i64 p0.fLen), .t (.sl 2 (p0.fSums.map Sum.enc))]] (by kernel_rfl) rfl (by kernel_rfl) (by kernel_rfl) (by kernel_rfl) (by kernel_rfl) (by kernel_rfl) ?_
  refine Wp.seq ?_
  refine Wp.regionS (pOf []) (rhoOf []) (by kernel_rfl) ?_
  refine Runs.all (by kernel_rfl) ?_
  refine thenN ?_
  refine Wp.le (Le.of (s := ⟨[(1, .obj 1 0), (2, .t (.bool false))], [(1, [.t (.int .i64 p0.fGen), .t (.int .i64 p0.fSize), .t (.int .i64 p0.fLen), .t (.sl 2 (p0.fSums.map Sum.enc))])], []⟩) (mo := []) (mr := []) (by kernel_rfl) (by kernel_rfl) (by kernel_rfl) (by kernel_rfl)) ?_
  refine Wp.seq ?_
  refine Wp.regionS (pOf []) (rhoOf []) (by kernel_rfl) ?_
  refine Runs.batch 4 (by kernel_rfl) ?_
  rcases tf (p0.fGen == 0) with hc | hc
  · have h := cond_t h hc
    refine Runs.known 6 (v := true) (by kernel_rfl) hc ?_
    refine Runs.batch 5 (by kernel_rfl) ?_
    rcases tf (p0.fSize == 0) with hc | hc
    · have h := cond_t h hc
      refine Runs.known 11 (v := true) (by kernel_rfl) hc ?_
      refine Runs.batch 5 (by kernel_rfl) ?_
      rcases tf (p0.fLen == 0) with hc | hc
      · have h := cond_t h hc
        refine Runs.known 16 (v := true) (by kernel_rfl) hc ?_
        refine Runs.batch 2 (by kernel_rfl) ?_
        refine Runs.lenT (y := .t (.sl 2 (p0.fSums.map Sum.enc))) (e := 166) Sum.enc p0.fSums 2 rfl rfl rfl (by kernel_rfl) (by kernel_rfl) (by kernel_rfl) (by kernel_rfl) (by kernel_rfl) ?_
        refine Runs.all (by kernel_rfl) ?_
        refine thenN ?_
        refine Wp.le (Le.of (s := ⟨[(2, .t (.bool (((p0.fSums.length : Int)) == 0)))], [], []⟩) (mo := []) (mr := []) (by kernel_rfl) (by kernel_rfl) (by kernel_rfl) (by kernel_rfl)) ?_
        refine Wp.ret ?_
        have hr := Option.some.inj h
        subst hr
        exact RetK [.t (.bool (((p0.fSums.length : Int)) == 0))] (.one (.t (.bool (((p0.fSums.length : Int)) == 0)))) [] (by kernel_rfl) (by kernel_rfl) (.refl _) .nil
      · have h := cond_f h hc
        refine Runs.known 16 (v := false) (by kernel_rfl) hc ?_
        refine Runs.all (by kernel_rfl) ?_
        refine thenN ?_
        refine Wp.le (Le.of (s := ⟨[(2, .t (.bool false))], [], []⟩) (mo := []) (mr := []) (by kernel_rfl) (by kernel_rfl) (by kernel_rfl) (by kernel_rfl)) ?_
        refine Wp.ret ?_
        have hr := Option.some.inj h
        subst hr
        exact RetK [.t (.bool false)] (.one (.t (.bool false))) [] (by kernel_rfl) (by kernel_rfl) (.refl _) .nil
    · have h := cond_f h hc
      refine Runs.known 11 (v := false) (by kernel_rfl) hc ?_
      refine Runs.all (by kernel_rfl) ?_
      refine thenN ?_
      refine Wp.le (Le.of (s := ⟨[(2, .t (.bool false))], [], []⟩) (mo := []) (mr := []) (by kernel_rfl) (by kernel_rfl) (by kernel_rfl) (by kernel_rfl)) ?_
      refine Wp.ret ?_
      have hr := Option.some.inj h
      subst hr
      exact RetK [.t (.bool false)] (.one (.t (.bool false))) [] (by kernel_rfl) (by kernel_rfl) (.refl _) .nil
  · have h := cond_f h hc
    refine Runs.known 6 (v := false) (by kernel_rfl) hc ?_
    refine Runs.all (by kernel_rfl) ?_
    refine thenN ?_
    refine Wp.le (Le.of (s := ⟨[(2, .t (.bool false))], [], []⟩) (mo := []) (mr := []) (by kernel_rfl) (by kernel_rfl) (by kernel_rfl) (by kernel_rfl)) ?_
    refine Wp.ret ?_
    have hr := Option.some.inj h
    subst hr
    exact RetK [.t (.bool false)] (.one (.t (.bool false))) [] (by kernel_rfl) (by kernel_rfl) (.refl _) .nil
theorem impl_BytesOf_ok (u : Nat) (p0 : Int) (r : (List Int) × Bool) (h : impl_BytesOf u p0 = some r) : CallOK Try.prog 177 [.one (.t (.int .i64 p0))] (.tup [.one (.ow 5 1 (r.1.map (eInt .u8))), .one (.t (.bool r.2))]) [] := by
  unfold impl_BytesOf at h
  refine CallOK.of_bodyK (fn := Try.f177) (m := true) [.t (.int .i64 p0)] (by kernel_rfl) rfl (by kernel_rfl) (by kernel_rfl) (by kernel_rfl) (by kernel_rfl) (by kernel_rfl) ?_
  refine Wp.seq ?_
  refine Wp.regionS (pOf []) (rhoOf []) (by kernel_rfl) ?_
  refine Runs.all (by kernel_rfl) ?_
  refine thenN ?_
  refine Wp.le (Le.of (s := ⟨[(0, .t (.int .i64 p0)), (2, .nil), (3, .t (.bool false))], [], []⟩) (mo := []) (mr := []) (by kernel_rfl) (by kernel_rfl) (by kernel_rfl) (by kernel_rfl)) ?_
  refine Wp.seq ?_
  refine Wp.regionS (pOf []) (rhoOf []) (by kernel_rfl) ?_
  refine Runs.all (by kernel_rfl) ?_
  refine thenN ?_
  refine Wp.le (Le.of (s := ⟨[(0, .t (.int .i64 p0)), (2, .nil), (3, .t (.bool false)), (4, .t (.int .i64 0))], [], []⟩) (mo := []) (mr := []) (by kernel_rfl) (by kernel_rfl) (by kernel_rfl) (by kernel_rfl)) ?_
  refine Wp.seqJ (α := Int × Int) (fun a => ⟨[(0, .t (.int .i64 a.1)), (2, .nil), (3, .t (.bool false)), (4, .t (.int .i64 a.2))], [], []⟩) (fun a => impl_BytesOf_j1 u a.1 a.2 = some r) ?_ ?_
  · rintro ⟨p0, x6⟩ h
    change impl_BytesOf_j1 u p0 x6 = some r at h
    unfold impl_BytesOf_j1 at h
    refine Wp.seq ?_
    refine Wp.seqJ (α := Int × Int × Bool) (fun a => ⟨[(0, .t (.int .i64 a.1)), (2, .nil), (3, .t (.bool false)), (4, .t (.int .i64 a.2.1)), (26, .t (.bool a.2.2))], [], []⟩) (fun a => impl_BytesOf_j2 u a.1 a.2.1 a.2.2 = some r) ?_ ?_
    · rintro ⟨p0, x6, x7⟩ h
      change impl_BytesOf_j2 u p0 x6 x7 = some r at h
      unfold impl_BytesOf_j2 at h
      refine Wp.cond2 (b := x7) (by kernel_rfl) (fun hc => ?_) (fun hc => ?_)
      · have h := cond_t h hc
        refine Wp.seq ?_
        refine Wp.regionS (pOf []) (rhoOf []) (by kernel_rfl) ?_
        refine Runs.all (by kernel_rfl) ?_
        refine thenN ?_
        refine Wp.le (Le.of (s := ⟨[(0, .t (.int .i64 p0)), (2, .nil), (3, .t (.bool false)), (4, .t (.int .i64 x6))], [], []⟩) (mo := []) (mr := []) (by kernel_rfl) (by kernel_rfl) (by kernel_rfl) (by kernel_rfl)) ?_
        refine Wp.ret ?_
        refine thenR ?_
        have hr := Option.some.inj h
        subst hr
        exact RetK [.nil, .t (.bool false)] (.tup [.one (.nil), .one (.t (.bool false))]) [] (by kernel_rfl) (by kernel_rfl) (.tup (.cons (.one (.nilO _ _)) (.cons (.refl _) .nil))) .nil
      · have h := cond_f h hc
        refine Wp.skip ?_
        refine thenN ?_
        refine Wp.seq ?_
        refine Wp.regionS (pOf []) (rhoOf []) (by kernel_rfl) ?_
        refine Runs.batch 1 (by kernel_rfl) ?_
        obtain ⟨_, e_8, h⟩ := bind_some h
        obtain ⟨_, e_9, h⟩ := bind_some h
        refine Runs.mkS (eInt .u8) (0 : Int) 28 5 1 1 x6 x6 rfl rfl (by kernel_rfl) (by kernel_rfl) (by kernel_rfl) (by kernel_rfl) (by kernel_rfl) (by kernel_rfl) (chk_some e_8) (of_decide_eq_true (chk_some e_9)) (by kernel_rfl) ?_
        refine Runs.all (by kernel_rfl) ?_
        refine thenN ?_
        refine Wp.le (Le.of (s := ⟨[(0, .t (.int .i64 p0)), (2, .nil), (3, .t (.bool false)), (4, .t (.int .i64 x6)), (5, .own 1835008)], [], [(1835008, .live 5 1 ((List.replicate (Int.toNat x6) (0 : Int)).map (eInt .u8)))]⟩) (mo := []) (mr := []) (by kernel_rfl) (by kernel_rfl) (by kernel_rfl) (by kernel_rfl)) ?_
        refine Wp.seqJ (α := (List Int)) (fun a => ⟨[(2, .nil), (3, .t (.bool false)), (5, .own 327681)], [], [(327681, .live 5 1 (a.map (eInt .u8)))]⟩) (fun a => impl_BytesOf_j3 u a = some r) ?_ ?_
        · rintro x18 h
          change impl_BytesOf_j3 u x18 = some r at h
          unfold impl_BytesOf_j3 at h
          refine Wp.seq ?_
          refine Wp.regionS (pOf []) (rhoOf []) (by kernel_rfl) ?_
          refine Runs.all (by kernel_rfl) ?_
          refine thenN ?_
          refine Wp.le (Le.of (s := ⟨[(2, .own 327681), (3, .t (.bool true))], [], [(327681, .live 5 1 (x18.map (eInt .u8)))]⟩) (mo := []) (mr := []) (by kernel_rfl) (by kernel_rfl) (by kernel_rfl) (by kernel_rfl)) ?_
          refine Wp.ret ?_
          have hr := Option.some.inj h
          subst hr
          exact RetK [.own 327681, .t (.bool true)] (.tup [.one (.ow 5 1 (x18.map (eInt .u8))), .one (.t (.bool true))]) [] (by kernel_rfl) (by kernel_rfl) (.refl _) .nil
        · refine Wp.seq ?_
          refine Wp.regionS (pOf []) (rhoOf []) (by kernel_rfl) ?_
          refine Runs.batch 1 (by kernel_rfl) ?_
          refine Runs.lenT (y := .own 1835008) (e := 5) (eInt .u8) (List.replicate (Int.toNat x6) (0 : Int)) 1 rfl rfl rfl (by kernel_rfl) (by kernel_rfl) (by kernel_rfl) (by kernel_rfl) (by kernel_rfl) ?_
          refine Runs.all (by kernel_rfl) ?_
          refine thenN ?_
          refine Wp.le (Le.of (s := ⟨[(0, .t (.int .i64 p0)), (2, .nil), (3, .t (.bool false)), (4, .t (.int .i64 x6)), (5, .own 1835008), (30, .t (.int .i64 (((List.replicate (Int.toNat x6) (0 : Int)).length : Int)))), (31, .t (.int .i64 0))], [], [(1835008, .live 5 1 ((List.replicate (Int.toNat x6) (0 : Int)).map (eInt .u8)))]⟩) (mo := []) (mr := []) (by kernel_rfl) (by kernel_rfl) (by kernel_rfl) (by kernel_rfl)) ?_
          refine Wp.block ?_
          refine Wp.loopF (α := Int × Int × (List Int) × Int) (fun a => ⟨[(0, .t (.int .i64 a.1)), (2, .nil), (3, .t (.bool false)), (4, .t (.int .i64 a.2.1)), (5, .own 327681), (30, .t (.int .i64 (((List.replicate (Int.toNat a.2.1) (0 : Int)).length : Int)))), (31, .t (.int .i64 a.2.2.2))], [], [(327681, .live 5 1 (a.2.2.1.map (eInt .u8)))]⟩) (fun k_impl_BytesOf_l4 a => impl_BytesOf_l4 u k_impl_BytesOf_l4 a.1 a.2.1 a.2.2.1 a.2.2.2 = some r) ?_ ?_ u (p0, x6, List.replicate (Int.toNat x6) (0 : Int), 0) h (Le.of (mo := []) (mr := [(327681, 1835008)]) (by kernel_rfl) (by kernel_rfl) (by kernel_rfl) (by kernel_rfl))
          · intro a h; unfold impl_BytesOf_l4 at h; cases h
          · rintro k_impl_BytesOf_l4 ⟨p0, x6, x12, x13⟩ h
            change impl_BytesOf_l4 u (k_impl_BytesOf_l4 + 1) p0 x6 x12 x13 = some r at h
            rw [impl_BytesOf_l4] at h
            refine Wp.seq ?_
            refine Wp.regionS (pOf []) (rhoOf []) (by kernel_rfl) ?_
            refine Runs.all (by kernel_rfl) ?_
            refine thenN ?_
            refine Wp.le (Le.of (s := ⟨[(0, .t (.int .i64 p0)), (2, .nil), (3, .t (.bool false)), (4, .t (.int .i64 x6)), (5, .own 327681), (30, .t (.int .i64 (((List.replicate (Int.toNat x6) (0 : Int)).length : Int)))), (31, .t (.int .i64 x13)), (32, .t (.bool (decide (x13 < (((List.replicate (Int.toNat x6) (0 : Int)).length : Int))))))], [], [(327681, .live 5 1 (x12.map (eInt .u8)))]⟩) (mo := []) (mr := []) (by kernel_rfl) (by kernel_rfl) (by kernel_rfl) (by kernel_rfl)) ?_
            refine Wp.seq ?_
            refine Wp.cond2 (b := decide (x13 < (((List.replicate (Int.toNat x6) (0 : Int)).length : Int)))) (by kernel_rfl) (fun hc => ?_) (fun hc => ?_)
            · have h := cond_t h hc
              refine Wp.skip ?_
              refine thenN ?_
              refine Wp.seq ?_
              refine Wp.block ?_
              refine Wp.seq ?_
              refine Wp.regionS (pOf []) (rhoOf []) (by kernel_rfl) ?_
              refine Runs.all (by kernel_rfl) ?_
              refine thenN ?_
              refine Wp.le (Le.of (s := ⟨[(0, .t (.int .i64 p0)), (2, .nil), (3, .t (.bool false)), (4, .t (.int .i64 x6)), (5, .own 327681), (6, .t (.int .i64 x13)), (30, .t (.int .i64 (((List.replicate (Int.toNat x6) (0 : Int)).length : Int)))), (31, .t (.int .i64 x13)), (32, .t (.bool (decide (x13 < (((List.replicate (Int.toNat x6) (0 : Int)).length : Int)))))), (33, .t (.int .i64 x13))], [], [(327681, .live 5 1 (x12.map (eInt .u8)))]⟩) (mo := []) (mr := []) (by kernel_rfl) (by kernel_rfl) (by kernel_rfl) (by kernel_rfl)) ?_
              refine Wp.regionS (pOf []) (rhoOf []) (by kernel_rfl) ?_
              refine Runs.batch 8 (by kernel_rfl) ?_
              obtain ⟨_, e_16, h⟩ := bind_some h
              refine Runs.num .shr (.int .i64 p0) (.int .i64 (bMul .i64 8 (bSub .i64 (bSub .i64 x6 1) x13))) (.int .i64 (bShr .i64 p0 (bMul .i64 8 (bSub .i64 (bSub .i64 x6 1) x13)))) rfl (by kernel_rfl) (by kernel_rfl) (by kernel_rfl) (by kernel_rfl) (bin_shr _ _ _ _ _ (chk_some e_16)) ?_
              refine Runs.batch 1 (by kernel_rfl) ?_
              obtain ⟨y17, e_y17, h⟩ := bind_some h
              refine Runs.idxO (e := 5) (e' := 5) (kk := .i64) (sz := 1) (eInt .u8) x12 x13 327681 rfl (by kernel_rfl) (by kernel_rfl) (by kernel_rfl) (by kernel_rfl) (by kernel_rfl) (by kernel_rfl) (by kernel_rfl) e_y17 ?_
              refine Runs.storeT (e := 5) (sz := 1) (m := 1) (eInt .u8) x12 327681 (Int.toNat x13) 0 (IntKind.wrap .u8 (bShr .i64 p0 (bMul .i64 8 (bSub .i64 (bSub .i64 x6 1) x13)))) (.t (.int .u8 (IntKind.wrap .u8 (bShr .i64 p0 (bMul .i64 8 (bSub .i64 (bSub .i64 x6 1) x13)))))) [.int .u8 (IntKind.wrap .u8 (bShr .i64 p0 (bMul .i64 8 (bSub .i64 (bSub .i64 x6 1) x13))))] rfl (by kernel_rfl) (by kernel_rfl) (by kernel_rfl) (by kernel_rfl) (by kernel_rfl) (by kernel_rfl) (by kernel_rfl) (by kernel_rfl) (idx_some e_y17).2 (by kernel_rfl) (by kernel_rfl) ?_
              refine Runs.done ?_
              refine blkN ?_
              refine thenN ?_
              refine Wp.regionS (pOf []) (rhoOf []) (by kernel_rfl) ?_
              refine Runs.all (by kernel_rfl) ?_
              refine thenN ?_
              exact ⟨(p0, x6, x12.set (Int.toNat x13) (IntKind.wrap .u8 (bShr .i64 p0 (bMul .i64 8 (bSub .i64 (bSub .i64 x6 1) x13)))), bAdd .i64 x13 1), h, Le.of (mo := []) (mr := []) (by kernel_rfl) (by kernel_rfl) (by kernel_rfl) (by kernel_rfl)⟩
            · have h := cond_f h hc
              refine Wp.exit ?_
              refine thenE ?_
              refine thenE ?_
              refine blkE ?_
              refine thenN ?_
              exact ⟨x12, h, Le.of (mo := []) (mr := []) (by kernel_rfl) (by kernel_rfl) (by kernel_rfl) (by kernel_rfl)⟩
    · refine Wp.regionS (pOf []) (rhoOf []) (by kernel_rfl) ?_
      refine Runs.batch 3 (by kernel_rfl) ?_
      rcases tf (decide (p0 < 1)) with hc | hc
      · have h := cond_t h hc
        refine Runs.known 20 (v := true) (by kernel_rfl) hc ?_
        refine Runs.all (by kernel_rfl) ?_
        refine thenN ?_
        exact ⟨(p0, x6, true), h, Le.of (mo := []) (mr := []) (by kernel_rfl) (by kernel_rfl) (by kernel_rfl) (by kernel_rfl)⟩
      · have h := cond_f h hc
        refine Runs.known 20 (v := false) (by kernel_rfl) hc ?_
        refine Runs.batch 3 (by kernel_rfl) ?_
        obtain ⟨_, e_7, h⟩ := bind_some h
        refine Runs.num .shr (.int .i64 p0) (.int .i64 (bMul .i64 8 x6)) (.int .i64 (bShr .i64 p0 (bMul .i64 8 x6))) rfl (by kernel_rfl) (by kernel_rfl) (by kernel_rfl) (by kernel_rfl) (bin_shr _ _ _ _ _ (chk_some e_7)) ?_
        refine Runs.all (by kernel_rfl) ?_
        refine thenN ?_
        exact ⟨(p0, x6, (bShr .i64 p0 (bMul .i64 8 x6)) != 1), h, Le.of (mo := []) (mr := []) (by kernel_rfl) (by kernel_rfl) (by kernel_rfl) (by kernel_rfl)⟩
  · refine Wp.block ?_
    refine Wp.loopF (α := Int × Int) (fun a => ⟨[(0, .t (.int .i64 a.1)), (2, .nil), (3, .t (.bool false)), (4, .t (.int .i64 a.2))], [], []⟩) (fun k_impl_BytesOf_l5 a => impl_BytesOf_l5 u k_impl_BytesOf_l5 a.1 a.2 = some r) ?_ ?_ u (p0, 0) h (Le.of (mo := []) (mr := []) (by kernel_rfl) (by kernel_rfl) (by kernel_rfl) (by kernel_rfl))
    · intro a h; unfold impl_BytesOf_l5 at h; cases h
    · rintro k_impl_BytesOf_l5 ⟨p0, x2⟩ h
      change impl_BytesOf_l5 u (k_impl_BytesOf_l5 + 1) p0 x2 = some r at h
      rw [impl_BytesOf_l5] at h
      refine Wp.seq ?_
      refine Wp.seqJ (α := Int × Int × Bool × Bool) (fun a => ⟨[(0, .t (.int .i64 a.1)), (2, .nil), (3, .t (.bool false)), (4, .t (.int .i64 a.2.1)), (7, .t (.int .i64 a.2.1)), (8, .t (.bool (decide (a.2.1 < 6)))), (9, .t (.bool a.2.2.1)), (15, .t (.bool a.2.2.2))], [], []⟩) (fun a => impl_BytesOf_j6 u (fun z0 z1 => impl_BytesOf_l5 u k_impl_BytesOf_l5 z0 z1) a.1 a.2.1 a.2.2.1 a.2.2.2 = some r) ?_ ?_
      · rintro ⟨p0, x2, x4, x5⟩ h
        change impl_BytesOf_j6 u (fun z0 z1 => impl_BytesOf_l5 u k_impl_BytesOf_l5 z0 z1) p0 x2 x4 x5 = some r at h
        unfold impl_BytesOf_j6 at h
        refine Wp.cond2 (b := x5) (by kernel_rfl) (fun hc => ?_) (fun hc => ?_)
        · have h := cond_t h hc
          refine Wp.skip ?_
          refine thenN ?_
          refine Wp.block ?_
          refine Wp.regionS (pOf []) (rhoOf []) (by kernel_rfl) ?_
          refine Runs.all (by kernel_rfl) ?_
          refine blkN ?_
          refine thenN ?_
          exact ⟨(p0, bAdd .i64 x2 1), h, Le.of (mo := []) (mr := []) (by kernel_rfl) (by kernel_rfl) (by kernel_rfl) (by kernel_rfl)⟩
        · have h := cond_f h hc
          refine Wp.exit ?_
          refine thenE ?_
          refine thenE ?_
          refine blkE ?_
          refine thenN ?_
          exact ⟨(p0, x2), h, Le.of (mo := []) (mr := []) (by kernel_rfl) (by kernel_rfl) (by kernel_rfl) (by kernel_rfl)⟩
      · refine Wp.regionS (pOf []) (rhoOf []) (by kernel_rfl) ?_
        refine Runs.batch 3 (by kernel_rfl) ?_
        rcases tf (decide (x2 < 6)) with hc | hc
        · have h := cond_t h hc
          refine Runs.known 9 (v := true) (by kernel_rfl) hc ?_
          refine Runs.batch 3 (by kernel_rfl) ?_
          obtain ⟨_, e_4, h⟩ := bind_some h
          refine Runs.num .shr (.int .i64 p0) (.int .i64 (bMul .i64 8 x2)) (.int .i64 (bShr .i64 p0 (bMul .i64 8 x2))) rfl (by kernel_rfl) (by kernel_rfl) (by kernel_rfl) (by kernel_rfl) (bin_shr _ _ _ _ _ (chk_some e_4)) ?_
          refine Runs.all (by kernel_rfl) ?_
          refine thenN ?_
          exact ⟨(p0, x2, true, decide ((bShr .i64 p0 (bMul .i64 8 x2)) > 1)), h, Le.of (mo := []) (mr := []) (by kernel_rfl) (by kernel_rfl) (by kernel_rfl) (by kernel_rfl)⟩
        · have h := cond_f h hc
          refine Runs.known 9 (v := false) (by kernel_rfl) hc ?_
          refine Runs.all (by kernel_rfl) ?_
          refine thenN ?_
          exact ⟨(p0, x2, false, false), h, Le.of (mo := []) (mr := []) (by kernel_rfl) (by kernel_rfl) (by kernel_rfl) (by kernel_rfl)⟩
theorem impl_ManOk_ok (u : Nat) (p0 : Manifest) (r : Bool) (h : impl_ManOk u p0 = some r) : CallOK Try.prog 143 [.agg [.t (.int .i64 p0.fGen), .t (.int .i64 p0.fSize), .t (.int .i64 p0.fLen), .t (.sl 2 (p0.fSums.map Sum.enc))]] (.one (.t (.bool r))) [] := by
  unfold impl_ManOk at h
  refine CallOK.of_bodyK (fn := Try.f143) (m := false) [.agg [.t (.int .i64 p0.fGen), .t (.int .i64 p0.fSize), .t (.int .i64 p0.fLen), .t (.sl 2 (p0.fSums.map Sum.enc))]] (by kernel_rfl) rfl (by kernel_rfl) (by kernel_rfl) (by kernel_rfl) (by kernel_rfl) (by kernel_rfl) ?_
  refine Wp.seq ?_
  refine Wp.regionS (pOf []) (rhoOf []) (by kernel_rfl) ?_
  refine Runs.all (by kernel_rfl) ?_
  refine thenN ?_
  refine Wp.le (Le.of (s := ⟨[(1, .obj 1 0), (2, .t (.bool false))], [(1, [.t (.int .i64 p0.fGen), .t (.int .i64 p0.fSize), .t (.int .i64 p0.fLen), .t (.sl 2 (p0.fSums.map Sum.enc))])], []⟩) (mo := []) (mr := []) (by kernel_rfl) (by kernel_rfl) (by kernel_rfl) (by kernel_rfl)) ?_
  refine Wp.seq ?_
  refine Wp.seq ?_
  refine Wp.regionS (pOf []) (rhoOf []) (by kernel_rfl) ?_
  refine Runs.batch 1 (by kernel_rfl) ?_
  obtain ⟨r1, e_r1, h⟩ := bind_some h
  refine Runs.callK false 10 176 [] [.agg [.t (.int .i64 p0.fGen), .t (.int .i64 p0.fSize), .t (.int .i64 p0.fLen), .t (.sl 2 (p0.fSums.map Sum.enc))]] [.agg [.t (.int .i64 p0.fGen), .t (.int .i64 p0.fSize), .t (.int .i64 p0.fLen), .t (.sl 2 (p0.fSums.map Sum.enc))]] (.one (.t (.bool r1))) [] rfl rfl (by kernel_rfl) (by kernel_rfl) (by kernel_rfl) (by kernel_rfl) (by kernel_rfl) (impl_isZeroMan_ok u p0 r1 e_r1) (by kernel_rfl) ?_
  refine Runs.done ?_
  refine thenN ?_
  refine Wp.le (Le.of (s := ⟨[(1, .obj 1 0), (2, .t (.bool false)), (10, .t (.bool r1))], [(1, [.t (.int .i64 p0.fGen), .t (.int .i64 p0.fSize), .t (.int .i64 p0.fLen), .t (.sl 2 (p0.fSums.map Sum.enc))])], []⟩) (mo := []) (mr := []) (by kernel_rfl) (by kernel_rfl) (by kernel_rfl) (by kernel_rfl)) ?_
  refine Wp.cond2 (b := r1) (by kernel_rfl) (fun hc => ?_) (fun hc => ?_)
  · have h := cond_t h hc
    refine Wp.seq ?_
    refine Wp.regionS (pOf []) (rhoOf []) (by kernel_rfl) ?_
    refine Runs.all (by kernel_rfl) ?_
    refine thenN ?_
    refine Wp.le (Le.of (s := ⟨[(1, .obj 1 0), (2, .t (.bool true))], [(1, [.t (.int .i64 p0.fGen), .t (.int .i64 p0.fSize), .t (.int .i64 p0.fLen), .t (.sl 2 (p0.fSums.map Sum.enc))])], []⟩) (mo := []) (mr := []) (by kernel_rfl) (by kernel_rfl) (by kernel_rfl) (by kernel_rfl)) ?_
    refine Wp.ret ?_
    refine thenR ?_
    have hr := Option.some.inj h
    subst hr
    exact RetK [.t (.bool true)] (.one (.t (.bool true))) [] (by kernel_rfl) (by kernel_rfl) (.refl _) .nil
  · have h := cond_f h hc
    refine Wp.skip ?_
    refine thenN ?_
    refine Wp.seq ?_
    refine Wp.seqJ (α := Bool × Manifest) (fun a => ⟨[(1, .obj 1 0), (2, .t (.bool false)), (33, .t (.bool a.1))], [(1, [.t (.int .i64 a.2.fGen), .t (.int .i64 a.2.fSize), .t (.int .i64 a.2.fLen), .t (.sl 2 (a.2.fSums.map Sum.enc))])], []⟩) (fun a => impl_ManOk_j1 u a.1 a.2 = some r) ?_ ?_
    · rintro ⟨x5, p0⟩ h
      change impl_ManOk_j1 u x5 p0 = some r at h
      unfold impl_ManOk_j1 at h
      refine Wp.cond2 (b := x5) (by kernel_rfl) (fun hc => ?_) (fun hc => ?_)
      · have h := cond_t h hc
        refine Wp.seq ?_
        refine Wp.regionS (pOf []) (rhoOf []) (by kernel_rfl) ?_
        refine Runs.all (by kernel_rfl) ?_
        refine thenN ?_
        refine Wp.le (Le.of (s := ⟨[(1, .obj 1 0), (2, .t (.bool false))], [(1, [.t (.int .i64 p0.fGen), .t (.int .i64 p0.fSize), .t (.int .i64 p0.fLen), .t (.sl 2 (p0.fSums.map Sum.enc))])], []⟩) (mo := []) (mr := []) (by kernel_rfl) (by kernel_rfl) (by kernel_rfl) (by kernel_rfl)) ?_
        refine Wp.ret ?_
        refine thenR ?_
        have hr := Option.some.inj h
        subst hr
        exact RetK [.t (.bool false)] (.one (.t (.bool false))) [] (by kernel_rfl) (by kernel_rfl) (.refl _) .nil
      · have h := cond_f h hc
        refine Wp.skip ?_
        refine thenN ?_
        refine Wp.seqJ (α := Unit) (fun a => ⟨[(2, .t (.bool false))], [], []⟩) (fun a => impl_ManOk_j2 u = some r) ?_ ?_
        · rintro ⟨⟩ h
          change impl_ManOk_j2 u = some r at h
          unfold impl_ManOk_j2 at h
          refine Wp.seq ?_
          refine Wp.regionS (pOf []) (rhoOf []) (by kernel_rfl) ?_
          refine Runs.all (by kernel_rfl) ?_
          refine thenN ?_
          refine Wp.le (Le.of (s := ⟨[(2, .t (.bool true))], [], []⟩) (mo := []) (mr := []) (by kernel_rfl) (by kernel_rfl) (by kernel_rfl) (by kernel_rfl)) ?_
          refine Wp.ret ?_
          have hr := Option.some.inj h
          subst hr
          exact RetK [.t (.bool true)] (.one (.t (.bool true))) [] (by kernel_rfl) (by kernel_rfl) (.refl _) .nil
        · refine Wp.seq ?_
          refine Wp.regionS (pOf []) (rhoOf []) (by kernel_rfl) ?_
          refine Runs.batch 2 (by kernel_rfl) ?_
          refine Runs.lenT (y := .t (.sl 2 (p0.fSums.map Sum.enc))) (e := 166) Sum.enc p0.fSums 2 rfl rfl rfl (by kernel_rfl) (by kernel_rfl) (by kernel_rfl) (by kernel_rfl) (by kernel_rfl) ?_
          refine Runs.all (by kernel_rfl) ?_
          refine thenN ?_
          refine Wp.le (Le.of (s := ⟨[(1, .obj 1 0), (2, .t (.bool false)), (35, .t (.sl 2 (p0.fSums.map Sum.enc))), (36, .t (.int .i64 ((p0.fSums.length : Int)))), (37, .t (.int .i64 0))], [(1, [.t (.int .i64 p0.fGen), .t (.int .i64 p0.fSize), .t (.int .i64 p0.fLen), .t (.sl 2 (p0.fSums.map Sum.enc))])], []⟩) (mo := []) (mr := []) (by kernel_rfl) (by kernel_rfl) (by kernel_rfl) (by kernel_rfl)) ?_
          refine Wp.block ?_
          refine Wp.loopF (α := Manifest × Int) (fun a => ⟨[(1, .obj 1 0), (2, .t (.bool false)), (35, .t (.sl 2 (a.1.fSums.map Sum.enc))), (36, .t (.int .i64 ((a.1.fSums.length : Int)))), (37, .t (.int .i64 a.2))], [(1, [.t (.int .i64 a.1.fGen), .t (.int .i64 a.1.fSize), .t (.int .i64 a.1.fLen), .t (.sl 2 (a.1.fSums.map Sum.enc))])], []⟩) (fun k_impl_ManOk_l3 a => impl_ManOk_l3 u k_impl_ManOk_l3 a.1 a.2 = some r) ?_ ?_ u (p0, 0) h (Le.of (mo := []) (mr := []) (by kernel_rfl) (by kernel_rfl) (by kernel_rfl) (by kernel_rfl))
          · intro a h; unfold impl_ManOk_l3 at h; cases h
          · rintro k_impl_ManOk_l3 ⟨p0, x7⟩ h
            change impl_ManOk_l3 u (k_impl_ManOk_l3 + 1) p0 x7 = some r at h
            rw [impl_ManOk_l3] at h
            refine Wp.seq ?_
            refine Wp.regionS (pOf []) (rhoOf []) (by kernel_rfl) ?_
            refine Runs.all (by kernel_rfl) ?_
            refine thenN ?_
            refine Wp.le (Le.of (s := ⟨[(1, .obj 1 0), (2, .t (.bool false)), (35, .t (.sl 2 (p0.fSums.map Sum.enc))), (36, .t (.int .i64 ((p0.fSums.length : Int)))), (37, .t (.int .i64 x7)), (38, .t (.bool (decide (x7 < ((p0.fSums.length : Int))))))], [(1, [.t (.int .i64 p0.fGen), .t (.int .i64 p0.fSize), .t (.int .i64 p0.fLen), .t (.sl 2 (p0.fSums.map Sum.enc))])], []⟩) (mo := []) (mr := []) (by kernel_rfl) (by kernel_rfl) (by kernel_rfl) (by kernel_rfl)) ?_
            refine Wp.seq ?_
            refine Wp.cond2 (b := decide (x7 < ((p0.fSums.length : Int)))) (by kernel_rfl) (fun hc => ?_) (fun hc => ?_)
            · have h := cond_t h hc
              refine Wp.skip ?_
              refine thenN ?_
              refine Wp.seq ?_
              refine Wp.block ?_
              refine Wp.seq ?_
              refine Wp.regionS (pOf []) (rhoOf []) (by kernel_rfl) ?_
              refine Runs.batch 1 (by kernel_rfl) ?_
              obtain ⟨y9, e_y9, h⟩ := bind_some h
              refine Runs.idxT (e := 166) (kk := .i64) (sz := 2) Sum.enc p0.fSums x7 rfl (by kernel_rfl) (by kernel_rfl) (by kernel_rfl) (by kernel_rfl) (by kernel_rfl) (by kernel_rfl) e_y9 ?_
              refine Runs.all (by kernel_rfl) ?_
              refine thenN ?_
              refine Wp.le (Le.of (s := ⟨[(1, .obj 1 0), (2, .t (.bool false)), (3, .t (.int .i64 x7)), (4, .obj 4 0), (35, .t (.sl 2 (p0.fSums.map Sum.enc))), (36, .t (.int .i64 ((p0.fSums.length : Int)))), (37, .t (.int .i64 x7)), (38, .t (.bool (decide (x7 < ((p0.fSums.length : Int)))))), (39, .t (.int .i64 x7)), (40, .fadr [.int .i64 y9.fW, .int .i64 y9.fS]), (41, .agg [.t (.int .i64 y9.fW), .t (.int .i64 y9.fS)])], [(1, [.t (.int .i64 p0.fGen), .t (.int .i64 p0.fSize), .t (.int .i64 p0.fLen), .t (.sl 2 (p0.fSums.map Sum.enc))]), (4, [.t (.int .i64 y9.fW), .t (.int .i64 y9.fS)])], []⟩) (mo := []) (mr := []) (by kernel_rfl) (by kernel_rfl) (by kernel_rfl) (by kernel_rfl)) ?_
              refine Wp.seq ?_
              refine Wp.regionS (pOf []) (rhoOf []) (by kernel_rfl) ?_
              refine Runs.batch 2 (by kernel_rfl) ?_
              obtain ⟨r10, e_r10, h⟩ := bind_some h
              refine Runs.callK false 45 177 [] [.t (.int .i64 y9.fS)] [.one (.t (.int .i64 y9.fS))] (.tup [.one (.ow 5 1 (r10.1.map (eInt .u8))), .one (.t (.bool r10.2))]) [] rfl rfl (by kernel_rfl) (by kernel_rfl) (by kernel_rfl) (by kernel_rfl) (by kernel_rfl) (impl_BytesOf_ok u y9.fS r10 e_r10) (by kernel_rfl) ?_
              refine Runs.all (by kernel_rfl) ?_
              refine thenN ?_
              refine Wp.le (Le.of (s := ⟨[(1, .obj 1 0), (2, .t (.bool false)), (3, .t (.int .i64 x7)), (4, .obj 4 0), (5, .own 2949120), (6, .t (.bool r10.2)), (35, .t (.sl 2 (p0.fSums.map Sum.enc))), (36, .t (.int .i64 ((p0.fSums.length : Int)))), (37, .t (.int .i64 x7)), (38, .t (.bool (decide (x7 < ((p0.fSums.length : Int)))))), (39, .t (.int .i64 x7)), (40, .fadr [.int .i64 y9.fW, .int .i64 y9.fS]), (41, .agg [.t (.int .i64 y9.fW), .t (.int .i64 y9.fS)]), (42, .tup [.own 2949120, .t (.bool r10.2)]), (43, .obj 4 1), (44, .t (.int .i64 y9.fS)), (45, .tup [.own 2949120, .t (.bool r10.2)]), (46, .own 2949120), (47, .t (.bool r10.2))], [(1, [.t (.int .i64 p0.fGen), .t (.int .i64 p0.fSize), .t (.int .i64 p0.fLen), .t (.sl 2 (p0.fSums.map Sum.enc))]), (4, [.t (.int .i64 y9.fW), .t (.int .i64 y9.fS)])], [(2949120, .live 5 1 (r10.1.map (eInt .u8)))]⟩) (mo := []) (mr := []) (by kernel_rfl) (by kernel_rfl) (by kernel_rfl) (by kernel_rfl)) ?_
              refine Wp.seq ?_
              refine Wp.regionS (pOf []) (rhoOf []) (by kernel_rfl) ?_
              refine Runs.batch 5 (by kernel_rfl) ?_
              obtain ⟨r11, e_r11, h⟩ := bind_some h
              refine Runs.callK false 54 106 [] [.t (.int .i64 p0.fSize), .t (.int .i64 p0.fLen), .t (.int .i64 x7)] [.one (.t (.int .i64 p0.fSize)), .one (.t (.int .i64 p0.fLen)), .one (.t (.int .i64 x7))] (.tup [.one (.t (.int .i64 r11.1)), .one (.t (.int .i64 r11.2))]) [] rfl rfl (by kernel_rfl) (by kernel_rfl) (by kernel_rfl) (by kernel_rfl) (by kernel_rfl) (impl_SpanOf_ok u p0.fSize p0.fLen x7 r11 e_r11) (by kernel_rfl) ?_
              refine Runs.all (by kernel_rfl) ?_
              refine thenN ?_
              refine Wp.le (Le.of (s := ⟨[(1, .obj 1 0), (2, .t (.bool false)), (3, .t (.int .i64 x7)), (4, .obj 4 0), (5, .own 2949120), (6, .t (.bool r10.2)), (8, .t (.int .i64 r11.2)), (35, .t (.sl 2 (p0.fSums.map Sum.enc))), (36, .t (.int .i64 ((p0.fSums.length : Int)))), (37, .t (.int .i64 x7)), (38, .t (.bool (decide (x7 < ((p0.fSums.length : Int)))))), (39, .t (.int .i64 x7)), (40, .fadr [.int .i64 y9.fW, .int .i64 y9.fS]), (41, .agg [.t (.int .i64 y9.fW), .t (.int .i64 y9.fS)]), (42, .tup [.own 2949120, .t (.bool r10.2)]), (43, .obj 4 1), (44, .t (.int .i64 y9.fS)), (45, .tup [.own 2949120, .t (.bool r10.2)]), (46, .own 2949120), (47, .t (.bool r10.2)), (48, .tup [.t (.int .i64 r11.1), .t (.int .i64 r11.2)]), (49, .obj 1 1), (50, .t (.int .i64 p0.fSize)), (51, .obj 1 2), (52, .t (.int .i64 p0.fLen)), (53, .t (.int .i64 x7)), (54, .tup [.t (.int .i64 r11.1), .t (.int .i64 r11.2)]), (55, .t (.int .i64 r11.1)), (56, .t (.int .i64 r11.2))], [(1, [.t (.int .i64 p0.fGen), .t (.int .i64 p0.fSize), .t (.int .i64 p0.fLen), .t (.sl 2 (p0.fSums.map Sum.enc))]), (4, [.t (.int .i64 y9.fW), .t (.int .i64 y9.fS)])], [(2949120, .live 5 1 (r10.1.map (eInt .u8)))]⟩) (mo := []) (mr := []) (by kernel_rfl) (by kernel_rfl) (by kernel_rfl) (by kernel_rfl)) ?_
              refine Wp.seqJ (α := Int × ((List Int) × Bool) × (Int × Int) × Manifest × Sum × Bool × Bool × Bool × Bool) (fun a => ⟨[(1, .obj 1 0), (2, .t (.bool false)), (3, .t (.int .i64 a.1)), (4, .obj 4 0), (5, .own 327681), (6, .t (.bool a.2.1.2)), (8, .t (.int .i64 a.2.2.1.2)), (35, .t (.sl 2 (a.2.2.2.1.fSums.map Sum.enc))), (36, .t (.int .i64 ((a.2.2.2.1.fSums.length : Int)))), (37, .t (.int .i64 a.1)), (38, .t (.bool (decide (a.1 < ((a.2.2.2.1.fSums.length : Int)))))), (39, .t (.int .i64 a.1)), (40, .fadr [.int .i64 a.2.2.2.2.1.fW, .int .i64 a.2.2.2.2.1.fS]), (41, .agg [.t (.int .i64 a.2.2.2.2.1.fW), .t (.int .i64 a.2.2.2.2.1.fS)]), (43, .obj 4 1), (44, .t (.int .i64 a.2.2.2.2.1.fS)), (46, .own 327681), (47, .t (.bool a.2.1.2)), (49, .obj 1 1), (50, .t (.int .i64 a.2.2.2.1.fSize)), (51, .obj 1 2), (52, .t (.int .i64 a.2.2.2.1.fLen)), (53, .t (.int .i64 a.1)), (55, .t (.int .i64 a.2.2.1.1)), (56, .t (.int .i64 a.2.2.1.2)), (57, .t (.bool a.2.1.2)), (58, .t (.bool (!a.2.1.2))), (59, .t (.bool a.2.2.2.2.2.1)), (64, .t (.bool a.2.2.2.2.2.2.1)), (65, .t (.bool a.2.2.2.2.2.2.2.1)), (71, .t (.bool a.2.2.2.2.2.2.2.2))], [(1, [.t (.int .i64 a.2.2.2.1.fGen), .t (.int .i64 a.2.2.2.1.fSize), .t (.int .i64 a.2.2.2.1.fLen), .t (.sl 2 (a.2.2.2.1.fSums.map Sum.enc))]), (4, [.t (.int .i64 a.2.2.2.2.1.fW), .t (.int .i64 a.2.2.2.2.1.fS)])], [(327681, .live 5 1 (a.2.1.1.map (eInt .u8)))]⟩) (fun a => impl_ManOk_j4 u (fun z0 z1 => impl_ManOk_l3 u k_impl_ManOk_l3 z0 z1) a.1 a.2.1 a.2.2.1 a.2.2.2.1 a.2.2.2.2.1 a.2.2.2.2.2.1 a.2.2.2.2.2.2.1 a.2.2.2.2.2.2.2.1 a.2.2.2.2.2.2.2.2 = some r) ?_ ?_
              · rintro ⟨x7, r10, r11, p0, y9, x13, x14, x15, x16⟩ h
                change impl_ManOk_j4 u (fun z0 z1 => impl_ManOk_l3 u k_impl_ManOk_l3 z0 z1) x7 r10 r11 p0 y9 x13 x14 x15 x16 = some r at h
                unfold impl_ManOk_j4 at h
                refine Wp.cond2 (b := x16) (by kernel_rfl) (fun hc => ?_) (fun hc => ?_)
                · have h := cond_t h hc
                  refine Wp.seq ?_
                  refine Wp.regionS (pOf []) (rhoOf []) (by kernel_rfl) ?_
                  refine Runs.all (by kernel_rfl) ?_
                  refine thenN ?_
                  refine Wp.le (Le.of (s := ⟨[(1, .obj 1 0), (2, .t (.bool false)), (3, .t (.int .i64 x7)), (4, .obj 4 0), (5, .own 327681), (6, .t (.bool r10.2)), (8, .t (.int .i64 r11.2)), (35, .t (.sl 2 (p0.fSums.map Sum.enc))), (36, .t (.int .i64 ((p0.fSums.length : Int)))), (37, .t (.int .i64 x7)), (38, .t (.bool (decide (x7 < ((p0.fSums.length : Int)))))), (39, .t (.int .i64 x7)), (40, .fadr [.int .i64 y9.fW, .int .i64 y9.fS]), (41, .agg [.t (.int .i64 y9.fW), .t (.int .i64 y9.fS)]), (43, .obj 4 1), (44, .t (.int .i64 y9.fS)), (46, .own 327681), (47, .t (.bool r10.2)), (49, .obj 1 1), (50, .t (.int .i64 p0.fSize)), (51, .obj 1 2), (52, .t (.int .i64 p0.fLen)), (53, .t (.int .i64 x7)), (55, .t (.int .i64 r11.1)), (56, .t (.int .i64 r11.2)), (57, .t (.bool r10.2)), (58, .t (.bool (!r10.2))), (59, .t (.bool x13)), (64, .t (.bool x14)), (65, .t (.bool x15)), (71, .t (.bool x16))], [(1, [.t (.int .i64 p0.fGen), .t (.int .i64 p0.fSize), .t (.int .i64 p0.fLen), .t (.sl 2 (p0.fSums.map Sum.enc))]), (4, [.t (.int .i64 y9.fW), .t (.int .i64 y9.fS)])], [(327681, .live 5 1 (r10.1.map (eInt .u8)))]⟩) (mo := []) (mr := []) (by kernel_rfl) (by kernel_rfl) (by kernel_rfl) (by kernel_rfl)) ?_
                  refine Wp.ret ?_
                  refine blkR ?_
                  refine thenR ?_
                  refine thenR ?_
                  refine blkR ?_
                  refine thenR ?_
                  have hr := Option.some.inj h
                  subst hr
                  exact RetK [.t (.bool false)] (.one (.t (.bool false))) [] (by kernel_rfl) (by kernel_rfl) (.refl _) .nil
                · have h := cond_f h hc
                  refine Wp.skip ?_
                  refine blkN ?_
                  refine thenN ?_
                  refine Wp.regionS (pOf []) (rhoOf []) (by kernel_rfl) ?_
                  refine Runs.all (by kernel_rfl) ?_
                  refine thenN ?_
                  exact ⟨(p0, bAdd .i64 x7 1), h, Le.of (mo := []) (mr := []) (by kernel_rfl) (by kernel_rfl) (by kernel_rfl) (by kernel_rfl)⟩
              · refine Wp.regionA (pOf []) (rhoOf [(4, .obj 4), (5, .own 45), (6, .frz), (8, .frz), (57, .frz), (58, .frz), (59, .frz), (60, .own 45), (61, .frz), (62, .frz), (64, .frz), (65, .frz), (66, .own 45), (67, .frz), (68, .obj 4), (69, .frz)]) (by kernel_rfl) (by kernel_rfl) ?_
                refine Runs.batch 3 (by kernel_rfl) ?_
                rcases tf (!r10.2) with hc | hc
                · have h := cond_t h hc
                  refine Runs.known 59 (v := true) (by kernel_rfl) hc ?_
                  refine Runs.all (by kernel_rfl) ?_
                  refine thenN ?_
                  exact ⟨(x7, r10, r11, p0, y9, true, true, true, true), h, Le.of (mo := []) (mr := [(327681, 2949120)]) (by kernel_rfl) (by kernel_rfl) (by kernel_rfl) (by kernel_rfl)⟩
                · have h := cond_f h hc
                  refine Runs.known 59 (v := false) (by kernel_rfl) hc ?_
                  refine Runs.batch 1 (by kernel_rfl) ?_
                  refine Runs.lenT (y := .own 2949120) (e := 5) (eInt .u8) r10.1 1 rfl rfl rfl (by kernel_rfl) (by kernel_rfl) (by kernel_rfl) (by kernel_rfl) (by kernel_rfl) ?_
                  refine Runs.batch 4 (by kernel_rfl) ?_
                  rcases tf (((r10.1.length : Int)) != r11.2) with hc | hc
                  · have h := cond_t h hc
                    refine Runs.known 65 (v := true) (by kernel_rfl) hc ?_
                    refine Runs.all (by kernel_rfl) ?_
                    refine thenN ?_
                    exact ⟨(x7, r10, r11, p0, y9, false, ((r10.1.length : Int)) != r11.2, true, true), h, Le.of (mo := []) (mr := [(327681, 2949120)]) (by kernel_rfl) (by kernel_rfl) (by kernel_rfl) (by kernel_rfl)⟩
                  · have h := cond_f h hc
                    refine Runs.known 65 (v := false) (by kernel_rfl) hc ?_
                    refine Runs.batch 1 (by kernel_rfl) ?_
                    obtain ⟨r12, e_r12, h⟩ := bind_some h
                    refine Runs.callBK 67 175 [] [.own 2949120] [.one (.t (.sl 1 (r10.1.map (eInt .u8))))] (.one (.t (.int .i64 r12))) rfl rfl (by kernel_rfl) (by kernel_rfl) (by kernel_rfl) (by kernel_rfl) (by kernel_rfl) (impl_WeakOf_ok u r10.1 r12 e_r12) (by simp [V.plain, V.plains, C.plain, T.sc]) (by kernel_rfl) ?_
                    refine Runs.all (by kernel_rfl) ?_
                    refine thenN ?_
                    exact ⟨(x7, r10, r11, p0, y9, false, ((r10.1.length : Int)) != r11.2, false, r12 != y9.fW), h, Le.of (mo := []) (mr := [(327681, 2949120)]) (by kernel_rfl) (by kernel_rfl) (by kernel_rfl) (by kernel_rfl)⟩
            · have h := cond_f h hc
              refine Wp.exit ?_
              refine thenE ?_
              refine thenE ?_
              refine blkE ?_
              refine thenN ?_
              exact ⟨(), h, Le.of (mo := []) (mr := []) (by kernel_rfl) (by kernel_rfl) (by kernel_rfl) (by kernel_rfl)⟩
    · refine Wp.regionA (pOf []) (rhoOf [(1, .obj 1), (11, .obj 1), (12, .frz), (13, .frz), (14, .frz), (15, .frz), (16, .obj 1), (17, .frz), (18, .obj 1), (19, .frz), (20, .frz), (22, .frz), (23, .frz), (24, .obj 1), (25, .frz), (26, .frz), (27, .obj 1), (28, .frz), (29, .obj 1), (30, .frz), (31, .frz)]) (by kernel_rfl) (by kernel_rfl) ?_
      refine Runs.batch 2 (by kernel_rfl) ?_
      obtain ⟨r2, e_r2, h⟩ := bind_some h
      refine Runs.callK false 13 41 [] [.t (.int .i64 p0.fGen), .t (.int .i64 1), .t (.int .i64 1000000)] [.one (.t (.int .i64 p0.fGen)), .one (.t (.int .i64 1)), .one (.t (.int .i64 1000000))] (.one (.t (.bool r2))) [] rfl rfl (by kernel_rfl) (by kernel_rfl) (by kernel_rfl) (by kernel_rfl) (by kernel_rfl) (impl_within_ok u p0.fGen 1 1000000 r2 e_r2) (by kernel_rfl) ?_
      refine Runs.batch 2 (by kernel_rfl) ?_
      rcases tf (!r2) with hc | hc
      · have h := cond_t h hc
        refine Runs.known 15 (v := true) (by kernel_rfl) hc ?_
        refine Runs.all (by kernel_rfl) ?_
        refine thenN ?_
        exact ⟨(true, p0), h, Le.of (mo := []) (mr := []) (by kernel_rfl) (by kernel_rfl) (by kernel_rfl) (by kernel_rfl)⟩
      · have h := cond_f h hc
        refine Runs.known 15 (v := false) (by kernel_rfl) hc ?_
        refine Runs.batch 4 (by kernel_rfl) ?_
        obtain ⟨r3, e_r3, h⟩ := bind_some h
        refine Runs.callK false 20 48 [] [.t (.int .i64 p0.fSize), .t (.int .i64 p0.fLen)] [.one (.t (.int .i64 p0.fSize)), .one (.t (.int .i64 p0.fLen))] (.one (.t (.bool r3))) [] rfl rfl (by kernel_rfl) (by kernel_rfl) (by kernel_rfl) (by kernel_rfl) (by kernel_rfl) (impl_SizeOk_ok u p0.fSize p0.fLen r3 e_r3) (by kernel_rfl) ?_
        refine Runs.batch 3 (by kernel_rfl) ?_
        rcases tf (!r3) with hc | hc
        · have h := cond_t h hc
          refine Runs.known 23 (v := true) (by kernel_rfl) hc ?_
          refine Runs.all (by kernel_rfl) ?_
          refine thenN ?_
          exact ⟨(true, p0), h, Le.of (mo := []) (mr := []) (by kernel_rfl) (by kernel_rfl) (by kernel_rfl) (by kernel_rfl)⟩
        · have h := cond_f h hc
          refine Runs.known 23 (v := false) (by kernel_rfl) hc ?_
          refine Runs.batch 2 (by kernel_rfl) ?_
          refine Runs.lenT (y := .t (.sl 2 (p0.fSums.map Sum.enc))) (e := 166) Sum.enc p0.fSums 2 rfl rfl rfl (by kernel_rfl) (by kernel_rfl) (by kernel_rfl) (by kernel_rfl) (by kernel_rfl) ?_
          refine Runs.batch 4 (by kernel_rfl) ?_
          obtain ⟨r4, e_r4, h⟩ := bind_some h
          refine Runs.callK false 31 74 [] [.t (.int .i64 p0.fSize), .t (.int .i64 p0.fLen)] [.one (.t (.int .i64 p0.fSize)), .one (.t (.int .i64 p0.fLen))] (.one (.t (.int .i64 r4))) [] rfl rfl (by kernel_rfl) (by kernel_rfl) (by kernel_rfl) (by kernel_rfl) (by kernel_rfl) (impl_Blocks_ok u p0.fSize p0.fLen r4 e_r4) (by kernel_rfl) ?_
          refine Runs.all (by kernel_rfl) ?_
          refine thenN ?_
          exact ⟨(((p0.fSums.length : Int)) != r4, p0), h, Le.of (mo := []) (mr := []) (by kernel_rfl) (by kernel_rfl) (by kernel_rfl) (by kernel_rfl)⟩
theorem impl_appendVar_ok (u : Nat) (p0 : List Int) (p1 : Int) (r : (List Int)) (h : impl_appendVar u p0 p1 = some r) : CallOK Try.prog 146 [.one (.ow 5 1 (p0.map (eInt .u8))), .one (.t (.int .i64 p1))] (.one (.ow 5 1 (r.map (eInt .u8)))) [] := by
  unfold impl_appendVar at h
  refine CallOK.of_bodyK (fn := Try.f146) (m := true) [.own 58982400, .t (.int .i64 p1)] (by kernel_rfl) rfl (by kernel_rfl) (by kernel_rfl) (by kernel_rfl) (by kernel_rfl) (by kernel_rfl) ?_
  refine Wp.seq ?_
  refine Wp.regionS (pOf []) (rhoOf []) (by kernel_rfl) ?_
  refine Runs.all (by kernel_rfl) ?_
  refine thenN ?_
  refine Wp.le (Le.of (s := ⟨[(0, .own 58982400), (1, .t (.int .i64 p1)), (4, .nil)], [], [(58982400, .live 5 1 (p0.map (eInt .u8)))]⟩) (mo := []) (mr := []) (by kernel_rfl) (by kernel_rfl) (by kernel_rfl) (by kernel_rfl)) ?_
  refine Wp.seqJ (α := (List Int) × Int) (fun a => ⟨[(0, .own 1), (1, .t (.int .i64 a.2)), (4, .nil)], [], [(1, .live 5 1 (a.1.map (eInt .u8)))]⟩) (fun a => impl_appendVar_j1 u a.1 a.2 = some r) ?_ ?_
  · rintro ⟨x7, x8⟩ h
    change impl_appendVar_j1 u x7 x8 = some r at h
    unfold impl_appendVar_j1 at h
    refine Wp.seq ?_
    refine Wp.regionS (pOf []) (rhoOf []) (by kernel_rfl) ?_
    refine Runs.batch 4 (by kernel_rfl) ?_
    obtain ⟨_, e_9, h⟩ := bind_some h
    refine Runs.appT (y := .own 1179648) (eInt .u8) 19 1 5 1 1 1 x7 ([IntKind.wrap .u8 x8]) rfl rfl rfl rfl (by kernel_rfl) (by kernel_rfl) (by kernel_rfl) (by kernel_rfl) (by kernel_rfl) (by kernel_rfl) (.inl rfl) (by kernel_rfl) (of_decide_eq_true (chk_some e_9)) (by kernel_rfl) (by kernel_rfl) ?_
    refine Runs.all (by kernel_rfl) ?_
    refine thenN ?_
    refine Wp.le (Le.of (s := ⟨[(4, .own 1245184)], [], [(1245184, .live 5 1 ((x7 ++ ([IntKind.wrap .u8 x8])).map (eInt .u8)))]⟩) (mo := []) (mr := []) (by kernel_rfl) (by kernel_rfl) (by kernel_rfl) (by kernel_rfl)) ?_
    refine Wp.ret ?_
    have hr := Option.some.inj h
    subst hr
    exact RetK [.own 1245184] (.one (.ow 5 1 ((x7 ++ ([IntKind.wrap .u8 x8])).map (eInt .u8)))) [] (by kernel_rfl) (by kernel_rfl) (.refl _) .nil
  · refine Wp.block ?_
    refine Wp.loopF (α := (List Int) × Int) (fun a => ⟨[(0, .own 1), (1, .t (.int .i64 a.2)), (4, .nil)], [], [(1, .live 5 1 (a.1.map (eInt .u8)))]⟩) (fun k_impl_appendVar_l2 a => impl_appendVar_l2 u k_impl_appendVar_l2 a.1 a.2 = some r) ?_ ?_ u (p0, p1) h (Le.of (mo := []) (mr := [(1, 58982400)]) (by kernel_rfl) (by kernel_rfl) (by kernel_rfl) (by kernel_rfl))
    · intro a h; unfold impl_appendVar_l2 at h; cases h
    · rintro k_impl_appendVar_l2 ⟨x3, x4⟩ h
      change impl_appendVar_l2 u (k_impl_appendVar_l2 + 1) x3 x4 = some r at h
      rw [impl_appendVar_l2] at h
      refine Wp.seq ?_
      refine Wp.seq ?_
      refine Wp.regionS (pOf []) (rhoOf []) (by kernel_rfl) ?_
      refine Runs.all (by kernel_rfl) ?_
      refine thenN ?_
      refine Wp.le (Le.of (s := ⟨[(0, .own 1), (1, .t (.int .i64 x4)), (4, .nil), (5, .t (.int .i64 x4)), (6, .t (.bool (decide (x4 ≥ 128))))], [], [(1, .live 5 1 (x3.map (eInt .u8)))]⟩) (mo := []) (mr := []) (by kernel_rfl) (by kernel_rfl) (by kernel_rfl) (by kernel_rfl)) ?_
      refine Wp.cond2 (b := decide (x4 ≥ 128)) (by kernel_rfl) (fun hc => ?_) (fun hc => ?_)
      · have h := cond_t h hc
        refine Wp.skip ?_
        refine thenN ?_
        refine Wp.block ?_
        refine Wp.seq ?_
        refine Wp.regionS (pOf []) (rhoOf []) (by kernel_rfl) ?_
        refine Runs.batch 5 (by kernel_rfl) ?_
        obtain ⟨_, e_7, h⟩ := bind_some h
        refine Runs.appT (y := .own 720896) (eInt .u8) 12 1 5 1 1 1 x3 ([bOr .u8 (IntKind.wrap .u8 x4) 128]) rfl rfl rfl rfl (by kernel_rfl) (by kernel_rfl) (by kernel_rfl) (by kernel_rfl) (by kernel_rfl) (by kernel_rfl) (.inl rfl) (by kernel_rfl) (of_decide_eq_true (chk_some e_7)) (by kernel_rfl) (by kernel_rfl) ?_
        refine Runs.all (by kernel_rfl) ?_
        refine thenN ?_
        refine Wp.le (Le.of (s := ⟨[(0, .own 786432), (1, .t (.int .i64 x4)), (4, .nil), (5, .t (.int .i64 x4)), (6, .t (.bool (decide (x4 ≥ 128)))), (7, .own 1), (8, .t (.int .i64 x4)), (9, .t (.int .u8 (IntKind.wrap .u8 x4))), (10, .t (.int .u8 (bOr .u8 (IntKind.wrap .u8 x4) 128))), (11, .own 720896), (12, .own 786432)], [], [(1, .gone), (720896, .live 5 1 (([bOr .u8 (IntKind.wrap .u8 x4) 128]).map (eInt .u8))), (786432, .live 5 1 ((x3 ++ ([bOr .u8 (IntKind.wrap .u8 x4) 128])).map (eInt .u8)))]⟩) (mo := []) (mr := []) (by kernel_rfl) (by kernel_rfl) (by kernel_rfl) (by kernel_rfl)) ?_
        refine Wp.regionS (pOf []) (rhoOf []) (by kernel_rfl) ?_
        refine Runs.all (by kernel_rfl) ?_
        refine blkN ?_
        refine thenN ?_
        exact ⟨(x3 ++ ([bOr .u8 (IntKind.wrap .u8 x4) 128]), bShr .i64 x4 7), h, Le.of (mo := []) (mr := [(1, 786432)]) (by kernel_rfl) (by kernel_rfl) (by kernel_rfl) (by kernel_rfl)⟩
      · have h := cond_f h hc
        refine Wp.exit ?_
        refine thenE ?_
        refine thenE ?_
        refine blkE ?_
        refine thenN ?_
        exact ⟨(x3, x4), h, Le.of (mo := []) (mr := []) (by kernel_rfl) (by kernel_rfl) (by kernel_rfl) (by kernel_rfl)⟩
theorem impl_PutVar_ok (u : Nat) (p0 : List Int) (p1 : Int) (r : (List Int)) (h : impl_PutVar u p0 p1 = some r) : CallOK Try.prog 145 [.one (.t (.sl 1 (p0.map (eInt .u8)))), .one (.t (.int .i64 p1))] (.one (.ow 5 1 (r.map (eInt .u8)))) [] := by
  unfold impl_PutVar at h
  refine CallOK.of_bodyK (fn := Try.f145) (m := true) [.t (.sl 1 (p0.map (eInt .u8))), .t (.int .i64 p1)] (by kernel_rfl) rfl (by kernel_rfl) (by kernel_rfl) (by kernel_rfl) (by kernel_rfl) (by kernel_rfl) ?_
  refine Wp.seq ?_
  refine Wp.regionS (pOf []) (rhoOf []) (by kernel_rfl) ?_
  refine Runs.all (by kernel_rfl) ?_
  refine thenN ?_
  refine Wp.le (Le.of (s := ⟨[(0, .t (.sl 1 (p0.map (eInt .u8)))), (1, .t (.int .i64 p1)), (4, .nil)], [], []⟩) (mo := []) (mr := []) (by kernel_rfl) (by kernel_rfl) (by kernel_rfl) (by kernel_rfl)) ?_
  refine Wp.seq ?_
  refine Wp.regionS (pOf []) (rhoOf []) (by kernel_rfl) ?_
  refine Runs.batch 1 (by kernel_rfl) ?_
  obtain ⟨r1, e_r1, h⟩ := bind_some h
  refine Runs.callK false 7 144 [] [.t (.sl 1 (p0.map (eInt .u8)))] [.one (.t (.sl 1 (p0.map (eInt .u8))))] (.one (.ow 5 1 (r1.map (eInt .u8)))) [] rfl rfl (by kernel_rfl) (by kernel_rfl) (by kernel_rfl) (by kernel_rfl) (by kernel_rfl) (impl_cloned_ok u p0 r1 e_r1) (by kernel_rfl) ?_
  refine Runs.all (by kernel_rfl) ?_
  refine thenN ?_
  refine Wp.le (Le.of (s := ⟨[(1, .t (.int .i64 p1)), (4, .nil), (5, .own 458752)], [], [(458752, .live 5 1 (r1.map (eInt .u8)))]⟩) (mo := []) (mr := []) (by kernel_rfl) (by kernel_rfl) (by kernel_rfl) (by kernel_rfl)) ?_
  refine Wp.seq ?_
  refine Wp.seq ?_
  refine Wp.regionS (pOf []) (rhoOf []) (by kernel_rfl) ?_
  refine Runs.batch 1 (by kernel_rfl) ?_
  obtain ⟨r2, e_r2, h⟩ := bind_some h
  refine Runs.callK false 9 41 [] [.t (.int .i64 p1), .t (.int .i64 0), .t (.int .i64 1000000000000)] [.one (.t (.int .i64 p1)), .one (.t (.int .i64 0)), .one (.t (.int .i64 1000000000000))] (.one (.t (.bool r2))) [] rfl rfl (by kernel_rfl) (by kernel_rfl) (by kernel_rfl) (by kernel_rfl) (by kernel_rfl) (impl_within_ok u p1 0 1000000000000 r2 e_r2) (by kernel_rfl) ?_
  refine Runs.all (by kernel_rfl) ?_
  refine thenN ?_
  refine Wp.le (Le.of (s := ⟨[(1, .t (.int .i64 p1)), (4, .nil), (5, .own 458752), (10, .t (.bool (!r2)))], [], [(458752, .live 5 1 (r1.map (eInt .u8)))]⟩) (mo := []) (mr := []) (by kernel_rfl) (by kernel_rfl) (by kernel_rfl) (by kernel_rfl)) ?_
  refine Wp.cond2 (b := !r2) (by kernel_rfl) (fun hc => ?_) (fun hc => ?_)
  · have h := cond_t h hc
    refine Wp.seq ?_
    refine Wp.regionS (pOf []) (rhoOf []) (by kernel_rfl) ?_
    refine Runs.all (by kernel_rfl) ?_
    refine thenN ?_
    refine Wp.le (Le.of (s := ⟨[(1, .t (.int .i64 p1)), (4, .own 458752), (5, .own 458752)], [], [(458752, .live 5 1 (r1.map (eInt .u8)))]⟩) (mo := []) (mr := []) (by kernel_rfl) (by kernel_rfl) (by kernel_rfl) (by kernel_rfl)) ?_
    refine Wp.ret ?_
    refine thenR ?_
    have hr := Option.some.inj h
    subst hr
    exact RetK [.own 458752] (.one (.ow 5 1 (r1.map (eInt .u8)))) [] (by kernel_rfl) (by kernel_rfl) (.refl _) .nil
  · have h := cond_f h hc
    refine Wp.skip ?_
    refine thenN ?_
    refine Wp.seq ?_
    refine Wp.regionS (pOf []) (rhoOf []) (by kernel_rfl) ?_
    refine Runs.batch 2 (by kernel_rfl) ?_
    obtain ⟨r3, e_r3, h⟩ := bind_some h
    refine Runs.callK true 14 146 [] [.own 458752, .t (.int .i64 p1)] [.one (.ow 5 1 (r1.map (eInt .u8))), .one (.t (.int .i64 p1))] (.one (.ow 5 1 (r3.map (eInt .u8)))) [] rfl rfl (by kernel_rfl) (by kernel_rfl) (by kernel_rfl) (by kernel_rfl) (by kernel_rfl) (impl_appendVar_ok u r1 p1 r3 e_r3) (by kernel_rfl) ?_
    refine Runs.all (by kernel_rfl) ?_
    refine thenN ?_
    refine Wp.le (Le.of (s := ⟨[(4, .own 917504)], [], [(917504, .live 5 1 (r3.map (eInt .u8)))]⟩) (mo := []) (mr := []) (by kernel_rfl) (by kernel_rfl) (by kernel_rfl) (by kernel_rfl)) ?_
    refine Wp.ret ?_
    have hr := Option.some.inj h
    subst hr
    exact RetK [.own 917504] (.one (.ow 5 1 (r3.map (eInt .u8)))) [] (by kernel_rfl) (by kernel_rfl) (.refl _) .nil
theorem impl_PutMan_ok (u : Nat) (p0 : List Int) (p1 : Manifest) (r : (List Int)) (h : impl_PutMan u p0 p1 = some r) : CallOK Try.prog 103 [.one (.t (.sl 1 (p0.map (eInt .u8)))), .agg [.t (.int .i64 p1.fGen), .t (.int .i64 p1.fSize), .t (.int .i64 p1.fLen), .t (.sl 2 (p1.fSums.map Sum.enc))]] (.one (.ow 5 1 (r.map (eInt .u8)))) [] := by
  unfold impl_PutMan at h
  refine CallOK.of_bodyK (fn := Try.f103) (m := true) [.t (.sl 1 (p0.map (eInt .u8))), .agg [.t (.int .i64 p1.fGen), .t (.int .i64 p1.fSize), .t (.int .i64 p1.fLen), .t (.sl 2 (p1.fSums.map Sum.enc))]] (by kernel_rfl) rfl (by kernel_rfl) (by kernel_rfl) (by kernel_rfl) (by kernel_rfl) (by kernel_rfl) ?_
  refine Wp.seq ?_
  refine Wp.regionS (pOf []) (rhoOf []) (by kernel_rfl) ?_
  refine Runs.all (by kernel_rfl) ?_
  refine thenN ?_
  refine Wp.le (Le.of (s := ⟨[(0, .t (.sl 1 (p0.map (eInt .u8)))), (3, .obj 3 0), (4, .nil)], [(3, [.t (.int .i64 p1.fGen), .t (.int .i64 p1.fSize), .t (.int .i64 p1.fLen), .t (.sl 2 (p1.fSums.map Sum.enc))])], []⟩) (mo := []) (mr := []) (by kernel_rfl) (by kernel_rfl) (by kernel_rfl) (by kernel_rfl)) ?_
  refine Wp.seq ?_
  refine Wp.seq ?_
  refine Wp.regionS (pOf []) (rhoOf []) (by kernel_rfl) ?_
  refine Runs.batch 1 (by kernel_rfl) ?_
  obtain ⟨r1, e_r1, h⟩ := bind_some h
  refine Runs.callK false 9 143 [] [.agg [.t (.int .i64 p1.fGen), .t (.int .i64 p1.fSize), .t (.int .i64 p1.fLen), .t (.sl 2 (p1.fSums.map Sum.enc))]] [.agg [.t (.int .i64 p1.fGen), .t (.int .i64 p1.fSize), .t (.int .i64 p1.fLen), .t (.sl 2 (p1.fSums.map Sum.enc))]] (.one (.t (.bool r1))) [] rfl rfl (by kernel_rfl) (by kernel_rfl) (by kernel_rfl) (by kernel_rfl) (by kernel_rfl) (impl_ManOk_ok u p1 r1 e_r1) (by kernel_rfl) ?_
  refine Runs.all (by kernel_rfl) ?_
  refine thenN ?_
  refine Wp.le (Le.of (s := ⟨[(0, .t (.sl 1 (p0.map (eInt .u8)))), (3, .obj 3 0), (4, .nil), (10, .t (.bool (!r1)))], [(3, [.t (.int .i64 p1.fGen), .t (.int .i64 p1.fSize), .t (.int .i64 p1.fLen), .t (.sl 2 (p1.fSums.map Sum.enc))])], []⟩) (mo := []) (mr := []) (by kernel_rfl) (by kernel_rfl) (by kernel_rfl) (by kernel_rfl)) ?_
  refine Wp.cond2 (b := !r1) (by kernel_rfl) (fun hc => ?_) (fun hc => ?_)
  · have h := cond_t h hc
    refine Wp.seq ?_
    refine Wp.regionS (pOf []) (rhoOf []) (by kernel_rfl) ?_
    refine Runs.batch 1 (by kernel_rfl) ?_
    obtain ⟨r2, e_r2, h⟩ := bind_some h
    refine Runs.callK false 12 144 [] [.t (.sl 1 (p0.map (eInt .u8)))] [.one (.t (.sl 1 (p0.map (eInt .u8))))] (.one (.ow 5 1 (r2.map (eInt .u8)))) [] rfl rfl (by kernel_rfl) (by kernel_rfl) (by kernel_rfl) (by kernel_rfl) (by kernel_rfl) (impl_cloned_ok u p0 r2 e_r2) (by kernel_rfl) ?_
    refine Runs.all (by kernel_rfl) ?_
    refine thenN ?_
    refine Wp.le (Le.of (s := ⟨[(0, .t (.sl 1 (p0.map (eInt .u8)))), (3, .obj 3 0), (4, .own 786432)], [(3, [.t (.int .i64 p1.fGen), .t (.int .i64 p1.fSize), .t (.int .i64 p1.fLen), .t (.sl 2 (p1.fSums.map Sum.enc))])], [(786432, .live 5 1 (r2.map (eInt .u8)))]⟩) (mo := []) (mr := []) (by kernel_rfl) (by kernel_rfl) (by kernel_rfl) (by kernel_rfl)) ?_
    refine Wp.ret ?_
    refine thenR ?_
    have hr := Option.some.inj h
    subst hr
    exact RetK [.own 786432] (.one (.ow 5 1 (r2.map (eInt .u8)))) [] (by kernel_rfl) (by kernel_rfl) (.refl _) .nil
  · have h := cond_f h hc
    refine Wp.skip ?_
    refine thenN ?_
    refine Wp.seq ?_
    refine Wp.regionA (pOf []) (rhoOf [(0, .frz), (3, .obj 3), (13, .frz), (14, .obj 3), (15, .frz), (16, .own 16), (17, .obj 3), (18, .frz), (19, .own 19), (20, .obj 3), (21, .frz), (22, .own 22)]) (by kernel_rfl) (by kernel_rfl) ?_
    refine Runs.batch 3 (by kernel_rfl) ?_
    obtain ⟨r3, e_r3, h⟩ := bind_some h
    refine Runs.callK false 16 145 [] [.t (.sl 1 (p0.map (eInt .u8))), .t (.int .i64 p1.fGen)] [.one (.t (.sl 1 (p0.map (eInt .u8)))), .one (.t (.int .i64 p1.fGen))] (.one (.ow 5 1 (r3.map (eInt .u8)))) [] rfl rfl (by kernel_rfl) (by kernel_rfl) (by kernel_rfl) (by kernel_rfl) (by kernel_rfl) (impl_PutVar_ok u p0 p1.fGen r3 e_r3) (by kernel_rfl) ?_
    refine Runs.batch 2 (by kernel_rfl) ?_
    obtain ⟨r4, e_r4, h⟩ := bind_some h
    refine Runs.callK false 19 145 [] [.own 1048576, .t (.int .i64 p1.fSize)] [.one (.t (.sl 1 (r3.map (eInt .u8)))), .one (.t (.int .i64 p1.fSize))] (.one (.ow 5 1 (r4.map (eInt .u8)))) [] rfl rfl (by kernel_rfl) (by kernel_rfl) (by kernel_rfl) (by kernel_rfl) (by kernel_rfl) (impl_PutVar_ok u r3 p1.fSize r4 e_r4) (by kernel_rfl) ?_
    refine Runs.batch 2 (by kernel_rfl) ?_
    obtain ⟨r5, e_r5, h⟩ := bind_some h
    refine Runs.callK false 22 145 [] [.own 1245184, .t (.int .i64 p1.fLen)] [.one (.t (.sl 1 (r4.map (eInt .u8)))), .one (.t (.int .i64 p1.fLen))] (.one (.ow 5 1 (r5.map (eInt .u8)))) [] rfl rfl (by kernel_rfl) (by kernel_rfl) (by kernel_rfl) (by kernel_rfl) (by kernel_rfl) (impl_PutVar_ok u r4 p1.fLen r5 e_r5) (by kernel_rfl) ?_
    refine Runs.all (by kernel_rfl) ?_
    refine thenN ?_
    refine Wp.le (Le.of (s := ⟨[(3, .obj 3 0), (4, .nil), (5, .own 1441792)], [(3, [.t (.int .i64 p1.fGen), .t (.int .i64 p1.fSize), .t (.int .i64 p1.fLen), .t (.sl 2 (p1.fSums.map Sum.enc))])], [(1441792, .live 5 1 (r5.map (eInt .u8)))]⟩) (mo := []) (mr := []) (by kernel_rfl) (by kernel_rfl) (by kernel_rfl) (by kernel_rfl)) ?_
    refine Wp.seqJ (α := (List Int)) (fun a => ⟨[(4, .nil), (5, .own 327681)], [], [(327681, .live 5 1 (a.map (eInt .u8)))]⟩) (fun a => impl_PutMan_j1 u a = some r) ?_ ?_
    · rintro x14 h
      change impl_PutMan_j1 u x14 = some r at h
      unfold impl_PutMan_j1 at h
      refine Wp.seq ?_
      refine Wp.regionS (pOf []) (rhoOf []) (by kernel_rfl) ?_
      refine Runs.all (by kernel_rfl) ?_
      refine thenN ?_
      refine Wp.le (Le.of (s := ⟨[(4, .own 327681)], [], [(327681, .live 5 1 (x14.map (eInt .u8)))]⟩) (mo := []) (mr := []) (by kernel_rfl) (by kernel_rfl) (by kernel_rfl) (by kernel_rfl)) ?_
      refine Wp.ret ?_
      have hr := Option.some.inj h
      subst hr
      exact RetK [.own 327681] (.one (.ow 5 1 (x14.map (eInt .u8)))) [] (by kernel_rfl) (by kernel_rfl) (.refl _) .nil
    · refine Wp.seq ?_
      refine Wp.regionS (pOf []) (rhoOf []) (by kernel_rfl) ?_
      refine Runs.batch 2 (by kernel_rfl) ?_
      refine Runs.lenT (y := .t (.sl 2 (p1.fSums.map Sum.enc))) (e := 166) Sum.enc p1.fSums 2 rfl rfl rfl (by kernel_rfl) (by kernel_rfl) (by kernel_rfl) (by kernel_rfl) (by kernel_rfl) ?_
      refine Runs.all (by kernel_rfl) ?_
      refine thenN ?_
      refine Wp.le (Le.of (s := ⟨[(4, .nil), (5, .own 1441792), (24, .t (.sl 2 (p1.fSums.map Sum.enc))), (25, .t (.int .i64 ((p1.fSums.length : Int)))), (26, .t (.int .i64 0))], [], [(1441792, .live 5 1 (r5.map (eInt .u8)))]⟩) (mo := []) (mr := []) (by kernel_rfl) (by kernel_rfl) (by kernel_rfl) (by kernel_rfl)) ?_
      refine Wp.block ?_
      refine Wp.loopF (α := (List Int) × Manifest × Int) (fun a => ⟨[(4, .nil), (5, .own 327681), (24, .t (.sl 2 (a.2.1.fSums.map Sum.enc))), (25, .t (.int .i64 ((a.2.1.fSums.length : Int)))), (26, .t (.int .i64 a.2.2))], [], [(327681, .live 5 1 (a.1.map (eInt .u8)))]⟩) (fun k_impl_PutMan_l2 a => impl_PutMan_l2 u k_impl_PutMan_l2 a.1 a.2.1 a.2.2 = some r) ?_ ?_ u (r5, p1, 0) h (Le.of (mo := []) (mr := [(327681, 1441792)]) (by kernel_rfl) (by kernel_rfl) (by kernel_rfl) (by kernel_rfl))
      · intro a h; unfold impl_PutMan_l2 at h; cases h
      · rintro k_impl_PutMan_l2 ⟨x8, p1, x9⟩ h
        change impl_PutMan_l2 u (k_impl_PutMan_l2 + 1) x8 p1 x9 = some r at h
        rw [impl_PutMan_l2] at h
        refine Wp.seq ?_
        refine Wp.regionS (pOf []) (rhoOf []) (by kernel_rfl) ?_
        refine Runs.all (by kernel_rfl) ?_
        refine thenN ?_
        refine Wp.le (Le.of (s := ⟨[(4, .nil), (5, .own 327681), (24, .t (.sl 2 (p1.fSums.map Sum.enc))), (25, .t (.int .i64 ((p1.fSums.length : Int)))), (26, .t (.int .i64 x9)), (27, .t (.bool (decide (x9 < ((p1.fSums.length : Int))))))], [], [(327681, .live 5 1 (x8.map (eInt .u8)))]⟩) (mo := []) (mr := []) (by kernel_rfl) (by kernel_rfl) (by kernel_rfl) (by kernel_rfl)) ?_
        refine Wp.seq ?_
        refine Wp.cond2 (b := decide (x9 < ((p1.fSums.length : Int)))) (by kernel_rfl) (fun hc => ?_) (fun hc => ?_)
        · have h := cond_t h hc
          refine Wp.skip ?_
          refine thenN ?_
          refine Wp.seq ?_
          refine Wp.block ?_
          refine Wp.seq ?_
          refine Wp.regionS (pOf []) (rhoOf []) (by kernel_rfl) ?_
          obtain ⟨y12, e_y12, h⟩ := bind_some h
          refine Runs.idxT (e := 166) (kk := .i64) (sz := 2) Sum.enc p1.fSums x9 rfl (by kernel_rfl) (by kernel_rfl) (by kernel_rfl) (by kernel_rfl) (by kernel_rfl) (by kernel_rfl) e_y12 ?_
          refine Runs.all (by kernel_rfl) ?_
          refine thenN ?_
          refine Wp.le (Le.of (s := ⟨[(4, .nil), (5, .own 327681), (7, .obj 7 0), (24, .t (.sl 2 (p1.fSums.map Sum.enc))), (25, .t (.int .i64 ((p1.fSums.length : Int)))), (26, .t (.int .i64 x9)), (27, .t (.bool (decide (x9 < ((p1.fSums.length : Int)))))), (28, .fadr [.int .i64 y12.fW, .int .i64 y12.fS]), (29, .agg [.t (.int .i64 y12.fW), .t (.int .i64 y12.fS)])], [(7, [.t (.int .i64 y12.fW), .t (.int .i64 y12.fS)])], [(327681, .live 5 1 (x8.map (eInt .u8)))]⟩) (mo := []) (mr := []) (by kernel_rfl) (by kernel_rfl) (by kernel_rfl) (by kernel_rfl)) ?_
          refine Wp.regionS (pOf []) (rhoOf []) (by kernel_rfl) ?_
          refine Runs.batch 3 (by kernel_rfl) ?_
          obtain ⟨r13, e_r13, h⟩ := bind_some h
          refine Runs.callK true 33 146 [] [.own 327681, .t (.int .i64 y12.fS)] [.one (.ow 5 1 (x8.map (eInt .u8))), .one (.t (.int .i64 y12.fS))] (.one (.ow 5 1 (r13.map (eInt .u8)))) [] rfl rfl (by kernel_rfl) (by kernel_rfl) (by kernel_rfl) (by kernel_rfl) (by kernel_rfl) (impl_appendVar_ok u x8 y12.fS r13 e_r13) (by kernel_rfl) ?_
          refine Runs.all (by kernel_rfl) ?_
          refine blkN ?_
          refine thenN ?_
          refine Wp.regionS (pOf []) (rhoOf []) (by kernel_rfl) ?_
          refine Runs.all (by kernel_rfl) ?_
          refine thenN ?_
          exact ⟨(r13, p1, bAdd .i64 x9 1), h, Le.of (mo := []) (mr := [(327681, 2162688)]) (by kernel_rfl) (by kernel_rfl) (by kernel_rfl) (by kernel_rfl)⟩
        · have h := cond_f h hc
          refine Wp.exit ?_
          refine thenE ?_
          refine thenE ?_
          refine blkE ?_
          refine thenN ?_
          exact ⟨x8, h, Le.of (mo := []) (mr := []) (by kernel_rfl) (by kernel_rfl) (by kernel_rfl) (by kernel_rfl)⟩
theorem impl_ManBytes_ok (u : Nat) (p0 : Manifest) (r : Int) (h : impl_ManBytes u p0 = some r) : CallOK Try.prog 50 [.agg [.t (.int .i64 p0.fGen), .t (.int .i64 p0.fSize), .t (.int .i64 p0.fLen), .t (.sl 2 (p0.fSums.map Sum.enc))]] (.one (.t (.int .i64 r))) [] := by
  unfold impl_ManBytes at h
  refine CallOK.of_bodyK (fn := Try.f50) (m := false) [.agg [.t (.int .i64 p0.fGen), .t (.int .i64 p0.fSize), .t (.int .i64 p0.fLen), .t (.sl 2 (p0.fSums.map Sum.enc))]] (by kernel_rfl) rfl (by kernel_rfl) (by kernel_rfl) (by kernel_rfl) (by kernel_rfl) (by kernel_rfl) ?_
  refine Wp.seq ?_
  refine Wp.regionS (pOf []) (rhoOf []) (by kernel_rfl) ?_
  refine Runs.all (by kernel_rfl) ?_
  refine thenN ?_
  refine Wp.le (Le.of (s := ⟨[(1, .obj 1 0), (2, .t (.int .i64 0))], [(1, [.t (.int .i64 p0.fGen), .t (.int .i64 p0.fSize), .t (.int .i64 p0.fLen), .t (.sl 2 (p0.fSums.map Sum.enc))])], []⟩) (mo := []) (mr := []) (by kernel_rfl) (by kernel_rfl) (by kernel_rfl) (by kernel_rfl)) ?_
  refine Wp.seq ?_
  refine Wp.regionS (pOf []) (rhoOf []) (by kernel_rfl) ?_
  refine Runs.batch 1 (by kernel_rfl) ?_
  obtain ⟨r1, e_r1, h⟩ := bind_some h
  refine Runs.callK false 4 103 [] [.nil, .agg [.t (.int .i64 p0.fGen), .t (.int .i64 p0.fSize), .t (.int .i64 p0.fLen), .t (.sl 2 (p0.fSums.map Sum.enc))]] [.one (.t (.sl 0 [])), .agg [.t (.int .i64 p0.fGen), .t (.int .i64 p0.fSize), .t (.int .i64 p0.fLen), .t (.sl 2 (p0.fSums.map Sum.enc))]] (.one (.ow 5 1 (r1.map (eInt .u8)))) [] rfl rfl (by kernel_rfl) (by kernel_rfl) (by kernel_rfl) (by kernel_rfl) (by kernel_rfl) ((impl_PutMan_ok u ([]) p0 r1 e_r1).le (.cons (.one (.sz _ _)) (.cons (.refl _) .nil))) (by kernel_rfl) ?_
  refine Runs.lenT (y := .own 262144) (e := 5) (eInt .u8) r1 1 rfl rfl rfl (by kernel_rfl) (by kernel_rfl) (by kernel_rfl) (by kernel_rfl) (by kernel_rfl) ?_
  refine Runs.all (by kernel_rfl) ?_
  refine thenN ?_
  refine Wp.le (Le.of (s := ⟨[(2, .t (.int .i64 ((r1.length : Int))))], [], []⟩) (mo := []) (mr := []) (by kernel_rfl) (by kernel_rfl) (by kernel_rfl) (by kernel_rfl)) ?_
  refine Wp.ret ?_
  have hr := Option.some.inj h
  subst hr
  exact RetK [.t (.int .i64 ((r1.length : Int)))] (.one (.t (.int .i64 ((r1.length : Int))))) [] (by kernel_rfl) (by kernel_rfl) (.refl _) .nil
theorem impl_FindSum_ok (u : Nat) (p0 : List Int) (p1 : Sum) (p2 : Int) (r : Int) (h : impl_FindSum u p0 p1 p2 = some r) : CallOK Try.prog 197 [.one (.t (.sl 1 (p0.map (eInt .u8)))), .agg [.t (.int .i64 p1.fW), .t (.int .i64 p1.fS)], .one (.t (.int .i64 p2))] (.one (.t (.int .i64 r))) [] := by
  unfold impl_FindSum at h
  refine CallOK.of_bodyK (fn := Try.f197) (m := false) [.t (.sl 1 (p0.map (eInt .u8))), .agg [.t (.int .i64 p1.fW), .t (.int .i64 p1.fS)], .t (.int .i64 p2)] (by kernel_rfl) rfl (by kernel_rfl) (by kernel_rfl) (by kernel_rfl) (by kernel_rfl) (by kernel_rfl) ?_
  refine Wp.seq ?_
  refine Wp.regionS (pOf []) (rhoOf []) (by kernel_rfl) ?_
  refine Runs.all (by kernel_rfl) ?_
  refine thenN ?_
  refine Wp.le (Le.of (s := ⟨[(0, .t (.sl 1 (p0.map (eInt .u8)))), (2, .t (.int .i64 p2)), (4, .obj 4 0), (6, .t (.int .i64 0))], [(4, [.t (.int .i64 p1.fW), .t (.int .i64 p1.fS)])], []⟩) (mo := []) (mr := []) (by kernel_rfl) (by kernel_rfl) (by kernel_rfl) (by kernel_rfl)) ?_
  refine Wp.seq ?_
  refine Wp.seq ?_
  refine Wp.regionS (pOf []) (rhoOf []) (by kernel_rfl) ?_
  refine Runs.batch 1 (by kernel_rfl) ?_
  obtain ⟨r1, e_r1, h⟩ := bind_some h
  refine Runs.callK false 9 41 [] [.t (.int .i64 p2), .t (.int .i64 1), .t (.int .i64 6)] [.one (.t (.int .i64 p2)), .one (.t (.int .i64 1)), .one (.t (.int .i64 6))] (.one (.t (.bool r1))) [] rfl rfl (by kernel_rfl) (by kernel_rfl) (by kernel_rfl) (by kernel_rfl) (by kernel_rfl) (impl_within_ok u p2 1 6 r1 e_r1) (by kernel_rfl) ?_
  refine Runs.all (by kernel_rfl) ?_
  refine thenN ?_
  refine Wp.le (Le.of (s := ⟨[(0, .t (.sl 1 (p0.map (eInt .u8)))), (2, .t (.int .i64 p2)), (4, .obj 4 0), (6, .t (.int .i64 0)), (10, .t (.bool (!r1)))], [(4, [.t (.int .i64 p1.fW), .t (.int .i64 p1.fS)])], []⟩) (mo := []) (mr := []) (by kernel_rfl) (by kernel_rfl) (by kernel_rfl) (by kernel_rfl)) ?_
  refine Wp.cond2 (b := !r1) (by kernel_rfl) (fun hc => ?_) (fun hc => ?_)
  · have h := cond_t h hc
    refine Wp.seq ?_
    refine Wp.regionS (pOf []) (rhoOf []) (by kernel_rfl) ?_
    refine Runs.all (by kernel_rfl) ?_
    refine thenN ?_
    refine Wp.le (Le.of (s := ⟨[(0, .t (.sl 1 (p0.map (eInt .u8)))), (2, .t (.int .i64 p2)), (4, .obj 4 0), (6, .t (.int .i64 (-1)))], [(4, [.t (.int .i64 p1.fW), .t (.int .i64 p1.fS)])], []⟩) (mo := []) (mr := []) (by kernel_rfl) (by kernel_rfl) (by kernel_rfl) (by kernel_rfl)) ?_
    refine Wp.ret ?_
    refine thenR ?_
    have hr := Option.some.inj h
    subst hr
    exact RetK [.t (.int .i64 (-1))] (.one (.t (.int .i64 (-1)))) [] (by kernel_rfl) (by kernel_rfl) (.refl _) .nil
  · have h := cond_f h hc
    refine Wp.skip ?_
    refine thenN ?_
    refine Wp.seqJ (α := Unit) (fun a => ⟨[(6, .t (.int .i64 0))], [], []⟩) (fun a => impl_FindSum_j1 u = some r) ?_ ?_
    · rintro ⟨⟩ h
      change impl_FindSum_j1 u = some r at h
      unfold impl_FindSum_j1 at h
      refine Wp.seq ?_
      refine Wp.regionS (pOf []) (rhoOf []) (by kernel_rfl) ?_
      refine Runs.all (by kernel_rfl) ?_
      refine thenN ?_
      refine Wp.le (Le.of (s := ⟨[(6, .t (.int .i64 (-1)))], [], []⟩) (mo := []) (mr := []) (by kernel_rfl) (by kernel_rfl) (by kernel_rfl) (by kernel_rfl)) ?_
      refine Wp.ret ?_
      have hr := Option.some.inj h
      subst hr
      exact RetK [.t (.int .i64 (-1))] (.one (.t (.int .i64 (-1)))) [] (by kernel_rfl) (by kernel_rfl) (.refl _) .nil
    · refine Wp.seq ?_
      refine Wp.regionS (pOf []) (rhoOf []) (by kernel_rfl) ?_
      refine Runs.all (by kernel_rfl) ?_
      refine thenN ?_
      refine Wp.le (Le.of (s := ⟨[(0, .t (.sl 1 (p0.map (eInt .u8)))), (2, .t (.int .i64 p2)), (4, .obj 4 0), (6, .t (.int .i64 0)), (7, .t (.int .i64 0))], [(4, [.t (.int .i64 p1.fW), .t (.int .i64 p1.fS)])], []⟩) (mo := []) (mr := []) (by kernel_rfl) (by kernel_rfl) (by kernel_rfl) (by kernel_rfl)) ?_
      refine Wp.block ?_
      refine Wp.loopF (α := (List Int) × Int × Int × Sum) (fun a => ⟨[(0, .t (.sl 1 (a.1.map (eInt .u8)))), (2, .t (.int .i64 a.2.1)), (4, .obj 4 0), (6, .t (.int .i64 0)), (7, .t (.int .i64 a.2.2.1))], [(4, [.t (.int .i64 a.2.2.2.fW), .t (.int .i64 a.2.2.2.fS)])], []⟩) (fun k_impl_FindSum_l2 a => impl_FindSum_l2 u k_impl_FindSum_l2 a.1 a.2.1 a.2.2.1 a.2.2.2 = some r) ?_ ?_ u (p0, p2, 0, p1) h (Le.of (mo := []) (mr := []) (by kernel_rfl) (by kernel_rfl) (by kernel_rfl) (by kernel_rfl))
      · intro a h; unfold impl_FindSum_l2 at h; cases h
      · rintro k_impl_FindSum_l2 ⟨p0, p2, x3, p1⟩ h
        change impl_FindSum_l2 u (k_impl_FindSum_l2 + 1) p0 p2 x3 p1 = some r at h
        rw [impl_FindSum_l2] at h
        refine Wp.seq ?_
        refine Wp.seq ?_
        refine Wp.regionS (pOf []) (rhoOf []) (by kernel_rfl) ?_
        refine Runs.batch 4 (by kernel_rfl) ?_
        refine Runs.lenT (y := .t (.sl 1 (p0.map (eInt .u8)))) (e := 5) (eInt .u8) p0 1 rfl rfl rfl (by kernel_rfl) (by kernel_rfl) (by kernel_rfl) (by kernel_rfl) (by kernel_rfl) ?_
        refine Runs.all (by kernel_rfl) ?_
        refine thenN ?_
        refine Wp.le (Le.of (s := ⟨[(0, .t (.sl 1 (p0.map (eInt .u8)))), (2, .t (.int .i64 p2)), (4, .obj 4 0), (6, .t (.int .i64 0)), (7, .t (.int .i64 x3)), (11, .t (.int .i64 x3)), (12, .t (.int .i64 p2)), (13, .t (.int .i64 (bAdd .i64 x3 p2))), (14, .t (.sl 1 (p0.map (eInt .u8)))), (15, .t (.int .i64 ((p0.length : Int)))), (16, .t (.bool (decide ((bAdd .i64 x3 p2) ≤ ((p0.length : Int))))))], [(4, [.t (.int .i64 p1.fW), .t (.int .i64 p1.fS)])], []⟩) (mo := []) (mr := []) (by kernel_rfl) (by kernel_rfl) (by kernel_rfl) (by kernel_rfl)) ?_
        refine Wp.cond2 (b := decide ((bAdd .i64 x3 p2) ≤ ((p0.length : Int)))) (by kernel_rfl) (fun hc => ?_) (fun hc => ?_)
        · have h := cond_t h hc
          refine Wp.skip ?_
          refine thenN ?_
          refine Wp.seq ?_
          refine Wp.block ?_
          refine Wp.seq ?_
          refine Wp.regionA (pOf []) (rhoOf [(0, .frz), (2, .frz), (4, .obj 4), (7, .frz), (19, .frz), (20, .frz), (21, .frz), (22, .frz), (23, .frz), (24, .frz), (25, .frz), (26, .frz)]) (by kernel_rfl) (by kernel_rfl) ?_
          refine Runs.batch 5 (by kernel_rfl) ?_
          obtain ⟨_, e_5, h⟩ := bind_some h
          refine Runs.subsl (e := 5) (ax := .t (.sl 1 (p0.map (eInt .u8)))) (alo := (some (.t (.int .i64 x3)))) (ahi := (some (.t (.int .i64 (bAdd .i64 x3 p2))))) (eInt .u8) p0 1 x3 (bAdd .i64 x3 p2) rfl (by kernel_rfl) (by kernel_rfl) (by kernel_rfl) (by kernel_rfl) (by kernel_rfl) (by kernel_rfl) (by kernel_rfl) (by kernel_rfl) (by kernel_rfl) (by kernel_rfl) (chk_some e_5) ?_
          obtain ⟨r6, e_r6, h⟩ := bind_some h
          refine Runs.callK false 25 142 [] [.t (.sl 1 (((p0.take (Int.toNat (bAdd .i64 x3 p2))).drop (Int.toNat x3)).map (eInt .u8)))] [.one (.t (.sl 1 (((p0.take (Int.toNat (bAdd .i64 x3 p2))).drop (Int.toNat x3)).map (eInt .u8))))] (.agg [.t (.int .i64 r6.fW), .t (.int .i64 r6.fS)]) [] rfl rfl (by kernel_rfl) (by kernel_rfl) (by kernel_rfl) (by kernel_rfl) (by kernel_rfl) (impl_SumOf_ok u ((p0.take (Int.toNat (bAdd .i64 x3 p2))).drop (Int.toNat x3)) r6 e_r6) (by kernel_rfl) ?_
          refine Runs.all (by kernel_rfl) ?_
          refine thenN ?_
          refine Wp.le (Le.of (s := ⟨[(0, .t (.sl 1 (p0.map (eInt .u8)))), (2, .t (.int .i64 p2)), (4, .obj 4 0), (6, .t (.int .i64 0)), (7, .t (.int .i64 x3)), (11, .t (.int .i64 x3)), (12, .t (.int .i64 p2)), (13, .t (.int .i64 (bAdd .i64 x3 p2))), (14, .t (.sl 1 (p0.map (eInt .u8)))), (15, .t (.int .i64 ((p0.length : Int)))), (16, .t (.bool (decide ((bAdd .i64 x3 p2) ≤ ((p0.length : Int)))))), (19, .t (.sl 1 (p0.map (eInt .u8)))), (20, .t (.int .i64 x3)), (21, .t (.int .i64 x3)), (22, .t (.int .i64 p2)), (23, .t (.int .i64 (bAdd .i64 x3 p2))), (24, .t (.sl 1 (((p0.take (Int.toNat (bAdd .i64 x3 p2))).drop (Int.toNat x3)).map (eInt .u8)))), (25, .agg [.t (.int .i64 r6.fW), .t (.int .i64 r6.fS)]), (26, .agg [.t (.int .i64 p1.fW), .t (.int .i64 p1.fS)]), (27, .t (.bool ([r6.fW, r6.fS] == [p1.fW, p1.fS])))], [(4, [.t (.int .i64 p1.fW), .t (.int .i64 p1.fS)])], []⟩) (mo := []) (mr := []) (by kernel_rfl) (by kernel_rfl) (by kernel_rfl) (by kernel_rfl)) ?_
          refine Wp.cond2 (b := [r6.fW, r6.fS] == [p1.fW, p1.fS]) (by kernel_rfl) (fun hc => ?_) (fun hc => ?_)
          · have h := cond_t h hc
            refine Wp.seq ?_
            refine Wp.regionS (pOf []) (rhoOf []) (by kernel_rfl) ?_
            refine Runs.all (by kernel_rfl) ?_
            refine thenN ?_
            refine Wp.le (Le.of (s := ⟨[(0, .t (.sl 1 (p0.map (eInt .u8)))), (2, .t (.int .i64 p2)), (4, .obj 4 0), (6, .t (.int .i64 x3)), (7, .t (.int .i64 x3)), (11, .t (.int .i64 x3)), (12, .t (.int .i64 p2)), (13, .t (.int .i64 (bAdd .i64 x3 p2))), (14, .t (.sl 1 (p0.map (eInt .u8)))), (15, .t (.int .i64 ((p0.length : Int)))), (16, .t (.bool (decide ((bAdd .i64 x3 p2) ≤ ((p0.length : Int)))))), (19, .t (.sl 1 (p0.map (eInt .u8)))), (20, .t (.int .i64 x3)), (21, .t (.int .i64 x3)), (22, .t (.int .i64 p2)), (23, .t (.int .i64 (bAdd .i64 x3 p2))), (24, .t (.sl 1 (((p0.take (Int.toNat (bAdd .i64 x3 p2))).drop (Int.toNat x3)).map (eInt .u8)))), (25, .agg [.t (.int .i64 r6.fW), .t (.int .i64 r6.fS)]), (26, .agg [.t (.int .i64 p1.fW), .t (.int .i64 p1.fS)]), (27, .t (.bool ([r6.fW, r6.fS] == [p1.fW, p1.fS]))), (28, .t (.int .i64 x3))], [(4, [.t (.int .i64 p1.fW), .t (.int .i64 p1.fS)])], []⟩) (mo := []) (mr := []) (by kernel_rfl) (by kernel_rfl) (by kernel_rfl) (by kernel_rfl)) ?_
            refine Wp.ret ?_
            refine blkR ?_
            refine thenR ?_
            refine thenR ?_
            refine blkR ?_
            refine thenR ?_
            have hr := Option.some.inj h
            subst hr
            exact RetK [.t (.int .i64 x3)] (.one (.t (.int .i64 x3))) [] (by kernel_rfl) (by kernel_rfl) (.refl _) .nil
          · have h := cond_f h hc
            refine Wp.skip ?_
            refine blkN ?_
            refine thenN ?_
            refine Wp.regionS (pOf []) (rhoOf []) (by kernel_rfl) ?_
            refine Runs.all (by kernel_rfl) ?_
            refine thenN ?_
            exact ⟨(p0, p2, bAdd .i64 x3 1, p1), h, Le.of (mo := []) (mr := []) (by kernel_rfl) (by kernel_rfl) (by kernel_rfl) (by kernel_rfl)⟩
        · have h := cond_f h hc
          refine Wp.exit ?_
          refine thenE ?_
          refine thenE ?_
          refine blkE ?_
          refine thenN ?_
          exact ⟨(), h, Le.of (mo := []) (mr := []) (by kernel_rfl) (by kernel_rfl) (by kernel_rfl) (by kernel_rfl)⟩
theorem impl_PlaceOf_ok (u : Nat) (p0 : List Int) (p1 : Manifest) (p2 : Int) (r : Int) (h : impl_PlaceOf u p0 p1 p2 = some r) : CallOK Try.prog 180 [.one (.t (.sl 1 (p0.map (eInt .u8)))), .agg [.t (.int .i64 p1.fGen), .t (.int .i64 p1.fSize), .t (.int .i64 p1.fLen), .t (.sl 2 (p1.fSums.map Sum.enc))], .one (.t (.int .i64 p2))] (.one (.t (.int .i64 r))) [] := by
  unfold impl_PlaceOf at h
  refine CallOK.of_bodyK (fn := Try.f180) (m := false) [.t (.sl 1 (p0.map (eInt .u8))), .agg [.t (.int .i64 p1.fGen), .t (.int .i64 p1.fSize), .t (.int .i64 p1.fLen), .t (.sl 2 (p1.fSums.map Sum.enc))], .t (.int .i64 p2)] (by kernel_rfl) rfl (by kernel_rfl) (by kernel_rfl) (by kernel_rfl) (by kernel_rfl) (by kernel_rfl) ?_
  refine Wp.seq ?_
  refine Wp.regionS (pOf []) (rhoOf []) (by kernel_rfl) ?_
  refine Runs.all (by kernel_rfl) ?_
  refine thenN ?_
  refine Wp.le (Le.of (s := ⟨[(0, .t (.sl 1 (p0.map (eInt .u8)))), (2, .t (.int .i64 p2)), (4, .obj 4 0), (6, .t (.int .i64 0))], [(4, [.t (.int .i64 p1.fGen), .t (.int .i64 p1.fSize), .t (.int .i64 p1.fLen), .t (.sl 2 (p1.fSums.map Sum.enc))])], []⟩) (mo := []) (mr := []) (by kernel_rfl) (by kernel_rfl) (by kernel_rfl) (by kernel_rfl)) ?_
  refine Wp.seq ?_
  refine Wp.regionS (pOf []) (rhoOf []) (by kernel_rfl) ?_
  refine Runs.batch 5 (by kernel_rfl) ?_
  obtain ⟨r1, e_r1, h⟩ := bind_some h
  refine Runs.callK false 15 106 [] [.t (.int .i64 p1.fSize), .t (.int .i64 p1.fLen), .t (.int .i64 p2)] [.one (.t (.int .i64 p1.fSize)), .one (.t (.int .i64 p1.fLen)), .one (.t (.int .i64 p2))] (.tup [.one (.t (.int .i64 r1.1)), .one (.t (.int .i64 r1.2))]) [] rfl rfl (by kernel_rfl) (by kernel_rfl) (by kernel_rfl) (by kernel_rfl) (by kernel_rfl) (impl_SpanOf_ok u p1.fSize p1.fLen p2 r1 e_r1) (by kernel_rfl) ?_
  refine Runs.all (by kernel_rfl) ?_
  refine thenN ?_
  refine Wp.le (Le.of (s := ⟨[(0, .t (.sl 1 (p0.map (eInt .u8)))), (2, .t (.int .i64 p2)), (4, .obj 4 0), (6, .t (.int .i64 0)), (8, .t (.int .i64 r1.2))], [(4, [.t (.int .i64 p1.fGen), .t (.int .i64 p1.fSize), .t (.int .i64 p1.fLen), .t (.sl 2 (p1.fSums.map Sum.enc))])], []⟩) (mo := []) (mr := []) (by kernel_rfl) (by kernel_rfl) (by kernel_rfl) (by kernel_rfl)) ?_
  refine Wp.seq ?_
  refine Wp.seq ?_
  refine Wp.regionS (pOf []) (rhoOf []) (by kernel_rfl) ?_
  refine Runs.batch 3 (by kernel_rfl) ?_
  refine Runs.lenT (y := .t (.sl 2 (p1.fSums.map Sum.enc))) (e := 166) Sum.enc p1.fSums 2 rfl rfl rfl (by kernel_rfl) (by kernel_rfl) (by kernel_rfl) (by kernel_rfl) (by kernel_rfl) ?_
  refine Runs.batch 1 (by kernel_rfl) ?_
  obtain ⟨r2, e_r2, h⟩ := bind_some h
  refine Runs.callK false 23 41 [] [.t (.int .i64 p2), .t (.int .i64 0), .t (.int .i64 (bSub .i64 ((p1.fSums.length : Int)) 1))] [.one (.t (.int .i64 p2)), .one (.t (.int .i64 0)), .one (.t (.int .i64 (bSub .i64 ((p1.fSums.length : Int)) 1)))] (.one (.t (.bool r2))) [] rfl rfl (by kernel_rfl) (by kernel_rfl) (by kernel_rfl) (by kernel_rfl) (by kernel_rfl) (impl_within_ok u p2 0 (bSub .i64 ((p1.fSums.length : Int)) 1) r2 e_r2) (by kernel_rfl) ?_
  refine Runs.all (by kernel_rfl) ?_
  refine thenN ?_
  refine Wp.le (Le.of (s := ⟨[(0, .t (.sl 1 (p0.map (eInt .u8)))), (2, .t (.int .i64 p2)), (4, .obj 4 0), (6, .t (.int .i64 0)), (8, .t (.int .i64 r1.2)), (24, .t (.bool (!r2)))], [(4, [.t (.int .i64 p1.fGen), .t (.int .i64 p1.fSize), .t (.int .i64 p1.fLen), .t (.sl 2 (p1.fSums.map Sum.enc))])], []⟩) (mo := []) (mr := []) (by kernel_rfl) (by kernel_rfl) (by kernel_rfl) (by kernel_rfl)) ?_
  refine Wp.cond2 (b := !r2) (by kernel_rfl) (fun hc => ?_) (fun hc => ?_)
  · have h := cond_t h hc
    refine Wp.seq ?_
    refine Wp.regionS (pOf []) (rhoOf []) (by kernel_rfl) ?_
    refine Runs.all (by kernel_rfl) ?_
    refine thenN ?_
    refine Wp.le (Le.of (s := ⟨[(0, .t (.sl 1 (p0.map (eInt .u8)))), (2, .t (.int .i64 p2)), (4, .obj 4 0), (6, .t (.int .i64 (-1))), (8, .t (.int .i64 r1.2))], [(4, [.t (.int .i64 p1.fGen), .t (.int .i64 p1.fSize), .t (.int .i64 p1.fLen), .t (.sl 2 (p1.fSums.map Sum.enc))])], []⟩) (mo := []) (mr := []) (by kernel_rfl) (by kernel_rfl) (by kernel_rfl) (by kernel_rfl)) ?_
    refine Wp.ret ?_
    refine thenR ?_
    have hr := Option.some.inj h
    subst hr
    exact RetK [.t (.int .i64 (-1))] (.one (.t (.int .i64 (-1)))) [] (by kernel_rfl) (by kernel_rfl) (.refl _) .nil
  · have h := cond_f h hc
    refine Wp.skip ?_
    refine thenN ?_
    refine Wp.seq ?_
    refine Wp.regionS (pOf []) (rhoOf []) (by kernel_rfl) ?_
    refine Runs.batch 4 (by kernel_rfl) ?_
    obtain ⟨y3, e_y3, h⟩ := bind_some h
    refine Runs.idxT (e := 166) (kk := .i64) (sz := 2) Sum.enc p1.fSums p2 rfl (by kernel_rfl) (by kernel_rfl) (by kernel_rfl) (by kernel_rfl) (by kernel_rfl) (by kernel_rfl) e_y3 ?_
    refine Runs.batch 2 (by kernel_rfl) ?_
    obtain ⟨r4, e_r4, h⟩ := bind_some h
    refine Runs.callK false 32 197 [] [.t (.sl 1 (p0.map (eInt .u8))), .agg [.t (.int .i64 y3.fW), .t (.int .i64 y3.fS)], .t (.int .i64 r1.2)] [.one (.t (.sl 1 (p0.map (eInt .u8)))), .agg [.t (.int .i64 y3.fW), .t (.int .i64 y3.fS)], .one (.t (.int .i64 r1.2))] (.one (.t (.int .i64 r4))) [] rfl rfl (by kernel_rfl) (by kernel_rfl) (by kernel_rfl) (by kernel_rfl) (by kernel_rfl) (impl_FindSum_ok u p0 y3 r1.2 r4 e_r4) (by kernel_rfl) ?_
    refine Runs.all (by kernel_rfl) ?_
    refine thenN ?_
    refine Wp.le (Le.of (s := ⟨[(6, .t (.int .i64 r4))], [], []⟩) (mo := []) (mr := []) (by kernel_rfl) (by kernel_rfl) (by kernel_rfl) (by kernel_rfl)) ?_
    refine Wp.ret ?_
    have hr := Option.some.inj h
    subst hr
    exact RetK [.t (.int .i64 r4)] (.one (.t (.int .i64 r4))) [] (by kernel_rfl) (by kernel_rfl) (.refl _) .nil
theorem impl_placed_ok (u : Nat) (p0 : List Int) (p1 : Manifest) (p2 : Bool) (r : Int) (h : impl_placed u p0 p1 p2 = some r) : CallOK Try.prog 148 [.one (.t (.sl 1 (p0.map (eInt .u8)))), .agg [.t (.int .i64 p1.fGen), .t (.int .i64 p1.fSize), .t (.int .i64 p1.fLen), .t (.sl 2 (p1.fSums.map Sum.enc))], .one (.t (.bool p2))] (.one (.t (.int .i64 r))) [] := by
  unfold impl_placed at h
  refine CallOK.of_bodyK (fn := Try.f148) (m := false) [.t (.sl 1 (p0.map (eInt .u8))), .agg [.t (.int .i64 p1.fGen), .t (.int .i64 p1.fSize), .t (.int .i64 p1.fLen), .t (.sl 2 (p1.fSums.map Sum.enc))], .t (.bool p2)] (by kernel_rfl) rfl (by kernel_rfl) (by kernel_rfl) (by kernel_rfl) (by kernel_rfl) (by kernel_rfl) ?_
  refine Wp.seq ?_
  refine Wp.regionS (pOf []) (rhoOf []) (by kernel_rfl) ?_
  refine Runs.all (by kernel_rfl) ?_
  refine thenN ?_
  refine Wp.le (Le.of (s := ⟨[(0, .t (.sl 1 (p0.map (eInt .u8)))), (2, .t (.bool p2)), (4, .obj 4 0), (6, .t (.int .i64 0))], [(4, [.t (.int .i64 p1.fGen), .t (.int .i64 p1.fSize), .t (.int .i64 p1.fLen), .t (.sl 2 (p1.fSums.map Sum.enc))])], []⟩) (mo := []) (mr := []) (by kernel_rfl) (by kernel_rfl) (by kernel_rfl) (by kernel_rfl)) ?_
  refine Wp.seq ?_
  refine Wp.regionS (pOf []) (rhoOf []) (by kernel_rfl) ?_
  refine Runs.all (by kernel_rfl) ?_
  refine thenN ?_
  refine Wp.le (Le.of (s := ⟨[(0, .t (.sl 1 (p0.map (eInt .u8)))), (2, .t (.bool p2)), (4, .obj 4 0), (6, .t (.int .i64 0)), (7, .t (.int .i64 0))], [(4, [.t (.int .i64 p1.fGen), .t (.int .i64 p1.fSize), .t (.int .i64 p1.fLen), .t (.sl 2 (p1.fSums.map Sum.enc))])], []⟩) (mo := []) (mr := []) (by kernel_rfl) (by kernel_rfl) (by kernel_rfl) (by kernel_rfl)) ?_
  refine Wp.seqJ (α := Int) (fun a => ⟨[(6, .t (.int .i64 0)), (7, .t (.int .i64 a))], [], []⟩) (fun a => impl_placed_j1 u a = some r) ?_ ?_
  · rintro x9 h
    change impl_placed_j1 u x9 = some r at h
    unfold impl_placed_j1 at h
    refine Wp.seq ?_
    refine Wp.regionS (pOf []) (rhoOf []) (by kernel_rfl) ?_
    refine Runs.all (by kernel_rfl) ?_
    refine thenN ?_
    refine Wp.le (Le.of (s := ⟨[(6, .t (.int .i64 x9))], [], []⟩) (mo := []) (mr := []) (by kernel_rfl) (by kernel_rfl) (by kernel_rfl) (by kernel_rfl)) ?_
    refine Wp.ret ?_
    have hr := Option.some.inj h
    subst hr
    exact RetK [.t (.int .i64 x9)] (.one (.t (.int .i64 x9))) [] (by kernel_rfl) (by kernel_rfl) (.refl _) .nil
  · refine Wp.seq ?_
    refine Wp.regionS (pOf []) (rhoOf []) (by kernel_rfl) ?_
    refine Runs.batch 2 (by kernel_rfl) ?_
    refine Runs.lenT (y := .t (.sl 2 (p1.fSums.map Sum.enc))) (e := 166) Sum.enc p1.fSums 2 rfl rfl rfl (by kernel_rfl) (by kernel_rfl) (by kernel_rfl) (by kernel_rfl) (by kernel_rfl) ?_
    refine Runs.all (by kernel_rfl) ?_
    refine thenN ?_
    refine Wp.le (Le.of (s := ⟨[(0, .t (.sl 1 (p0.map (eInt .u8)))), (2, .t (.bool p2)), (4, .obj 4 0), (6, .t (.int .i64 0)), (7, .t (.int .i64 0)), (12, .t (.int .i64 (if ((p1.fSums.length : Int)) < 40 then ((p1.fSums.length : Int)) else 40))), (13, .t (.int .i64 0))], [(4, [.t (.int .i64 p1.fGen), .t (.int .i64 p1.fSize), .t (.int .i64 p1.fLen), .t (.sl 2 (p1.fSums.map Sum.enc))])], []⟩) (mo := []) (mr := []) (by kernel_rfl) (by kernel_rfl) (by kernel_rfl) (by kernel_rfl)) ?_
    refine Wp.block ?_
    refine Wp.loopF (α := (List Int) × Bool × Int × Manifest × Int) (fun a => ⟨[(0, .t (.sl 1 (a.1.map (eInt .u8)))), (2, .t (.bool a.2.1)), (4, .obj 4 0), (6, .t (.int .i64 0)), (7, .t (.int .i64 a.2.2.1)), (12, .t (.int .i64 (if ((a.2.2.2.1.fSums.length : Int)) < 40 then ((a.2.2.2.1.fSums.length : Int)) else 40))), (13, .t (.int .i64 a.2.2.2.2))], [(4, [.t (.int .i64 a.2.2.2.1.fGen), .t (.int .i64 a.2.2.2.1.fSize), .t (.int .i64 a.2.2.2.1.fLen), .t (.sl 2 (a.2.2.2.1.fSums.map Sum.enc))])], []⟩) (fun k_impl_placed_l2 a => impl_placed_l2 u k_impl_placed_l2 a.1 a.2.1 a.2.2.1 a.2.2.2.1 a.2.2.2.2 = some r) ?_ ?_ u (p0, p2, 0, p1, 0) h (Le.of (mo := []) (mr := []) (by kernel_rfl) (by kernel_rfl) (by kernel_rfl) (by kernel_rfl))
    · intro a h; unfold impl_placed_l2 at h; cases h
    · rintro k_impl_placed_l2 ⟨p0, p2, x3, p1, x4⟩ h
      change impl_placed_l2 u (k_impl_placed_l2 + 1) p0 p2 x3 p1 x4 = some r at h
      rw [impl_placed_l2] at h
      refine Wp.seq ?_
      refine Wp.regionS (pOf []) (rhoOf []) (by kernel_rfl) ?_
      refine Runs.all (by kernel_rfl) ?_
      refine thenN ?_
      refine Wp.le (Le.of (s := ⟨[(0, .t (.sl 1 (p0.map (eInt .u8)))), (2, .t (.bool p2)), (4, .obj 4 0), (6, .t (.int .i64 0)), (7, .t (.int .i64 x3)), (12, .t (.int .i64 (if ((p1.fSums.length : Int)) < 40 then ((p1.fSums.length : Int)) else 40))), (13, .t (.int .i64 x4)), (14, .t (.bool (decide (x4 < (if ((p1.fSums.length : Int)) < 40 then ((p1.fSums.length : Int)) else 40)))))], [(4, [.t (.int .i64 p1.fGen), .t (.int .i64 p1.fSize), .t (.int .i64 p1.fLen), .t (.sl 2 (p1.fSums.map Sum.enc))])], []⟩) (mo := []) (mr := []) (by kernel_rfl) (by kernel_rfl) (by kernel_rfl) (by kernel_rfl)) ?_
      refine Wp.seq ?_
      refine Wp.cond2 (b := decide (x4 < (if ((p1.fSums.length : Int)) < 40 then ((p1.fSums.length : Int)) else 40))) (by kernel_rfl) (fun hc => ?_) (fun hc => ?_)
      · have h := cond_t h hc
        refine Wp.skip ?_
        refine thenN ?_
        refine Wp.seqJ (α := (List Int) × Bool × Int × Int × Manifest × Int) (fun a => ⟨[(0, .t (.sl 1 (a.1.map (eInt .u8)))), (2, .t (.bool a.2.1)), (4, .obj 4 0), (6, .t (.int .i64 0)), (7, .t (.int .i64 a.2.2.1)), (8, .t (.int .i64 a.2.2.2.1)), (12, .t (.int .i64 (if ((a.2.2.2.2.1.fSums.length : Int)) < 40 then ((a.2.2.2.2.1.fSums.length : Int)) else 40))), (13, .t (.int .i64 a.2.2.2.1)), (14, .t (.bool (decide (a.2.2.2.1 < (if ((a.2.2.2.2.1.fSums.length : Int)) < 40 then ((a.2.2.2.2.1.fSums.length : Int)) else 40))))), (15, .t (.int .i64 a.2.2.2.1)), (16, .t (.sl 1 (a.1.map (eInt .u8)))), (17, .agg [.t (.int .i64 a.2.2.2.2.1.fGen), .t (.int .i64 a.2.2.2.2.1.fSize), .t (.int .i64 a.2.2.2.2.1.fLen), .t (.sl 2 (a.2.2.2.2.1.fSums.map Sum.enc))]), (18, .t (.int .i64 a.2.2.2.1)), (19, .t (.int .i64 a.2.2.2.2.2)), (20, .t (.bool (decide (a.2.2.2.2.2 ≥ 0)))), (21, .t (.bool a.2.1)), (22, .t (.bool ((decide (a.2.2.2.2.2 ≥ 0)) == a.2.1)))], [(4, [.t (.int .i64 a.2.2.2.2.1.fGen), .t (.int .i64 a.2.2.2.2.1.fSize), .t (.int .i64 a.2.2.2.2.1.fLen), .t (.sl 2 (a.2.2.2.2.1.fSums.map Sum.enc))])], []⟩) (fun a => impl_placed_j3 u (fun z0 z1 z2 z3 z4 => impl_placed_l2 u k_impl_placed_l2 z0 z1 z2 z3 z4) a.1 a.2.1 a.2.2.1 a.2.2.2.1 a.2.2.2.2.1 a.2.2.2.2.2 = some r) ?_ ?_
        · rintro ⟨p0, p2, x8, x4, p1, r7⟩ h
          change impl_placed_j3 u (fun z0 z1 z2 z3 z4 => impl_placed_l2 u k_impl_placed_l2 z0 z1 z2 z3 z4) p0 p2 x8 x4 p1 r7 = some r at h
          unfold impl_placed_j3 at h
          refine Wp.regionS (pOf []) (rhoOf []) (by kernel_rfl) ?_
          refine Runs.all (by kernel_rfl) ?_
          refine thenN ?_
          exact ⟨(p0, p2, x8, p1, bAdd .i64 x4 1), h, Le.of (mo := []) (mr := []) (by kernel_rfl) (by kernel_rfl) (by kernel_rfl) (by kernel_rfl)⟩
        · refine Wp.block ?_
          refine Wp.seq ?_
          refine Wp.regionS (pOf []) (rhoOf []) (by kernel_rfl) ?_
          refine Runs.all (by kernel_rfl) ?_
          refine thenN ?_
          refine Wp.le (Le.of (s := ⟨[(0, .t (.sl 1 (p0.map (eInt .u8)))), (2, .t (.bool p2)), (4, .obj 4 0), (6, .t (.int .i64 0)), (7, .t (.int .i64 x3)), (8, .t (.int .i64 x4)), (12, .t (.int .i64 (if ((p1.fSums.length : Int)) < 40 then ((p1.fSums.length : Int)) else 40))), (13, .t (.int .i64 x4)), (14, .t (.bool (decide (x4 < (if ((p1.fSums.length : Int)) < 40 then ((p1.fSums.length : Int)) else 40))))), (15, .t (.int .i64 x4))], [(4, [.t (.int .i64 p1.fGen), .t (.int .i64 p1.fSize), .t (.int .i64 p1.fLen), .t (.sl 2 (p1.fSums.map Sum.enc))])], []⟩) (mo := []) (mr := []) (by kernel_rfl) (by kernel_rfl) (by kernel_rfl) (by kernel_rfl)) ?_
          refine Wp.seq ?_
          refine Wp.regionS (pOf []) (rhoOf []) (by kernel_rfl) ?_
          refine Runs.batch 3 (by kernel_rfl) ?_
          obtain ⟨r7, e_r7, h⟩ := bind_some h
          refine Runs.callK false 19 180 [] [.t (.sl 1 (p0.map (eInt .u8))), .agg [.t (.int .i64 p1.fGen), .t (.int .i64 p1.fSize), .t (.int .i64 p1.fLen), .t (.sl 2 (p1.fSums.map Sum.enc))], .t (.int .i64 x4)] [.one (.t (.sl 1 (p0.map (eInt .u8)))), .agg [.t (.int .i64 p1.fGen), .t (.int .i64 p1.fSize), .t (.int .i64 p1.fLen), .t (.sl 2 (p1.fSums.map Sum.enc))], .one (.t (.int .i64 x4))] (.one (.t (.int .i64 r7))) [] rfl rfl (by kernel_rfl) (by kernel_rfl) (by kernel_rfl) (by kernel_rfl) (by kernel_rfl) (impl_PlaceOf_ok u p0 p1 x4 r7 e_r7) (by kernel_rfl) ?_
          refine Runs.all (by kernel_rfl) ?_
          refine thenN ?_
          refine Wp.le (Le.of (s := ⟨[(0, .t (.sl 1 (p0.map (eInt .u8)))), (2, .t (.bool p2)), (4, .obj 4 0), (6, .t (.int .i64 0)), (7, .t (.int .i64 x3)), (8, .t (.int .i64 x4)), (12, .t (.int .i64 (if ((p1.fSums.length : Int)) < 40 then ((p1.fSums.length : Int)) else 40))), (13, .t (.int .i64 x4)), (14, .t (.bool (decide (x4 < (if ((p1.fSums.length : Int)) < 40 then ((p1.fSums.length : Int)) else 40))))), (15, .t (.int .i64 x4)), (16, .t (.sl 1 (p0.map (eInt .u8)))), (17, .agg [.t (.int .i64 p1.fGen), .t (.int .i64 p1.fSize), .t (.int .i64 p1.fLen), .t (.sl 2 (p1.fSums.map Sum.enc))]), (18, .t (.int .i64 x4)), (19, .t (.int .i64 r7)), (20, .t (.bool (decide (r7 ≥ 0)))), (21, .t (.bool p2)), (22, .t (.bool ((decide (r7 ≥ 0)) == p2)))], [(4, [.t (.int .i64 p1.fGen), .t (.int .i64 p1.fSize), .t (.int .i64 p1.fLen), .t (.sl 2 (p1.fSums.map Sum.enc))])], []⟩) (mo := []) (mr := []) (by kernel_rfl) (by kernel_rfl) (by kernel_rfl) (by kernel_rfl)) ?_
          refine Wp.cond2 (b := (decide (r7 ≥ 0)) == p2) (by kernel_rfl) (fun hc => ?_) (fun hc => ?_)
          · have h := cond_t h hc
            refine Wp.regionS (pOf []) (rhoOf []) (by kernel_rfl) ?_
            refine Runs.batch 2 (by kernel_rfl) ?_
            obtain ⟨_, e_8, h⟩ := bind_some h
            refine Runs.num .shl (.int .i64 1) (.int .i64 x4) (.int .i64 (bShl .i64 1 x4)) rfl (by kernel_rfl) (by kernel_rfl) (by kernel_rfl) (by kernel_rfl) (bin_shl _ _ _ _ _ (chk_some e_8)) ?_
            refine Runs.all (by kernel_rfl) ?_
            refine blkN ?_
            refine thenN ?_
            exact ⟨(p0, p2, bOr .i64 x3 (bShl .i64 1 x4), x4, p1, r7), h, Le.of (mo := []) (mr := []) (by kernel_rfl) (by kernel_rfl) (by kernel_rfl) (by kernel_rfl)⟩
          · have h := cond_f h hc
            refine Wp.skip ?_
            refine blkN ?_
            refine thenN ?_
            exact ⟨(p0, p2, x3, x4, p1, r7), h, Le.of (mo := []) (mr := []) (by kernel_rfl) (by kernel_rfl) (by kernel_rfl) (by kernel_rfl)⟩
      · have h := cond_f h hc
        refine Wp.exit ?_
        refine thenE ?_
        refine thenE ?_
        refine blkE ?_
        refine thenN ?_
        exact ⟨x3, h, Le.of (mo := []) (mr := []) (by kernel_rfl) (by kernel_rfl) (by kernel_rfl) (by kernel_rfl)⟩
theorem impl_Lacking_ok (u : Nat) (p0 : List Int) (p1 : Manifest) (r : Int) (h : impl_Lacking u p0 p1 = some r) : CallOK Try.prog 105 [.one (.t (.sl 1 (p0.map (eInt .u8)))), .agg [.t (.int .i64 p1.fGen), .t (.int .i64 p1.fSize), .t (.int .i64 p1.fLen), .t (.sl 2 (p1.fSums.map Sum.enc))]] (.one (.t (.int .i64 r))) [] := by
  unfold impl_Lacking at h
  refine CallOK.of_bodyK (fn := Try.f105) (m := false) [.t (.sl 1 (p0.map (eInt .u8))), .agg [.t (.int .i64 p1.fGen), .t (.int .i64 p1.fSize), .t (.int .i64 p1.fLen), .t (.sl 2 (p1.fSums.map Sum.enc))]] (by kernel_rfl) rfl (by kernel_rfl) (by kernel_rfl) (by kernel_rfl) (by kernel_rfl) (by kernel_rfl) ?_
  refine Wp.seq ?_
  refine Wp.regionS (pOf []) (rhoOf []) (by kernel_rfl) ?_
  refine Runs.all (by kernel_rfl) ?_
  refine thenN ?_
  refine Wp.le (Le.of (s := ⟨[(0, .t (.sl 1 (p0.map (eInt .u8)))), (3, .obj 3 0), (4, .t (.int .i64 0))], [(3, [.t (.int .i64 p1.fGen), .t (.int .i64 p1.fSize), .t (.int .i64 p1.fLen), .t (.sl 2 (p1.fSums.map Sum.enc))])], []⟩) (mo := []) (mr := []) (by kernel_rfl) (by kernel_rfl) (by kernel_rfl) (by kernel_rfl)) ?_
  refine Wp.seq ?_
  refine Wp.regionS (pOf []) (rhoOf []) (by kernel_rfl) ?_
  refine Runs.batch 2 (by kernel_rfl) ?_
  obtain ⟨r1, e_r1, h⟩ := bind_some h
  refine Runs.callK false 7 148 [] [.t (.sl 1 (p0.map (eInt .u8))), .agg [.t (.int .i64 p1.fGen), .t (.int .i64 p1.fSize), .t (.int .i64 p1.fLen), .t (.sl 2 (p1.fSums.map Sum.enc))], .t (.bool false)] [.one (.t (.sl 1 (p0.map (eInt .u8)))), .agg [.t (.int .i64 p1.fGen), .t (.int .i64 p1.fSize), .t (.int .i64 p1.fLen), .t (.sl 2 (p1.fSums.map Sum.enc))], .one (.t (.bool false))] (.one (.t (.int .i64 r1))) [] rfl rfl (by kernel_rfl) (by kernel_rfl) (by kernel_rfl) (by kernel_rfl) (by kernel_rfl) (impl_placed_ok u p0 p1 false r1 e_r1) (by kernel_rfl) ?_
  refine Runs.all (by kernel_rfl) ?_
  refine thenN ?_
  refine Wp.le (Le.of (s := ⟨[(4, .t (.int .i64 r1))], [], []⟩) (mo := []) (mr := []) (by kernel_rfl) (by kernel_rfl) (by kernel_rfl) (by kernel_rfl)) ?_
  refine Wp.ret ?_
  have hr := Option.some.inj h
  subst hr
  exact RetK [.t (.int .i64 r1)] (.one (.t (.int .i64 r1))) [] (by kernel_rfl) (by kernel_rfl) (.refl _) .nil
theorem impl_SetOk_ok (u : Nat) (p0 : Int) (r : Bool) (h : impl_SetOk u p0 = some r) : CallOK Try.prog 178 [.one (.t (.int .i64 p0))] (.one (.t (.bool r))) [] := by
  unfold impl_SetOk at h
  refine CallOK.of_bodyK (fn := Try.f178) (m := false) [.t (.int .i64 p0)] (by kernel_rfl) rfl (by kernel_rfl) (by kernel_rfl) (by kernel_rfl) (by kernel_rfl) (by kernel_rfl) ?_
  refine Wp.seq ?_
  refine Wp.regionS (pOf []) (rhoOf []) (by kernel_rfl) ?_
  refine Runs.all (by kernel_rfl) ?_
  refine thenN ?_
  refine Wp.le (Le.of (s := ⟨[(0, .t (.int .i64 p0)), (2, .t (.bool false))], [], []⟩) (mo := []) (mr := []) (by kernel_rfl) (by kernel_rfl) (by kernel_rfl) (by kernel_rfl)) ?_
  refine Wp.seq ?_
  refine Wp.regionS (pOf []) (rhoOf []) (by kernel_rfl) ?_
  refine Runs.batch 1 (by kernel_rfl) ?_
  obtain ⟨r1, e_r1, h⟩ := bind_some h
  refine Runs.callK false 4 41 [] [.t (.int .i64 p0), .t (.int .i64 0), .t (.int .i64 1099511627775)] [.one (.t (.int .i64 p0)), .one (.t (.int .i64 0)), .one (.t (.int .i64 1099511627775))] (.one (.t (.bool r1))) [] rfl rfl (by kernel_rfl) (by kernel_rfl) (by kernel_rfl) (by kernel_rfl) (by kernel_rfl) (impl_within_ok u p0 0 1099511627775 r1 e_r1) (by kernel_rfl) ?_
  refine Runs.all (by kernel_rfl) ?_
  refine thenN ?_
  refine Wp.le (Le.of (s := ⟨[(2, .t (.bool r1))], [], []⟩) (mo := []) (mr := []) (by kernel_rfl) (by kernel_rfl) (by kernel_rfl) (by kernel_rfl)) ?_
  refine Wp.ret ?_
  have hr := Option.some.inj h
  subst hr
  exact RetK [.t (.bool r1)] (.one (.t (.bool r1))) [] (by kernel_rfl) (by kernel_rfl) (.refl _) .nil
theorem impl_isPlace_ok (u : Nat) (p0 : Int) (r : Bool) (h : impl_isPlace u p0 = some r) : CallOK Try.prog 179 [.one (.t (.int .i64 p0))] (.one (.t (.bool r))) [] := by
  unfold impl_isPlace at h
  refine CallOK.of_bodyK (fn := Try.f179) (m := false) [.t (.int .i64 p0)] (by kernel_rfl) rfl (by kernel_rfl) (by kernel_rfl) (by kernel_rfl) (by kernel_rfl) (by kernel_rfl) ?_
  refine Wp.seq ?_
  refine Wp.regionS (pOf []) (rhoOf []) (by kernel_rfl) ?_
  refine Runs.all (by kernel_rfl) ?_
  refine thenN ?_
  refine Wp.le (Le.of (s := ⟨[(0, .t (.int .i64 p0)), (2, .t (.bool false))], [], []⟩) (mo := []) (mr := []) (by kernel_rfl) (by kernel_rfl) (by kernel_rfl) (by kernel_rfl)) ?_
  refine Wp.seq ?_
  refine Wp.regionS (pOf []) (rhoOf []) (by kernel_rfl) ?_
  refine Runs.batch 1 (by kernel_rfl) ?_
  obtain ⟨r1, e_r1, h⟩ := bind_some h
  refine Runs.callK false 4 41 [] [.t (.int .i64 p0), .t (.int .i64 0), .t (.int .i64 39)] [.one (.t (.int .i64 p0)), .one (.t (.int .i64 0)), .one (.t (.int .i64 39))] (.one (.t (.bool r1))) [] rfl rfl (by kernel_rfl) (by kernel_rfl) (by kernel_rfl) (by kernel_rfl) (by kernel_rfl) (impl_within_ok u p0 0 39 r1 e_r1) (by kernel_rfl) ?_
  refine Runs.all (by kernel_rfl) ?_
  refine thenN ?_
  refine Wp.le (Le.of (s := ⟨[(2, .t (.bool r1))], [], []⟩) (mo := []) (mr := []) (by kernel_rfl) (by kernel_rfl) (by kernel_rfl) (by kernel_rfl)) ?_
  refine Wp.ret ?_
  have hr := Option.some.inj h
  subst hr
  exact RetK [.t (.bool r1)] (.one (.t (.bool r1))) [] (by kernel_rfl) (by kernel_rfl) (.refl _) .nil
theorem impl_InSet_ok (u : Nat) (p0 : Int) (p1 : Int) (r : Bool) (h : impl_InSet u p0 p1 = some r) : CallOK Try.prog 147 [.one (.t (.int .i64 p0)), .one (.t (.int .i64 p1))] (.one (.t (.bool r))) [] := by
  unfold impl_InSet at h
  refine CallOK.of_bodyK (fn := Try.f147) (m := false) [.t (.int .i64 p0), .t (.int .i64 p1)] (by kernel_rfl) rfl (by kernel_rfl) (by kernel_rfl) (by kernel_rfl) (by kernel_rfl) (by kernel_rfl) ?_
  refine Wp.seq ?_
  refine Wp.regionS (pOf []) (rhoOf []) (by kernel_rfl) ?_
  refine Runs.all (by kernel_rfl) ?_
  refine thenN ?_
  refine Wp.le (Le.of (s := ⟨[(0, .t (.int .i64 p0)), (1, .t (.int .i64 p1)), (4, .t (.bool false))], [], []⟩) (mo := []) (mr := []) (by kernel_rfl) (by kernel_rfl) (by kernel_rfl) (by kernel_rfl)) ?_
  refine Wp.seq ?_
  refine Wp.regionS (pOf []) (rhoOf []) (by kernel_rfl) ?_
  refine Runs.batch 1 (by kernel_rfl) ?_
  obtain ⟨r1, e_r1, h⟩ := bind_some h
  refine Runs.callK false 6 178 [] [.t (.int .i64 p0)] [.one (.t (.int .i64 p0))] (.one (.t (.bool r1))) [] rfl rfl (by kernel_rfl) (by kernel_rfl) (by kernel_rfl) (by kernel_rfl) (by kernel_rfl) (impl_SetOk_ok u p0 r1 e_r1) (by kernel_rfl) ?_
  refine Runs.batch 1 (by kernel_rfl) ?_
  rcases tf (r1) with hc | hc
  · have h := cond_t h hc
    refine Runs.known 7 (v := true) (by kernel_rfl) hc ?_
    refine Runs.batch 1 (by kernel_rfl) ?_
    obtain ⟨r2, e_r2, h⟩ := bind_some h
    refine Runs.callK false 9 179 [] [.t (.int .i64 p1)] [.one (.t (.int .i64 p1))] (.one (.t (.bool r2))) [] rfl rfl (by kernel_rfl) (by kernel_rfl) (by kernel_rfl) (by kernel_rfl) (by kernel_rfl) (impl_isPlace_ok u p1 r2 e_r2) (by kernel_rfl) ?_
    refine Runs.batch 2 (by kernel_rfl) ?_
    rcases tf (r2) with hc | hc
    · have h := cond_t h hc
      refine Runs.known 11 (v := true) (by kernel_rfl) hc ?_
      refine Runs.batch 2 (by kernel_rfl) ?_
      obtain ⟨_, e_3, h⟩ := bind_some h
      refine Runs.num .shr (.int .i64 p0) (.int .i64 p1) (.int .i64 (bShr .i64 p0 p1)) rfl (by kernel_rfl) (by kernel_rfl) (by kernel_rfl) (by kernel_rfl) (bin_shr _ _ _ _ _ (chk_some e_3)) ?_
      refine Runs.all (by kernel_rfl) ?_
      refine thenN ?_
      refine Wp.le (Le.of (s := ⟨[(4, .t (.bool ((bAnd .i64 (bShr .i64 p0 p1) 1) == 1)))], [], []⟩) (mo := []) (mr := []) (by kernel_rfl) (by kernel_rfl) (by kernel_rfl) (by kernel_rfl)) ?_
      refine Wp.ret ?_
      have hr := Option.some.inj h
      subst hr
      exact RetK [.t (.bool ((bAnd .i64 (bShr .i64 p0 p1) 1) == 1))] (.one (.t (.bool ((bAnd .i64 (bShr .i64 p0 p1) 1) == 1)))) [] (by kernel_rfl) (by kernel_rfl) (.refl _) .nil
    · have h := cond_f h hc
      refine Runs.known 11 (v := false) (by kernel_rfl) hc ?_
      refine Runs.all (by kernel_rfl) ?_
      refine thenN ?_
      refine Wp.le (Le.of (s := ⟨[(4, .t (.bool false))], [], []⟩) (mo := []) (mr := []) (by kernel_rfl) (by kernel_rfl) (by kernel_rfl) (by kernel_rfl)) ?_
      refine Wp.ret ?_
      have hr := Option.some.inj h
      subst hr
      exact RetK [.t (.bool false)] (.one (.t (.bool false))) [] (by kernel_rfl) (by kernel_rfl) (.refl _) .nil
  · have h := cond_f h hc
    refine Runs.known 7 (v := false) (by kernel_rfl) hc ?_
    refine Runs.all (by kernel_rfl) ?_
    refine thenN ?_
    refine Wp.le (Le.of (s := ⟨[(4, .t (.bool false))], [], []⟩) (mo := []) (mr := []) (by kernel_rfl) (by kernel_rfl) (by kernel_rfl) (by kernel_rfl)) ?_
    refine Wp.ret ?_
    have hr := Option.some.inj h
    subst hr
    exact RetK [.t (.bool false)] (.one (.t (.bool false))) [] (by kernel_rfl) (by kernel_rfl) (.refl _) .nil
theorem impl_PartsIn_ok (u : Nat) (p0 : Int) (r : (List Int)) (h : impl_PartsIn u p0 = some r) : CallOK Try.prog 104 [.one (.t (.int .i64 p0))] (.one (.ow 3 1 (r.map (eInt .i64)))) [] := by
  unfold impl_PartsIn at h
  refine CallOK.of_bodyK (fn := Try.f104) (m := true) [.t (.int .i64 p0)] (by kernel_rfl) rfl (by kernel_rfl) (by kernel_rfl) (by kernel_rfl) (by kernel_rfl) (by kernel_rfl) ?_
  refine Wp.seq ?_
  refine Wp.regionS (pOf []) (rhoOf []) (by kernel_rfl) ?_
  refine Runs.all (by kernel_rfl) ?_
  refine thenN ?_
  refine Wp.le (Le.of (s := ⟨[(0, .t (.int .i64 p0)), (2, .nil)], [], []⟩) (mo := []) (mr := []) (by kernel_rfl) (by kernel_rfl) (by kernel_rfl) (by kernel_rfl)) ?_
  refine Wp.seq ?_
  refine Wp.regionS (pOf []) (rhoOf []) (by kernel_rfl) ?_
  refine Runs.all (by kernel_rfl) ?_
  refine thenN ?_
  refine Wp.le (Le.of (s := ⟨[(0, .t (.int .i64 p0)), (2, .nil), (3, .own 327680)], [], [(327680, .live 3 1 ((([] : List Int)).map (eInt .i64)))]⟩) (mo := []) (mr := []) (by kernel_rfl) (by kernel_rfl) (by kernel_rfl) (by kernel_rfl)) ?_
  refine Wp.seqJ (α := (List Int)) (fun a => ⟨[(2, .nil), (3, .own 196609)], [], [(196609, .live 3 1 (a.map (eInt .i64)))]⟩) (fun a => impl_PartsIn_j1 u a = some r) ?_ ?_
  · rintro x9 h
    change impl_PartsIn_j1 u x9 = some r at h
    unfold impl_PartsIn_j1 at h
    refine Wp.seq ?_
    refine Wp.regionS (pOf []) (rhoOf []) (by kernel_rfl) ?_
    refine Runs.all (by kernel_rfl) ?_
    refine thenN ?_
    refine Wp.le (Le.of (s := ⟨[(2, .own 196609)], [], [(196609, .live 3 1 (x9.map (eInt .i64)))]⟩) (mo := []) (mr := []) (by kernel_rfl) (by kernel_rfl) (by kernel_rfl) (by kernel_rfl)) ?_
    refine Wp.ret ?_
    have hr := Option.some.inj h
    subst hr
    exact RetK [.own 196609] (.one (.ow 3 1 (x9.map (eInt .i64)))) [] (by kernel_rfl) (by kernel_rfl) (.refl _) .nil
  · refine Wp.seq ?_
    refine Wp.regionS (pOf []) (rhoOf []) (by kernel_rfl) ?_
    refine Runs.all (by kernel_rfl) ?_
    refine thenN ?_
    refine Wp.le (Le.of (s := ⟨[(0, .t (.int .i64 p0)), (2, .nil), (3, .own 327680), (6, .t (.int .i64 0))], [], [(327680, .live 3 1 ((([] : List Int)).map (eInt .i64)))]⟩) (mo := []) (mr := []) (by kernel_rfl) (by kernel_rfl) (by kernel_rfl) (by kernel_rfl)) ?_
    refine Wp.block ?_
    refine Wp.loopF (α := Int × (List Int) × Int) (fun a => ⟨[(0, .t (.int .i64 a.1)), (2, .nil), (3, .own 196609), (6, .t (.int .i64 a.2.2))], [], [(196609, .live 3 1 (a.2.1.map (eInt .i64)))]⟩) (fun k_impl_PartsIn_l2 a => impl_PartsIn_l2 u k_impl_PartsIn_l2 a.1 a.2.1 a.2.2 = some r) ?_ ?_ u (p0, ([] : List Int), 0) h (Le.of (mo := []) (mr := [(196609, 327680)]) (by kernel_rfl) (by kernel_rfl) (by kernel_rfl) (by kernel_rfl))
    · intro a h; unfold impl_PartsIn_l2 at h; cases h
    · rintro k_impl_PartsIn_l2 ⟨p0, x3, x4⟩ h
      change impl_PartsIn_l2 u (k_impl_PartsIn_l2 + 1) p0 x3 x4 = some r at h
      rw [impl_PartsIn_l2] at h
      refine Wp.seq ?_
      refine Wp.regionS (pOf []) (rhoOf []) (by kernel_rfl) ?_
      refine Runs.all (by kernel_rfl) ?_
      refine thenN ?_
      refine Wp.le (Le.of (s := ⟨[(0, .t (.int .i64 p0)), (2, .nil), (3, .own 196609), (6, .t (.int .i64 x4)), (7, .t (.bool (decide (x4 < 40))))], [], [(196609, .live 3 1 (x3.map (eInt .i64)))]⟩) (mo := []) (mr := []) (by kernel_rfl) (by kernel_rfl) (by kernel_rfl) (by kernel_rfl)) ?_
      refine Wp.seq ?_
      refine Wp.cond2 (b := decide (x4 < 40)) (by kernel_rfl) (fun hc => ?_) (fun hc => ?_)
      · have h := cond_t h hc
        refine Wp.skip ?_
        refine thenN ?_
        refine Wp.seqJ (α := Int × (List Int) × Int × Bool) (fun a => ⟨[(0, .t (.int .i64 a.1)), (2, .nil), (3, .own 196609), (4, .t (.int .i64 a.2.2.1)), (6, .t (.int .i64 a.2.2.1)), (7, .t (.bool (decide (a.2.2.1 < 40)))), (8, .t (.int .i64 a.2.2.1)), (9, .t (.int .i64 a.1)), (10, .t (.int .i64 a.2.2.1)), (11, .t (.bool a.2.2.2))], [], [(196609, .live 3 1 (a.2.1.map (eInt .i64)))]⟩) (fun a => impl_PartsIn_j3 u (fun z0 z1 z2 => impl_PartsIn_l2 u k_impl_PartsIn_l2 z0 z1 z2) a.1 a.2.1 a.2.2.1 a.2.2.2 = some r) ?_ ?_
        · rintro ⟨p0, x8, x4, r7⟩ h
          change impl_PartsIn_j3 u (fun z0 z1 z2 => impl_PartsIn_l2 u k_impl_PartsIn_l2 z0 z1 z2) p0 x8 x4 r7 = some r at h
          unfold impl_PartsIn_j3 at h
          refine Wp.regionS (pOf []) (rhoOf []) (by kernel_rfl) ?_
          refine Runs.all (by kernel_rfl) ?_
          refine thenN ?_
          exact ⟨(p0, x8, bAdd .i64 x4 1), h, Le.of (mo := []) (mr := []) (by kernel_rfl) (by kernel_rfl) (by kernel_rfl) (by kernel_rfl)⟩
        · refine Wp.block ?_
          refine Wp.seq ?_
          refine Wp.regionS (pOf []) (rhoOf []) (by kernel_rfl) ?_
          refine Runs.all (by kernel_rfl) ?_
          refine thenN ?_
          refine Wp.le (Le.of (s := ⟨[(0, .t (.int .i64 p0)), (2, .nil), (3, .own 196609), (4, .t (.int .i64 x4)), (6, .t (.int .i64 x4)), (7, .t (.bool (decide (x4 < 40)))), (8, .t (.int .i64 x4))], [], [(196609, .live 3 1 (x3.map (eInt .i64)))]⟩) (mo := []) (mr := []) (by kernel_rfl) (by kernel_rfl) (by kernel_rfl) (by kernel_rfl)) ?_
          refine Wp.seq ?_
          refine Wp.regionS (pOf []) (rhoOf []) (by kernel_rfl) ?_
          refine Runs.batch 2 (by kernel_rfl) ?_
          obtain ⟨r7, e_r7, h⟩ := bind_some h
          refine Runs.callK false 11 147 [] [.t (.int .i64 p0), .t (.int .i64 x4)] [.one (.t (.int .i64 p0)), .one (.t (.int .i64 x4))] (.one (.t (.bool r7))) [] rfl rfl (by kernel_rfl) (by kernel_rfl) (by kernel_rfl) (by kernel_rfl) (by kernel_rfl) (impl_InSet_ok u p0 x4 r7 e_r7) (by kernel_rfl) ?_
          refine Runs.done ?_
          refine thenN ?_
          refine Wp.le (Le.of (s := ⟨[(0, .t (.int .i64 p0)), (2, .nil), (3, .own 196609), (4, .t (.int .i64 x4)), (6, .t (.int .i64 x4)), (7, .t (.bool (decide (x4 < 40)))), (8, .t (.int .i64 x4)), (9, .t (.int .i64 p0)), (10, .t (.int .i64 x4)), (11, .t (.bool r7))], [], [(196609, .live 3 1 (x3.map (eInt .i64)))]⟩) (mo := []) (mr := []) (by kernel_rfl) (by kernel_rfl) (by kernel_rfl) (by kernel_rfl)) ?_
          refine Wp.cond2 (b := r7) (by kernel_rfl) (fun hc => ?_) (fun hc => ?_)
          · have h := cond_t h hc
            refine Wp.regionS (pOf []) (rhoOf []) (by kernel_rfl) ?_
            refine Runs.batch 3 (by kernel_rfl) ?_
            obtain ⟨_, e_8, h⟩ := bind_some h
            refine Runs.appT (y := .own 917504) (eInt .i64) 15 1 3 1 8 196609 x3 ([x4]) rfl rfl rfl rfl (by kernel_rfl) (by kernel_rfl) (by kernel_rfl) (by kernel_rfl) (by kernel_rfl) (by kernel_rfl) (.inl rfl) (by kernel_rfl) (of_decide_eq_true (chk_some e_8)) (by kernel_rfl) (by kernel_rfl) ?_
            refine Runs.all (by kernel_rfl) ?_
            refine blkN ?_
            refine thenN ?_
            exact ⟨(p0, x3 ++ ([x4]), x4, r7), h, Le.of (mo := []) (mr := [(196609, 983040)]) (by kernel_rfl) (by kernel_rfl) (by kernel_rfl) (by kernel_rfl)⟩
          · have h := cond_f h hc
            refine Wp.skip ?_
            refine blkN ?_
            refine thenN ?_
            exact ⟨(p0, x3, x4, r7), h, Le.of (mo := []) (mr := []) (by kernel_rfl) (by kernel_rfl) (by kernel_rfl) (by kernel_rfl)⟩
      · have h := cond_f h hc
        refine Wp.exit ?_
        refine thenE ?_
        refine thenE ?_
        refine blkE ?_
        refine thenN ?_
        exact ⟨x3, h, Le.of (mo := []) (mr := []) (by kernel_rfl) (by kernel_rfl) (by kernel_rfl) (by kernel_rfl)⟩
theorem impl_BytesLacking_ok (u : Nat) (p0 : List Int) (p1 : Manifest) (r : Int) (h : impl_BytesLacking u p0 p1 = some r) : CallOK Try.prog 51 [.one (.t (.sl 1 (p0.map (eInt .u8)))), .agg [.t (.int .i64 p1.fGen), .t (.int .i64 p1.fSize), .t (.int .i64 p1.fLen), .t (.sl 2 (p1.fSums.map Sum.enc))]] (.one (.t (.int .i64 r))) [] := by
  unfold impl_BytesLacking at h
  refine CallOK.of_bodyK (fn := Try.f51) (m := false) [.t (.sl 1 (p0.map (eInt .u8))), .agg [.t (.int .i64 p1.fGen), .t (.int .i64 p1.fSize), .t (.int .i64 p1.fLen), .t (.sl 2 (p1.fSums.map Sum.enc))]] (by kernel_rfl) rfl (by kernel_rfl) (by kernel_rfl) (by kernel_rfl) (by kernel_rfl) (by kernel_rfl) ?_
  refine Wp.seq ?_
  refine Wp.regionS (pOf []) (rhoOf []) (by kernel_rfl) ?_
  refine Runs.all (by kernel_rfl) ?_
  refine thenN ?_
  refine Wp.le (Le.of (s := ⟨[(0, .t (.sl 1 (p0.map (eInt .u8)))), (3, .obj 3 0), (4, .t (.int .i64 0))], [(3, [.t (.int .i64 p1.fGen), .t (.int .i64 p1.fSize), .t (.int .i64 p1.fLen), .t (.sl 2 (p1.fSums.map Sum.enc))])], []⟩) (mo := []) (mr := []) (by kernel_rfl) (by kernel_rfl) (by kernel_rfl) (by kernel_rfl)) ?_
  refine Wp.seq ?_
  refine Wp.regionS (pOf []) (rhoOf []) (by kernel_rfl) ?_
  refine Runs.all (by kernel_rfl) ?_
  refine thenN ?_
  refine Wp.le (Le.of (s := ⟨[(0, .t (.sl 1 (p0.map (eInt .u8)))), (3, .obj 3 0), (4, .t (.int .i64 0)), (5, .t (.int .i64 0))], [(3, [.t (.int .i64 p1.fGen), .t (.int .i64 p1.fSize), .t (.int .i64 p1.fLen), .t (.sl 2 (p1.fSums.map Sum.enc))])], []⟩) (mo := []) (mr := []) (by kernel_rfl) (by kernel_rfl) (by kernel_rfl) (by kernel_rfl)) ?_
  refine Wp.seqJ (α := Int) (fun a => ⟨[(4, .t (.int .i64 0)), (5, .t (.int .i64 a))], [], []⟩) (fun a => impl_BytesLacking_j1 u a = some r) ?_ ?_
  · rintro x11 h
    change impl_BytesLacking_j1 u x11 = some r at h
    unfold impl_BytesLacking_j1 at h
    refine Wp.seq ?_
    refine Wp.regionS (pOf []) (rhoOf []) (by kernel_rfl) ?_
    refine Runs.all (by kernel_rfl) ?_
    refine thenN ?_
    refine Wp.le (Le.of (s := ⟨[(4, .t (.int .i64 x11))], [], []⟩) (mo := []) (mr := []) (by kernel_rfl) (by kernel_rfl) (by kernel_rfl) (by kernel_rfl)) ?_
    refine Wp.ret ?_
    have hr := Option.some.inj h
    subst hr
    exact RetK [.t (.int .i64 x11)] (.one (.t (.int .i64 x11))) [] (by kernel_rfl) (by kernel_rfl) (.refl _) .nil
  · refine Wp.seq ?_
    refine Wp.regionS (pOf []) (rhoOf []) (by kernel_rfl) ?_
    refine Runs.batch 2 (by kernel_rfl) ?_
    obtain ⟨r1, e_r1, h⟩ := bind_some h
    refine Runs.callK false 12 105 [] [.t (.sl 1 (p0.map (eInt .u8))), .agg [.t (.int .i64 p1.fGen), .t (.int .i64 p1.fSize), .t (.int .i64 p1.fLen), .t (.sl 2 (p1.fSums.map Sum.enc))]] [.one (.t (.sl 1 (p0.map (eInt .u8)))), .agg [.t (.int .i64 p1.fGen), .t (.int .i64 p1.fSize), .t (.int .i64 p1.fLen), .t (.sl 2 (p1.fSums.map Sum.enc))]] (.one (.t (.int .i64 r1))) [] rfl rfl (by kernel_rfl) (by kernel_rfl) (by kernel_rfl) (by kernel_rfl) (by kernel_rfl) (impl_Lacking_ok u p0 p1 r1 e_r1) (by kernel_rfl) ?_
    obtain ⟨r2, e_r2, h⟩ := bind_some h
    refine Runs.callK false 13 104 [] [.t (.int .i64 r1)] [.one (.t (.int .i64 r1))] (.one (.ow 3 1 (r2.map (eInt .i64)))) [] rfl rfl (by kernel_rfl) (by kernel_rfl) (by kernel_rfl) (by kernel_rfl) (by kernel_rfl) (impl_PartsIn_ok u r1 r2 e_r2) (by kernel_rfl) ?_
    refine Runs.lenT (y := .own 851968) (e := 3) (eInt .i64) r2 1 rfl rfl rfl (by kernel_rfl) (by kernel_rfl) (by kernel_rfl) (by kernel_rfl) (by kernel_rfl) ?_
    refine Runs.all (by kernel_rfl) ?_
    refine thenN ?_
    refine Wp.le (Le.of (s := ⟨[(3, .obj 3 0), (4, .t (.int .i64 0)), (5, .t (.int .i64 0)), (13, .own 851968), (14, .t (.int .i64 ((r2.length : Int)))), (15, .t (.int .i64 0))], [(3, [.t (.int .i64 p1.fGen), .t (.int .i64 p1.fSize), .t (.int .i64 p1.fLen), .t (.sl 2 (p1.fSums.map Sum.enc))])], [(851968, .live 3 1 (r2.map (eInt .i64)))]⟩) (mo := []) (mr := []) (by kernel_rfl) (by kernel_rfl) (by kernel_rfl) (by kernel_rfl)) ?_
    refine Wp.block ?_
    refine Wp.loopF (α := Int × ((List Int)) × Int × Manifest) (fun a => ⟨[(3, .obj 3 0), (4, .t (.int .i64 0)), (5, .t (.int .i64 a.1)), (13, .own 851969), (14, .t (.int .i64 ((a.2.1.length : Int)))), (15, .t (.int .i64 a.2.2.1))], [(3, [.t (.int .i64 a.2.2.2.fGen), .t (.int .i64 a.2.2.2.fSize), .t (.int .i64 a.2.2.2.fLen), .t (.sl 2 (a.2.2.2.fSums.map Sum.enc))])], [(851969, .live 3 1 (a.2.1.map (eInt .i64)))]⟩) (fun k_impl_BytesLacking_l2 a => impl_BytesLacking_l2 u k_impl_BytesLacking_l2 a.1 a.2.1 a.2.2.1 a.2.2.2 = some r) ?_ ?_ u (0, r2, 0, p1) h (Le.of (mo := []) (mr := [(851969, 851968)]) (by kernel_rfl) (by kernel_rfl) (by kernel_rfl) (by kernel_rfl))
    · intro a h; unfold impl_BytesLacking_l2 at h; cases h
    · rintro k_impl_BytesLacking_l2 ⟨x5, r2, x6, p1⟩ h
      change impl_BytesLacking_l2 u (k_impl_BytesLacking_l2 + 1) x5 r2 x6 p1 = some r at h
      rw [impl_BytesLacking_l2] at h
      refine Wp.seq ?_
      refine Wp.regionS (pOf []) (rhoOf []) (by kernel_rfl) ?_
      refine Runs.all (by kernel_rfl) ?_
      refine thenN ?_
      refine Wp.le (Le.of (s := ⟨[(3, .obj 3 0), (4, .t (.int .i64 0)), (5, .t (.int .i64 x5)), (13, .own 851969), (14, .t (.int .i64 ((r2.length : Int)))), (15, .t (.int .i64 x6)), (16, .t (.bool (decide (x6 < ((r2.length : Int))))))], [(3, [.t (.int .i64 p1.fGen), .t (.int .i64 p1.fSize), .t (.int .i64 p1.fLen), .t (.sl 2 (p1.fSums.map Sum.enc))])], [(851969, .live 3 1 (r2.map (eInt .i64)))]⟩) (mo := []) (mr := []) (by kernel_rfl) (by kernel_rfl) (by kernel_rfl) (by kernel_rfl)) ?_
      refine Wp.seq ?_
      refine Wp.cond2 (b := decide (x6 < ((r2.length : Int)))) (by kernel_rfl) (fun hc => ?_) (fun hc => ?_)
      · have h := cond_t h hc
        refine Wp.skip ?_
        refine thenN ?_
        refine Wp.seq ?_
        refine Wp.block ?_
        refine Wp.seq ?_
        refine Wp.regionS (pOf []) (rhoOf []) (by kernel_rfl) ?_
        obtain ⟨y9, e_y9, h⟩ := bind_some h
        refine Runs.idxO (e := 3) (e' := 3) (kk := .i64) (sz := 1) (eInt .i64) r2 x6 851969 rfl (by kernel_rfl) (by kernel_rfl) (by kernel_rfl) (by kernel_rfl) (by kernel_rfl) (by kernel_rfl) (by kernel_rfl) e_y9 ?_
        refine Runs.loadE (e' := 3) (sz := 1) (m := 1) (gg := false) (eInt .i64) r2 851969 (Int.toNat x6) 0 (.t (.int .i64 y9)) rfl (by kernel_rfl) (by kernel_rfl) (by kernel_rfl) (by kernel_rfl) (by kernel_rfl) (by kernel_rfl) (idx_some e_y9).2 (by kernel_rfl) ?_
        refine Runs.all (by kernel_rfl) ?_
        refine thenN ?_
        refine Wp.le (Le.of (s := ⟨[(3, .obj 3 0), (4, .t (.int .i64 0)), (5, .t (.int .i64 x5)), (7, .t (.int .i64 y9)), (13, .own 851969), (14, .t (.int .i64 ((r2.length : Int)))), (15, .t (.int .i64 x6)), (16, .t (.bool (decide (x6 < ((r2.length : Int)))))), (17, .elem 851969 1 (Int.toNat x6) 0), (18, .t (.int .i64 y9))], [(3, [.t (.int .i64 p1.fGen), .t (.int .i64 p1.fSize), .t (.int .i64 p1.fLen), .t (.sl 2 (p1.fSums.map Sum.enc))])], [(851969, .live 3 1 (r2.map (eInt .i64)))]⟩) (mo := []) (mr := []) (by kernel_rfl) (by kernel_rfl) (by kernel_rfl) (by kernel_rfl)) ?_
        refine Wp.seq ?_
        refine Wp.regionS (pOf []) (rhoOf []) (by kernel_rfl) ?_
        refine Runs.batch 5 (by kernel_rfl) ?_
        obtain ⟨r10, e_r10, h⟩ := bind_some h
        refine Runs.callK false 25 106 [] [.t (.int .i64 p1.fSize), .t (.int .i64 p1.fLen), .t (.int .i64 y9)] [.one (.t (.int .i64 p1.fSize)), .one (.t (.int .i64 p1.fLen)), .one (.t (.int .i64 y9))] (.tup [.one (.t (.int .i64 r10.1)), .one (.t (.int .i64 r10.2))]) [] rfl rfl (by kernel_rfl) (by kernel_rfl) (by kernel_rfl) (by kernel_rfl) (by kernel_rfl) (impl_SpanOf_ok u p1.fSize p1.fLen y9 r10 e_r10) (by kernel_rfl) ?_
        refine Runs.all (by kernel_rfl) ?_
        refine thenN ?_
        refine Wp.le (Le.of (s := ⟨[(3, .obj 3 0), (4, .t (.int .i64 0)), (5, .t (.int .i64 x5)), (7, .t (.int .i64 y9)), (9, .t (.int .i64 r10.2)), (13, .own 851969), (14, .t (.int .i64 ((r2.length : Int)))), (15, .t (.int .i64 x6)), (16, .t (.bool (decide (x6 < ((r2.length : Int)))))), (17, .elem 851969 1 (Int.toNat x6) 0), (18, .t (.int .i64 y9)), (19, .tup [.t (.int .i64 r10.1), .t (.int .i64 r10.2)]), (20, .obj 3 1), (21, .t (.int .i64 p1.fSize)), (22, .obj 3 2), (23, .t (.int .i64 p1.fLen)), (24, .t (.int .i64 y9)), (25, .tup [.t (.int .i64 r10.1), .t (.int .i64 r10.2)]), (26, .t (.int .i64 r10.1)), (27, .t (.int .i64 r10.2))], [(3, [.t (.int .i64 p1.fGen), .t (.int .i64 p1.fSize), .t (.int .i64 p1.fLen), .t (.sl 2 (p1.fSums.map Sum.enc))])], [(851969, .live 3 1 (r2.map (eInt .i64)))]⟩) (mo := []) (mr := []) (by kernel_rfl) (by kernel_rfl) (by kernel_rfl) (by kernel_rfl)) ?_
        refine Wp.regionS (pOf []) (rhoOf []) (by kernel_rfl) ?_
        refine Runs.all (by kernel_rfl) ?_
        refine blkN ?_
        refine thenN ?_
        refine Wp.regionS (pOf []) (rhoOf []) (by kernel_rfl) ?_
        refine Runs.all (by kernel_rfl) ?_
        refine thenN ?_
        exact ⟨(bAdd .i64 x5 r10.2, r2, bAdd .i64 x6 1, p1), h, Le.of (mo := []) (mr := []) (by kernel_rfl) (by kernel_rfl) (by kernel_rfl) (by kernel_rfl)⟩
      · have h := cond_f h hc
        refine Wp.exit ?_
        refine thenE ?_
        refine thenE ?_
        refine blkE ?_
        refine thenN ?_
        exact ⟨x5, h, Le.of (mo := []) (mr := []) (by kernel_rfl) (by kernel_rfl) (by kernel_rfl) (by kernel_rfl)⟩
theorem impl_CostOf_ok (u : Nat) (p0 : List Int) (p1 : List Image) (p2 : Int) (r : Int) (h : impl_CostOf u p0 p1 p2 = some r) : CallOK Try.prog 20 [.one (.t (.sl 1 (p0.map (eInt .u8)))), .one (.t (.sl 1 (p1.map Image.enc))), .one (.t (.int .i64 p2))] (.one (.t (.int .i64 r))) [] := by
  unfold impl_CostOf at h
  refine CallOK.of_bodyK (fn := Try.f20) (m := false) [.t (.sl 1 (p0.map (eInt .u8))), .t (.sl 1 (p1.map Image.enc)), .t (.int .i64 p2)] (by kernel_rfl) rfl (by kernel_rfl) (by kernel_rfl) (by kernel_rfl) (by kernel_rfl) (by kernel_rfl) ?_
  refine Wp.seq ?_
  refine Wp.regionS (pOf []) (rhoOf []) (by kernel_rfl) ?_
  refine Runs.all (by kernel_rfl) ?_
  refine thenN ?_
  refine Wp.le (Le.of (s := ⟨[(0, .t (.sl 1 (p0.map (eInt .u8)))), (1, .t (.sl 1 (p1.map Image.enc))), (2, .t (.int .i64 p2)), (6, .t (.int .i64 0))], [], []⟩) (mo := []) (mr := []) (by kernel_rfl) (by kernel_rfl) (by kernel_rfl) (by kernel_rfl)) ?_
  refine Wp.seq ?_
  refine Wp.seq ?_
  refine Wp.regionS (pOf []) (rhoOf []) (by kernel_rfl) ?_
  refine Runs.batch 2 (by kernel_rfl) ?_
  refine Runs.lenT (y := .t (.sl 1 (p0.map (eInt .u8)))) (e := 5) (eInt .u8) p0 1 rfl rfl rfl (by kernel_rfl) (by kernel_rfl) (by kernel_rfl) (by kernel_rfl) (by kernel_rfl) ?_
  obtain ⟨r1, e_r1, h⟩ := bind_some h
  refine Runs.callK false 14 48 [] [.t (.int .i64 p2), .t (.int .i64 ((p0.length : Int)))] [.one (.t (.int .i64 p2)), .one (.t (.int .i64 ((p0.length : Int))))] (.one (.t (.bool r1))) [] rfl rfl (by kernel_rfl) (by kernel_rfl) (by kernel_rfl) (by kernel_rfl) (by kernel_rfl) (impl_SizeOk_ok u p2 ((p0.length : Int)) r1 e_r1) (by kernel_rfl) ?_
  refine Runs.all (by kernel_rfl) ?_
  refine thenN ?_
  refine Wp.le (Le.of (s := ⟨[(0, .t (.sl 1 (p0.map (eInt .u8)))), (1, .t (.sl 1 (p1.map Image.enc))), (2, .t (.int .i64 p2)), (6, .t (.int .i64 0)), (15, .t (.bool (!r1)))], [], []⟩) (mo := []) (mr := []) (by kernel_rfl) (by kernel_rfl) (by kernel_rfl) (by kernel_rfl)) ?_
  refine Wp.cond2 (b := !r1) (by kernel_rfl) (fun hc => ?_) (fun hc => ?_)
  · have h := cond_t h hc
    refine Wp.seq ?_
    refine Wp.regionS (pOf []) (rhoOf []) (by kernel_rfl) ?_
    refine Runs.all (by kernel_rfl) ?_
    refine thenN ?_
    refine Wp.le (Le.of (s := ⟨[(0, .t (.sl 1 (p0.map (eInt .u8)))), (1, .t (.sl 1 (p1.map Image.enc))), (2, .t (.int .i64 p2)), (6, .t (.int .i64 (-1)))], [], []⟩) (mo := []) (mr := []) (by kernel_rfl) (by kernel_rfl) (by kernel_rfl) (by kernel_rfl)) ?_
    refine Wp.ret ?_
    refine thenR ?_
    have hr := Option.some.inj h
    subst hr
    exact RetK [.t (.int .i64 (-1))] (.one (.t (.int .i64 (-1)))) [] (by kernel_rfl) (by kernel_rfl) (.refl _) .nil
  · have h := cond_f h hc
    refine Wp.skip ?_
    refine thenN ?_
    refine Wp.seq ?_
    refine Wp.regionS (pOf []) (rhoOf []) (by kernel_rfl) ?_
    refine Runs.batch 2 (by kernel_rfl) ?_
    obtain ⟨r2, e_r2, h⟩ := bind_some h
    refine Runs.callK false 18 49 [] [.t (.int .i64 1), .t (.sl 1 (p0.map (eInt .u8))), .t (.int .i64 p2)] [.one (.t (.int .i64 1)), .one (.t (.sl 1 (p0.map (eInt .u8)))), .one (.t (.int .i64 p2))] (.agg [.t (.int .i64 r2.fGen), .t (.int .i64 r2.fSize), .t (.int .i64 r2.fLen), .ow 166 2 (r2.fSums.map Sum.enc)]) [] rfl rfl (by kernel_rfl) (by kernel_rfl) (by kernel_rfl) (by kernel_rfl) (by kernel_rfl) (impl_ManOf_ok u 1 p0 p2 r2 e_r2) (by kernel_rfl) ?_
    refine Runs.all (by kernel_rfl) ?_
    refine thenN ?_
    refine Wp.le (Le.of (s := ⟨[(1, .t (.sl 1 (p1.map Image.enc))), (6, .t (.int .i64 0)), (7, .obj 7 0)], [(7, [.t (.int .i64 r2.fGen), .t (.int .i64 r2.fSize), .t (.int .i64 r2.fLen), .own 1179651])], [(1179651, .live 166 2 (r2.fSums.map Sum.enc))]⟩) (mo := []) (mr := []) (by kernel_rfl) (by kernel_rfl) (by kernel_rfl) (by kernel_rfl)) ?_
    refine Wp.seq ?_
    refine Wp.regionS (pOf []) (rhoOf []) (by kernel_rfl) ?_
    refine Runs.all (by kernel_rfl) ?_
    refine thenN ?_
    refine Wp.le (Le.of (s := ⟨[(1, .t (.sl 1 (p1.map Image.enc))), (6, .t (.int .i64 0)), (7, .obj 7 0), (8, .t (.int .i64 0))], [(7, [.t (.int .i64 r2.fGen), .t (.int .i64 r2.fSize), .t (.int .i64 r2.fLen), .own 1179651])], [(1179651, .live 166 2 (r2.fSums.map Sum.enc))]⟩) (mo := []) (mr := []) (by kernel_rfl) (by kernel_rfl) (by kernel_rfl) (by kernel_rfl)) ?_
    refine Wp.seqJ (α := Int) (fun a => ⟨[(6, .t (.int .i64 0)), (8, .t (.int .i64 a))], [], []⟩) (fun a => impl_CostOf_j1 u a = some r) ?_ ?_
    · rintro x12 h
      change impl_CostOf_j1 u x12 = some r at h
      unfold impl_CostOf_j1 at h
      refine Wp.seq ?_
      refine Wp.regionS (pOf []) (rhoOf []) (by kernel_rfl) ?_
      refine Runs.all (by kernel_rfl) ?_
      refine thenN ?_
      refine Wp.le (Le.of (s := ⟨[(6, .t (.int .i64 x12))], [], []⟩) (mo := []) (mr := []) (by kernel_rfl) (by kernel_rfl) (by kernel_rfl) (by kernel_rfl)) ?_
      refine Wp.ret ?_
      have hr := Option.some.inj h
      subst hr
      exact RetK [.t (.int .i64 x12)] (.one (.t (.int .i64 x12))) [] (by kernel_rfl) (by kernel_rfl) (.refl _) .nil
    · refine Wp.seq ?_
      refine Wp.regionS (pOf []) (rhoOf []) (by kernel_rfl) ?_
      refine Runs.batch 1 (by kernel_rfl) ?_
      refine Runs.lenT (y := .t (.sl 1 (p1.map Image.enc))) (e := 67) Image.enc p1 1 rfl rfl rfl (by kernel_rfl) (by kernel_rfl) (by kernel_rfl) (by kernel_rfl) (by kernel_rfl) ?_
      refine Runs.all (by kernel_rfl) ?_
      refine thenN ?_
      refine Wp.le (Le.of (s := ⟨[(6, .t (.int .i64 0)), (7, .obj 7 0), (8, .t (.int .i64 0)), (19, .t (.sl 1 (p1.map Image.enc))), (20, .t (.int .i64 ((p1.length : Int)))), (21, .t (.int .i64 0))], [(7, [.t (.int .i64 r2.fGen), .t (.int .i64 r2.fSize), .t (.int .i64 r2.fLen), .own 1179651])], [(1179651, .live 166 2 (r2.fSums.map Sum.enc))]⟩) (mo := []) (mr := []) (by kernel_rfl) (by kernel_rfl) (by kernel_rfl) (by kernel_rfl)) ?_
      refine Wp.block ?_
      refine Wp.loopF (α := Int × (List Image) × Int × Manifest) (fun a => ⟨[(6, .t (.int .i64 0)), (7, .obj 7 0), (8, .t (.int .i64 a.1)), (19, .t (.sl 1 (a.2.1.map Image.enc))), (20, .t (.int .i64 ((a.2.1.length : Int)))), (21, .t (.int .i64 a.2.2.1))], [(7, [.t (.int .i64 a.2.2.2.fGen), .t (.int .i64 a.2.2.2.fSize), .t (.int .i64 a.2.2.2.fLen), .t (.sl 2 (a.2.2.2.fSums.map Sum.enc))])], []⟩) (fun k_impl_CostOf_l2 a => impl_CostOf_l2 u k_impl_CostOf_l2 a.1 a.2.1 a.2.2.1 a.2.2.2 = some r) ?_ ?_ u (0, p1, 0, r2) h (Le.trans (Le.frzO 7 3 1179651 166 2 [.t (.int .i64 r2.fGen), .t (.int .i64 r2.fSize), .t (.int .i64 r2.fLen), .own 1179651] (r2.fSums.map Sum.enc) (by kernel_rfl) (by kernel_rfl) (by kernel_rfl)) (Le.of (mo := []) (mr := []) (by kernel_rfl) (by kernel_rfl) (by kernel_rfl) (by kernel_rfl)))
      · intro a h; unfold impl_CostOf_l2 at h; cases h
      · rintro k_impl_CostOf_l2 ⟨x5, p1, x6, r2⟩ h
        change impl_CostOf_l2 u (k_impl_CostOf_l2 + 1) x5 p1 x6 r2 = some r at h
        rw [impl_CostOf_l2] at h
        refine Wp.seq ?_
        refine Wp.regionS (pOf []) (rhoOf []) (by kernel_rfl) ?_
        refine Runs.all (by kernel_rfl) ?_
        refine thenN ?_
        refine Wp.le (Le.of (s := ⟨[(6, .t (.int .i64 0)), (7, .obj 7 0), (8, .t (.int .i64 x5)), (19, .t (.sl 1 (p1.map Image.enc))), (20, .t (.int .i64 ((p1.length : Int)))), (21, .t (.int .i64 x6)), (22, .t (.bool (decide (x6 < ((p1.length : Int))))))], [(7, [.t (.int .i64 r2.fGen), .t (.int .i64 r2.fSize), .t (.int .i64 r2.fLen), .t (.sl 2 (r2.fSums.map Sum.enc))])], []⟩) (mo := []) (mr := []) (by kernel_rfl) (by kernel_rfl) (by kernel_rfl) (by kernel_rfl)) ?_
        refine Wp.seq ?_
        refine Wp.cond2 (b := decide (x6 < ((p1.length : Int)))) (by kernel_rfl) (fun hc => ?_) (fun hc => ?_)
        · have h := cond_t h hc
          refine Wp.skip ?_
          refine thenN ?_
          refine Wp.seq ?_
          refine Wp.block ?_
          refine Wp.seq ?_
          refine Wp.regionS (pOf []) (rhoOf []) (by kernel_rfl) ?_
          obtain ⟨y9, e_y9, h⟩ := bind_some h
          refine Runs.idxT (e := 67) (kk := .i64) (sz := 1) Image.enc p1 x6 rfl (by kernel_rfl) (by kernel_rfl) (by kernel_rfl) (by kernel_rfl) (by kernel_rfl) (by kernel_rfl) e_y9 ?_
          refine Runs.all (by kernel_rfl) ?_
          refine thenN ?_
          refine Wp.le (Le.of (s := ⟨[(6, .t (.int .i64 0)), (7, .obj 7 0), (8, .t (.int .i64 x5)), (10, .obj 10 0), (19, .t (.sl 1 (p1.map Image.enc))), (20, .t (.int .i64 ((p1.length : Int)))), (21, .t (.int .i64 x6)), (22, .t (.bool (decide (x6 < ((p1.length : Int)))))), (23, .fadr [.sl 1 (y9.fB.map (eInt .u8))]), (24, .agg [.t (.sl 1 (y9.fB.map (eInt .u8)))])], [(7, [.t (.int .i64 r2.fGen), .t (.int .i64 r2.fSize), .t (.int .i64 r2.fLen), .t (.sl 2 (r2.fSums.map Sum.enc))]), (10, [.t (.sl 1 (y9.fB.map (eInt .u8)))])], []⟩) (mo := []) (mr := []) (by kernel_rfl) (by kernel_rfl) (by kernel_rfl) (by kernel_rfl)) ?_
          refine Wp.regionA (pOf []) (rhoOf [(7, .obj 7), (8, .frz), (10, .obj 10), (25, .frz), (26, .frz), (27, .frz), (28, .obj 10), (29, .frz), (30, .frz), (31, .frz), (32, .frz), (33, .frz)]) (by kernel_rfl) (by kernel_rfl) ?_
          refine Runs.batch 2 (by kernel_rfl) ?_
          obtain ⟨r10, e_r10, h⟩ := bind_some h
          refine Runs.callK false 27 50 [] [.agg [.t (.int .i64 r2.fGen), .t (.int .i64 r2.fSize), .t (.int .i64 r2.fLen), .t (.sl 2 (r2.fSums.map Sum.enc))]] [.agg [.t (.int .i64 r2.fGen), .t (.int .i64 r2.fSize), .t (.int .i64 r2.fLen), .t (.sl 2 (r2.fSums.map Sum.enc))]] (.one (.t (.int .i64 r10))) [] rfl rfl (by kernel_rfl) (by kernel_rfl) (by kernel_rfl) (by kernel_rfl) (by kernel_rfl) (impl_ManBytes_ok u r2 r10 e_r10) (by kernel_rfl) ?_
          refine Runs.batch 3 (by kernel_rfl) ?_
          obtain ⟨r11, e_r11, h⟩ := bind_some h
          refine Runs.callK false 31 51 [] [.t (.sl 1 (y9.fB.map (eInt .u8))), .agg [.t (.int .i64 r2.fGen), .t (.int .i64 r2.fSize), .t (.int .i64 r2.fLen), .t (.sl 2 (r2.fSums.map Sum.enc))]] [.one (.t (.sl 1 (y9.fB.map (eInt .u8)))), .agg [.t (.int .i64 r2.fGen), .t (.int .i64 r2.fSize), .t (.int .i64 r2.fLen), .t (.sl 2 (r2.fSums.map Sum.enc))]] (.one (.t (.int .i64 r11))) [] rfl rfl (by kernel_rfl) (by kernel_rfl) (by kernel_rfl) (by kernel_rfl) (by kernel_rfl) (impl_BytesLacking_ok u y9.fB r2 r11 e_r11) (by kernel_rfl) ?_
          refine Runs.all (by kernel_rfl) ?_
          refine blkN ?_
          refine thenN ?_
          refine Wp.regionS (pOf []) (rhoOf []) (by kernel_rfl) ?_
          refine Runs.all (by kernel_rfl) ?_
          refine thenN ?_
          exact ⟨(bAdd .i64 x5 (bAdd .i64 r10 r11), p1, bAdd .i64 x6 1, r2), h, Le.of (mo := []) (mr := []) (by kernel_rfl) (by kernel_rfl) (by kernel_rfl) (by kernel_rfl)⟩
        · have h := cond_f h hc
          refine Wp.exit ?_
          refine thenE ?_
          refine thenE ?_
          refine blkE ?_
          refine thenN ?_
          exact ⟨x5, h, Le.of (mo := []) (mr := []) (by kernel_rfl) (by kernel_rfl) (by kernel_rfl) (by kernel_rfl)⟩
theorem impl_BestSize_ok (u : Nat) (p0 : List Int) (p1 : List Image) (r : Int) (h : impl_BestSize u p0 p1 = some r) : CallOK Try.prog 23 [.one (.t (.sl 1 (p0.map (eInt .u8)))), .one (.t (.sl 1 (p1.map Image.enc)))] (.one (.t (.int .i64 r))) [] := by
  unfold impl_BestSize at h
  refine CallOK.of_bodyK (fn := Try.f23) (m := false) [.t (.sl 1 (p0.map (eInt .u8))), .t (.sl 1 (p1.map Image.enc))] (by kernel_rfl) rfl (by kernel_rfl) (by kernel_rfl) (by kernel_rfl) (by kernel_rfl) (by kernel_rfl) ?_
  refine Wp.seq ?_
  refine Wp.regionS (pOf []) (rhoOf []) (by kernel_rfl) ?_
  refine Runs.all (by kernel_rfl) ?_
  refine thenN ?_
  refine Wp.le (Le.of (s := ⟨[(0, .t (.sl 1 (p0.map (eInt .u8)))), (1, .t (.sl 1 (p1.map Image.enc))), (4, .t (.int .i64 0))], [], []⟩) (mo := []) (mr := []) (by kernel_rfl) (by kernel_rfl) (by kernel_rfl) (by kernel_rfl)) ?_
  refine Wp.seq ?_
  refine Wp.regionS (pOf []) (rhoOf []) (by kernel_rfl) ?_
  refine Runs.all (by kernel_rfl) ?_
  refine thenN ?_
  refine Wp.le (Le.of (s := ⟨[(0, .t (.sl 1 (p0.map (eInt .u8)))), (1, .t (.sl 1 (p1.map Image.enc))), (4, .t (.int .i64 0)), (5, .t (.int .i64 0)), (6, .t (.int .i64 (-1)))], [], []⟩) (mo := []) (mr := []) (by kernel_rfl) (by kernel_rfl) (by kernel_rfl) (by kernel_rfl)) ?_
  refine Wp.seqJ (α := Int) (fun a => ⟨[(4, .t (.int .i64 0)), (5, .t (.int .i64 a))], [], []⟩) (fun a => impl_BestSize_j1 u a = some r) ?_ ?_
  · rintro x15 h
    change impl_BestSize_j1 u x15 = some r at h
    unfold impl_BestSize_j1 at h
    refine Wp.seq ?_
    refine Wp.regionS (pOf []) (rhoOf []) (by kernel_rfl) ?_
    refine Runs.all (by kernel_rfl) ?_
    refine thenN ?_
    refine Wp.le (Le.of (s := ⟨[(4, .t (.int .i64 x15))], [], []⟩) (mo := []) (mr := []) (by kernel_rfl) (by kernel_rfl) (by kernel_rfl) (by kernel_rfl)) ?_
    refine Wp.ret ?_
    have hr := Option.some.inj h
    subst hr
    exact RetK [.t (.int .i64 x15)] (.one (.t (.int .i64 x15))) [] (by kernel_rfl) (by kernel_rfl) (.refl _) .nil
  · refine Wp.seq ?_
    refine Wp.regionS (pOf []) (rhoOf []) (by kernel_rfl) ?_
    refine Runs.all (by kernel_rfl) ?_
    refine thenN ?_
    refine Wp.le (Le.of (s := ⟨[(0, .t (.sl 1 (p0.map (eInt .u8)))), (1, .t (.sl 1 (p1.map Image.enc))), (4, .t (.int .i64 0)), (5, .t (.int .i64 0)), (6, .t (.int .i64 (-1))), (7, .t (.int .i64 2))], [], []⟩) (mo := []) (mr := []) (by kernel_rfl) (by kernel_rfl) (by kernel_rfl) (by kernel_rfl)) ?_
    refine Wp.block ?_
    refine Wp.loopF (α := (List Int) × (List Image) × Int × Int × Int) (fun a => ⟨[(0, .t (.sl 1 (a.1.map (eInt .u8)))), (1, .t (.sl 1 (a.2.1.map Image.enc))), (4, .t (.int .i64 0)), (5, .t (.int .i64 a.2.2.1)), (6, .t (.int .i64 a.2.2.2.1)), (7, .t (.int .i64 a.2.2.2.2))], [], []⟩) (fun k_impl_BestSize_l2 a => impl_BestSize_l2 u k_impl_BestSize_l2 a.1 a.2.1 a.2.2.1 a.2.2.2.1 a.2.2.2.2 = some r) ?_ ?_ u (p0, p1, 0, -1, 2) h (Le.of (mo := []) (mr := []) (by kernel_rfl) (by kernel_rfl) (by kernel_rfl) (by kernel_rfl))
    · intro a h; unfold impl_BestSize_l2 at h; cases h
    · rintro k_impl_BestSize_l2 ⟨p0, p1, x4, x5, x6⟩ h
      change impl_BestSize_l2 u (k_impl_BestSize_l2 + 1) p0 p1 x4 x5 x6 = some r at h
      rw [impl_BestSize_l2] at h
      refine Wp.seq ?_
      refine Wp.seq ?_
      refine Wp.regionS (pOf []) (rhoOf []) (by kernel_rfl) ?_
      refine Runs.all (by kernel_rfl) ?_
      refine thenN ?_
      refine Wp.le (Le.of (s := ⟨[(0, .t (.sl 1 (p0.map (eInt .u8)))), (1, .t (.sl 1 (p1.map Image.enc))), (4, .t (.int .i64 0)), (5, .t (.int .i64 x4)), (6, .t (.int .i64 x5)), (7, .t (.int .i64 x6)), (9, .t (.int .i64 x6)), (10, .t (.bool (decide (x6 ≤ 6))))], [], []⟩) (mo := []) (mr := []) (by kernel_rfl) (by kernel_rfl) (by kernel_rfl) (by kernel_rfl)) ?_
      refine Wp.cond2 (b := decide (x6 ≤ 6)) (by kernel_rfl) (fun hc => ?_) (fun hc => ?_)
      · have h := cond_t h hc
        refine Wp.skip ?_
        refine thenN ?_
        refine Wp.seqJ (α := (List Int) × (List Image) × Int × Int × Int × Int × Bool × Bool) (fun a => ⟨[(0, .t (.sl 1 (a.1.map (eInt .u8)))), (1, .t (.sl 1 (a.2.1.map Image.enc))), (4, .t (.int .i64 0)), (5, .t (.int .i64 a.2.2.1)), (6, .t (.int .i64 a.2.2.2.1)), (7, .t (.int .i64 a.2.2.2.2.1)), (8, .t (.int .i64 a.2.2.2.2.2.1)), (9, .t (.int .i64 a.2.2.2.2.1)), (10, .t (.bool (decide (a.2.2.2.2.1 ≤ 6)))), (13, .t (.sl 1 (a.1.map (eInt .u8)))), (14, .t (.sl 1 (a.2.1.map Image.enc))), (15, .t (.int .i64 a.2.2.2.2.1)), (16, .t (.int .i64 a.2.2.2.2.2.1)), (17, .t (.int .i64 a.2.2.2.2.2.1)), (18, .t (.bool (decide (a.2.2.2.2.2.1 ≥ 0)))), (19, .t (.bool a.2.2.2.2.2.2.1)), (27, .t (.bool a.2.2.2.2.2.2.2))], [], []⟩) (fun a => impl_BestSize_j3 u (fun z0 z1 z2 z3 z4 => impl_BestSize_l2 u k_impl_BestSize_l2 z0 z1 z2 z3 z4) a.1 a.2.1 a.2.2.1 a.2.2.2.1 a.2.2.2.2.1 a.2.2.2.2.2.1 a.2.2.2.2.2.2.1 a.2.2.2.2.2.2.2 = some r) ?_ ?_
        · rintro ⟨p0, p1, x13, x14, x6, r10, x11, x12⟩ h
          change impl_BestSize_j3 u (fun z0 z1 z2 z3 z4 => impl_BestSize_l2 u k_impl_BestSize_l2 z0 z1 z2 z3 z4) p0 p1 x13 x14 x6 r10 x11 x12 = some r at h
          unfold impl_BestSize_j3 at h
          refine Wp.regionS (pOf []) (rhoOf []) (by kernel_rfl) ?_
          refine Runs.all (by kernel_rfl) ?_
          refine thenN ?_
          exact ⟨(p0, p1, x13, x14, bAdd .i64 x6 1), h, Le.of (mo := []) (mr := []) (by kernel_rfl) (by kernel_rfl) (by kernel_rfl) (by kernel_rfl)⟩
        · refine Wp.block ?_
          refine Wp.seq ?_
          refine Wp.regionS (pOf []) (rhoOf []) (by kernel_rfl) ?_
          refine Runs.batch 3 (by kernel_rfl) ?_
          obtain ⟨r10, e_r10, h⟩ := bind_some h
          refine Runs.callK false 16 20 [] [.t (.sl 1 (p0.map (eInt .u8))), .t (.sl 1 (p1.map Image.enc)), .t (.int .i64 x6)] [.one (.t (.sl 1 (p0.map (eInt .u8)))), .one (.t (.sl 1 (p1.map Image.enc))), .one (.t (.int .i64 x6))] (.one (.t (.int .i64 r10))) [] rfl rfl (by kernel_rfl) (by kernel_rfl) (by kernel_rfl) (by kernel_rfl) (by kernel_rfl) (impl_CostOf_ok u p0 p1 x6 r10 e_r10) (by kernel_rfl) ?_
          refine Runs.all (by kernel_rfl) ?_
          refine thenN ?_
          refine Wp.le (Le.of (s := ⟨[(0, .t (.sl 1 (p0.map (eInt .u8)))), (1, .t (.sl 1 (p1.map Image.enc))), (4, .t (.int .i64 0)), (5, .t (.int .i64 x4)), (6, .t (.int .i64 x5)), (7, .t (.int .i64 x6)), (8, .t (.int .i64 r10)), (9, .t (.int .i64 x6)), (10, .t (.bool (decide (x6 ≤ 6)))), (13, .t (.sl 1 (p0.map (eInt .u8)))), (14, .t (.sl 1 (p1.map Image.enc))), (15, .t (.int .i64 x6)), (16, .t (.int .i64 r10))], [], []⟩) (mo := []) (mr := []) (by kernel_rfl) (by kernel_rfl) (by kernel_rfl) (by kernel_rfl)) ?_
          refine Wp.seqJ (α := (List Int) × (List Image) × Int × Int × Int × Int × Bool × Bool) (fun a => ⟨[(0, .t (.sl 1 (a.1.map (eInt .u8)))), (1, .t (.sl 1 (a.2.1.map Image.enc))), (4, .t (.int .i64 0)), (5, .t (.int .i64 a.2.2.1)), (6, .t (.int .i64 a.2.2.2.1)), (7, .t (.int .i64 a.2.2.2.2.1)), (8, .t (.int .i64 a.2.2.2.2.2.1)), (9, .t (.int .i64 a.2.2.2.2.1)), (10, .t (.bool (decide (a.2.2.2.2.1 ≤ 6)))), (13, .t (.sl 1 (a.1.map (eInt .u8)))), (14, .t (.sl 1 (a.2.1.map Image.enc))), (15, .t (.int .i64 a.2.2.2.2.1)), (16, .t (.int .i64 a.2.2.2.2.2.1)), (17, .t (.int .i64 a.2.2.2.2.2.1)), (18, .t (.bool (decide (a.2.2.2.2.2.1 ≥ 0)))), (19, .t (.bool a.2.2.2.2.2.2.1)), (27, .t (.bool a.2.2.2.2.2.2.2))], [], []⟩) (fun a => impl_BestSize_j4 u (fun z0 z1 z2 z3 z4 => impl_BestSize_l2 u k_impl_BestSize_l2 z0 z1 z2 z3 z4) a.1 a.2.1 a.2.2.1 a.2.2.2.1 a.2.2.2.2.1 a.2.2.2.2.2.1 a.2.2.2.2.2.2.1 a.2.2.2.2.2.2.2 = some r) ?_ ?_
          · rintro ⟨p0, p1, x4, x5, x6, r10, x11, x12⟩ h
            change impl_BestSize_j4 u (fun z0 z1 z2 z3 z4 => impl_BestSize_l2 u k_impl_BestSize_l2 z0 z1 z2 z3 z4) p0 p1 x4 x5 x6 r10 x11 x12 = some r at h
            unfold impl_BestSize_j4 at h
            refine Wp.cond2 (b := x12) (by kernel_rfl) (fun hc => ?_) (fun hc => ?_)
            · have h := cond_t h hc
              refine Wp.regionS (pOf []) (rhoOf []) (by kernel_rfl) ?_
              refine Runs.all (by kernel_rfl) ?_
              refine blkN ?_
              refine thenN ?_
              exact ⟨(p0, p1, x6, r10, x6, r10, x11, x12), h, Le.of (mo := []) (mr := []) (by kernel_rfl) (by kernel_rfl) (by kernel_rfl) (by kernel_rfl)⟩
            · have h := cond_f h hc
              refine Wp.skip ?_
              refine blkN ?_
              refine thenN ?_
              exact ⟨(p0, p1, x4, x5, x6, r10, x11, x12), h, Le.of (mo := []) (mr := []) (by kernel_rfl) (by kernel_rfl) (by kernel_rfl) (by kernel_rfl)⟩
          · refine Wp.regionS (pOf []) (rhoOf []) (by kernel_rfl) ?_
            refine Runs.batch 3 (by kernel_rfl) ?_
            rcases tf (decide (r10 ≥ 0)) with hc | hc
            · have h := cond_t h hc
              refine Runs.known 19 (v := true) (by kernel_rfl) hc ?_
              refine Runs.batch 3 (by kernel_rfl) ?_
              rcases tf (x4 == 0) with hc | hc
              · have h := cond_t h hc
                refine Runs.known 22 (v := true) (by kernel_rfl) hc ?_
                refine Runs.all (by kernel_rfl) ?_
                refine thenN ?_
                exact ⟨(p0, p1, x4, x5, x6, r10, true, true), h, Le.of (mo := []) (mr := []) (by kernel_rfl) (by kernel_rfl) (by kernel_rfl) (by kernel_rfl)⟩
              · have h := cond_f h hc
                refine Runs.known 22 (v := false) (by kernel_rfl) hc ?_
                refine Runs.all (by kernel_rfl) ?_
                refine thenN ?_
                exact ⟨(p0, p1, x4, x5, x6, r10, true, decide (r10 < x5)), h, Le.of (mo := []) (mr := []) (by kernel_rfl) (by kernel_rfl) (by kernel_rfl) (by kernel_rfl)⟩
            · have h := cond_f h hc
              refine Runs.known 19 (v := false) (by kernel_rfl) hc ?_
              refine Runs.all (by kernel_rfl) ?_
              refine thenN ?_
              exact ⟨(p0, p1, x4, x5, x6, r10, false, false), h, Le.of (mo := []) (mr := []) (by kernel_rfl) (by kernel_rfl) (by kernel_rfl) (by kernel_rfl)⟩
      · have h := cond_f h hc
        refine Wp.exit ?_
        refine thenE ?_
        refine thenE ?_
        refine blkE ?_
        refine thenN ?_
        exact ⟨x4, h, Le.of (mo := []) (mr := []) (by kernel_rfl) (by kernel_rfl) (by kernel_rfl) (by kernel_rfl)⟩
theorem laws_eqByteS_ok (u : Nat) (p0 : List Int) (p1 : List Int) (r : Bool) (h : laws_eqByteS u p0 p1 = some r) : CallOK Try.prog 16 [.one (.t (.sl 1 (p0.map (eInt .u8)))), .one (.t (.sl 1 (p1.map (eInt .u8))))] (.one (.t (.bool r))) [] := by
  unfold laws_eqByteS at h
  refine CallOK.of_bodyK (fn := Try.f16) (m := false) [.t (.sl 1 (p0.map (eInt .u8))), .t (.sl 1 (p1.map (eInt .u8)))] (by kernel_rfl) rfl (by kernel_rfl) (by kernel_rfl) (by kernel_rfl) (by kernel_rfl) (by kernel_rfl) ?_
  refine Wp.seq ?_
  refine Wp.regionS (pOf []) (rhoOf []) (by kernel_rfl) ?_
  refine Runs.all (by kernel_rfl) ?_
  refine thenN ?_
  refine Wp.le (Le.of (s := ⟨[(0, .t (.sl 1 (p0.map (eInt .u8)))), (1, .t (.sl 1 (p1.map (eInt .u8)))), (4, .t (.bool false))], [], []⟩) (mo := []) (mr := []) (by kernel_rfl) (by kernel_rfl) (by kernel_rfl) (by kernel_rfl)) ?_
  refine Wp.seq ?_
  refine Wp.seq ?_
  refine Wp.regionS (pOf []) (rhoOf []) (by kernel_rfl) ?_
  refine Runs.batch 1 (by kernel_rfl) ?_
  refine Runs.lenT (y := .t (.sl 1 (p0.map (eInt .u8)))) (e := 5) (eInt .u8) p0 1 rfl rfl rfl (by kernel_rfl) (by kernel_rfl) (by kernel_rfl) (by kernel_rfl) (by kernel_rfl) ?_
  refine Runs.batch 1 (by kernel_rfl) ?_
  refine Runs.lenT (y := .t (.sl 1 (p1.map (eInt .u8)))) (e := 5) (eInt .u8) p1 1 rfl rfl rfl (by kernel_rfl) (by kernel_rfl) (by kernel_rfl) (by kernel_rfl) (by kernel_rfl) ?_
  refine Runs.all (by kernel_rfl) ?_
  refine thenN ?_
  refine Wp.le (Le.of (s := ⟨[(0, .t (.sl 1 (p0.map (eInt .u8)))), (1, .t (.sl 1 (p1.map (eInt .u8)))), (4, .t (.bool false)), (10, .t (.bool (((p0.length : Int)) != ((p1.length : Int)))))], [], []⟩) (mo := []) (mr := []) (by kernel_rfl) (by kernel_rfl) (by kernel_rfl) (by kernel_rfl)) ?_
  refine Wp.cond2 (b := ((p0.length : Int)) != ((p1.length : Int))) (by kernel_rfl) (fun hc => ?_) (fun hc => ?_)
  · have h := cond_t h hc
    refine Wp.seq ?_
    refine Wp.regionS (pOf []) (rhoOf []) (by kernel_rfl) ?_
    refine Runs.all (by kernel_rfl) ?_
    refine thenN ?_
    refine Wp.le (Le.of (s := ⟨[(0, .t (.sl 1 (p0.map (eInt .u8)))), (1, .t (.sl 1 (p1.map (eInt .u8)))), (4, .t (.bool false))], [], []⟩) (mo := []) (mr := []) (by kernel_rfl) (by kernel_rfl) (by kernel_rfl) (by kernel_rfl)) ?_
    refine Wp.ret ?_
    refine thenR ?_
    have hr := Option.some.inj h
    subst hr
    exact RetK [.t (.bool false)] (.one (.t (.bool false))) [] (by kernel_rfl) (by kernel_rfl) (.refl _) .nil
  · have h := cond_f h hc
    refine Wp.skip ?_
    refine thenN ?_
    refine Wp.seqJ (α := Unit) (fun a => ⟨[(4, .t (.bool false))], [], []⟩) (fun a => laws_eqByteS_j1 u = some r) ?_ ?_
    · rintro ⟨⟩ h
      change laws_eqByteS_j1 u = some r at h
      unfold laws_eqByteS_j1 at h
      refine Wp.seq ?_
      refine Wp.regionS (pOf []) (rhoOf []) (by kernel_rfl) ?_
      refine Runs.all (by kernel_rfl) ?_
      refine thenN ?_
      refine Wp.le (Le.of (s := ⟨[(4, .t (.bool true))], [], []⟩) (mo := []) (mr := []) (by kernel_rfl) (by kernel_rfl) (by kernel_rfl) (by kernel_rfl)) ?_
      refine Wp.ret ?_
      have hr := Option.some.inj h
      subst hr
      exact RetK [.t (.bool true)] (.one (.t (.bool true))) [] (by kernel_rfl) (by kernel_rfl) (.refl _) .nil
    · refine Wp.seq ?_
      refine Wp.regionS (pOf []) (rhoOf []) (by kernel_rfl) ?_
      refine Runs.all (by kernel_rfl) ?_
      refine thenN ?_
      refine Wp.le (Le.of (s := ⟨[(0, .t (.sl 1 (p0.map (eInt .u8)))), (1, .t (.sl 1 (p1.map (eInt .u8)))), (4, .t (.bool false)), (5, .t (.int .i64 0))], [], []⟩) (mo := []) (mr := []) (by kernel_rfl) (by kernel_rfl) (by kernel_rfl) (by kernel_rfl)) ?_
      refine Wp.block ?_
      refine Wp.loopF (α := (List Int) × (List Int) × Int) (fun a => ⟨[(0, .t (.sl 1 (a.1.map (eInt .u8)))), (1, .t (.sl 1 (a.2.1.map (eInt .u8)))), (4, .t (.bool false)), (5, .t (.int .i64 a.2.2))], [], []⟩) (fun k_laws_eqByteS_l2 a => laws_eqByteS_l2 u k_laws_eqByteS_l2 a.1 a.2.1 a.2.2 = some r) ?_ ?_ u (p0, p1, 0) h (Le.of (mo := []) (mr := []) (by kernel_rfl) (by kernel_rfl) (by kernel_rfl) (by kernel_rfl))
      · intro a h; unfold laws_eqByteS_l2 at h; cases h
      · rintro k_laws_eqByteS_l2 ⟨p0, p1, x2⟩ h
        change laws_eqByteS_l2 u (k_laws_eqByteS_l2 + 1) p0 p1 x2 = some r at h
        rw [laws_eqByteS_l2] at h
        refine Wp.seq ?_
        refine Wp.seq ?_
        refine Wp.regionS (pOf []) (rhoOf []) (by kernel_rfl) ?_
        refine Runs.batch 2 (by kernel_rfl) ?_
        refine Runs.lenT (y := .t (.sl 1 (p0.map (eInt .u8)))) (e := 5) (eInt .u8) p0 1 rfl rfl rfl (by kernel_rfl) (by kernel_rfl) (by kernel_rfl) (by kernel_rfl) (by kernel_rfl) ?_
        refine Runs.all (by kernel_rfl) ?_
        refine thenN ?_
        refine Wp.le (Le.of (s := ⟨[(0, .t (.sl 1 (p0.map (eInt .u8)))), (1, .t (.sl 1 (p1.map (eInt .u8)))), (4, .t (.bool false)), (5, .t (.int .i64 x2)), (11, .t (.int .i64 x2)), (12, .t (.sl 1 (p0.map (eInt .u8)))), (13, .t (.int .i64 ((p0.length : Int)))), (14, .t (.bool (decide (x2 < ((p0.length : Int))))))], [], []⟩) (mo := []) (mr := []) (by kernel_rfl) (by kernel_rfl) (by kernel_rfl) (by kernel_rfl)) ?_
        refine Wp.cond2 (b := decide (x2 < ((p0.length : Int)))) (by kernel_rfl) (fun hc => ?_) (fun hc => ?_)
        · have h := cond_t h hc
          refine Wp.skip ?_
          refine thenN ?_
          refine Wp.seq ?_
          refine Wp.block ?_
          refine Wp.seq ?_
          refine Wp.regionA (pOf []) (rhoOf [(0, .frz), (1, .frz), (5, .frz), (17, .frz), (18, .frz), (19, .frz), (20, .frz), (21, .frz), (22, .frz), (23, .frz), (24, .frz)]) (by kernel_rfl) (by kernel_rfl) ?_
          refine Runs.batch 2 (by kernel_rfl) ?_
          obtain ⟨y4, e_y4, h⟩ := bind_some h
          refine Runs.idxT (e := 5) (kk := .i64) (sz := 1) (eInt .u8) p0 x2 rfl (by kernel_rfl) (by kernel_rfl) (by kernel_rfl) (by kernel_rfl) (by kernel_rfl) (by kernel_rfl) e_y4 ?_
          refine Runs.batch 3 (by kernel_rfl) ?_
          obtain ⟨y5, e_y5, h⟩ := bind_some h
          refine Runs.idxT (e := 5) (kk := .i64) (sz := 1) (eInt .u8) p1 x2 rfl (by kernel_rfl) (by kernel_rfl) (by kernel_rfl) (by kernel_rfl) (by kernel_rfl) (by kernel_rfl) e_y5 ?_
          refine Runs.all (by kernel_rfl) ?_
          refine thenN ?_
          refine Wp.le (Le.of (s := ⟨[(0, .t (.sl 1 (p0.map (eInt .u8)))), (1, .t (.sl 1 (p1.map (eInt .u8)))), (4, .t (.bool false)), (5, .t (.int .i64 x2)), (11, .t (.int .i64 x2)), (12, .t (.sl 1 (p0.map (eInt .u8)))), (13, .t (.int .i64 ((p0.length : Int)))), (14, .t (.bool (decide (x2 < ((p0.length : Int)))))), (17, .t (.sl 1 (p0.map (eInt .u8)))), (18, .t (.int .i64 x2)), (19, .fadr [.int .u8 y4]), (20, .t (.int .u8 y4)), (21, .t (.sl 1 (p1.map (eInt .u8)))), (22, .t (.int .i64 x2)), (23, .fadr [.int .u8 y5]), (24, .t (.int .u8 y5)), (25, .t (.bool (y4 != y5)))], [], []⟩) (mo := []) (mr := []) (by kernel_rfl) (by kernel_rfl) (by kernel_rfl) (by kernel_rfl)) ?_
          refine Wp.cond2 (b := y4 != y5) (by kernel_rfl) (fun hc => ?_) (fun hc => ?_)
          · have h := cond_t h hc
            refine Wp.seq ?_
            refine Wp.regionS (pOf []) (rhoOf []) (by kernel_rfl) ?_
            refine Runs.all (by kernel_rfl) ?_
            refine thenN ?_
            refine Wp.le (Le.of (s := ⟨[(0, .t (.sl 1 (p0.map (eInt .u8)))), (1, .t (.sl 1 (p1.map (eInt .u8)))), (4, .t (.bool false)), (5, .t (.int .i64 x2)), (11, .t (.int .i64 x2)), (12, .t (.sl 1 (p0.map (eInt .u8)))), (13, .t (.int .i64 ((p0.length : Int)))), (14, .t (.bool (decide (x2 < ((p0.length : Int)))))), (17, .t (.sl 1 (p0.map (eInt .u8)))), (18, .t (.int .i64 x2)), (19, .fadr [.int .u8 y4]), (20, .t (.int .u8 y4)), (21, .t (.sl 1 (p1.map (eInt .u8)))), (22, .t (.int .i64 x2)), (23, .fadr [.int .u8 y5]), (24, .t (.int .u8 y5)), (25, .t (.bool (y4 != y5)))], [], []⟩) (mo := []) (mr := []) (by kernel_rfl) (by kernel_rfl) (by kernel_rfl) (by kernel_rfl)) ?_
            refine Wp.ret ?_
            refine blkR ?_
            refine thenR ?_
            refine thenR ?_
            refine blkR ?_
            refine thenR ?_
            have hr := Option.some.inj h
            subst hr
            exact RetK [.t (.bool false)] (.one (.t (.bool false))) [] (by kernel_rfl) (by kernel_rfl) (.refl _) .nil
          · have h := cond_f h hc
            refine Wp.skip ?_
            refine blkN ?_
            refine thenN ?_
            refine Wp.regionS (pOf []) (rhoOf []) (by kernel_rfl) ?_
            refine Runs.all (by kernel_rfl) ?_
            refine thenN ?_
            exact ⟨(p0, p1, bAdd .i64 x2 1), h, Le.of (mo := []) (mr := []) (by kernel_rfl) (by kernel_rfl) (by kernel_rfl) (by kernel_rfl)⟩
        · have h := cond_f h hc
          refine Wp.exit ?_
          refine thenE ?_
          refine thenE ?_
          refine blkE ?_
          refine thenN ?_
          exact ⟨(), h, Le.of (mo := []) (mr := []) (by kernel_rfl) (by kernel_rfl) (by kernel_rfl) (by kernel_rfl)⟩
theorem laws_eqImage_ok (u : Nat) (p0 : Image) (p1 : Image) (r : Bool) (h : laws_eqImage u p0 p1 = some r) : CallOK Try.prog 52 [.agg [.t (.sl 1 (p0.fB.map (eInt .u8)))], .agg [.t (.sl 1 (p1.fB.map (eInt .u8)))]] (.one (.t (.bool r))) [] := by
  unfold laws_eqImage at h
  refine CallOK.of_bodyK (fn := Try.f52) (m := false) [.agg [.t (.sl 1 (p0.fB.map (eInt .u8)))], .agg [.t (.sl 1 (p1.fB.map (eInt .u8)))]] (by kernel_rfl) rfl (by kernel_rfl) (by kernel_rfl) (by kernel_rfl) (by kernel_rfl) (by kernel_rfl) ?_
  refine Wp.seq ?_
  refine Wp.regionS (pOf []) (rhoOf []) (by kernel_rfl) ?_
  refine Runs.all (by kernel_rfl) ?_
  refine thenN ?_
  refine Wp.le (Le.of (s := ⟨[(2, .obj 2 0), (3, .obj 3 0), (4, .t (.bool false))], [(2, [.t (.sl 1 (p0.fB.map (eInt .u8)))]), (3, [.t (.sl 1 (p1.fB.map (eInt .u8)))])], []⟩) (mo := []) (mr := []) (by kernel_rfl) (by kernel_rfl) (by kernel_rfl) (by kernel_rfl)) ?_
  refine Wp.seq ?_
  refine Wp.seq ?_
  refine Wp.regionS (pOf []) (rhoOf []) (by kernel_rfl) ?_
  refine Runs.batch 4 (by kernel_rfl) ?_
  obtain ⟨r1, e_r1, h⟩ := bind_some h
  refine Runs.callK false 9 16 [] [.t (.sl 1 (p0.fB.map (eInt .u8))), .t (.sl 1 (p1.fB.map (eInt .u8)))] [.one (.t (.sl 1 (p0.fB.map (eInt .u8)))), .one (.t (.sl 1 (p1.fB.map (eInt .u8))))] (.one (.t (.bool r1))) [] rfl rfl (by kernel_rfl) (by kernel_rfl) (by kernel_rfl) (by kernel_rfl) (by kernel_rfl) (laws_eqByteS_ok u p0.fB p1.fB r1 e_r1) (by kernel_rfl) ?_
  refine Runs.all (by kernel_rfl) ?_
  refine thenN ?_
  refine Wp.le (Le.of (s := ⟨[(4, .t (.bool false)), (10, .t (.bool (!r1)))], [], []⟩) (mo := []) (mr := []) (by kernel_rfl) (by kernel_rfl) (by kernel_rfl) (by kernel_rfl)) ?_
  refine Wp.cond2 (b := !r1) (by kernel_rfl) (fun hc => ?_) (fun hc => ?_)
  · have h := cond_t h hc
    refine Wp.seq ?_
    refine Wp.regionS (pOf []) (rhoOf []) (by kernel_rfl) ?_
    refine Runs.all (by kernel_rfl) ?_
    refine thenN ?_
    refine Wp.le (Le.of (s := ⟨[(4, .t (.bool false))], [], []⟩) (mo := []) (mr := []) (by kernel_rfl) (by kernel_rfl) (by kernel_rfl) (by kernel_rfl)) ?_
    refine Wp.ret ?_
    refine thenR ?_
    have hr := Option.some.inj h
    subst hr
    exact RetK [.t (.bool false)] (.one (.t (.bool false))) [] (by kernel_rfl) (by kernel_rfl) (.refl _) .nil
  · have h := cond_f h hc
    refine Wp.skip ?_
    refine thenN ?_
    refine Wp.seq ?_
    refine Wp.regionS (pOf []) (rhoOf []) (by kernel_rfl) ?_
    refine Runs.all (by kernel_rfl) ?_
    refine thenN ?_
    refine Wp.le (Le.of (s := ⟨[(4, .t (.bool true))], [], []⟩) (mo := []) (mr := []) (by kernel_rfl) (by kernel_rfl) (by kernel_rfl) (by kernel_rfl)) ?_
    refine Wp.ret ?_
    have hr := Option.some.inj h
    subst hr
    exact RetK [.t (.bool true)] (.one (.t (.bool true))) [] (by kernel_rfl) (by kernel_rfl) (.refl _) .nil
theorem laws_eqImageS_ok (u : Nat) (p0 : List Image) (p1 : List Image) (r : Bool) (h : laws_eqImageS u p0 p1 = some r) : CallOK Try.prog 21 [.one (.t (.sl 1 (p0.map Image.enc))), .one (.t (.sl 1 (p1.map Image.enc)))] (.one (.t (.bool r))) [] := by
  unfold laws_eqImageS at h
  refine CallOK.of_bodyK (fn := Try.f21) (m := false) [.t (.sl 1 (p0.map Image.enc)), .t (.sl 1 (p1.map Image.enc))] (by kernel_rfl) rfl (by kernel_rfl) (by kernel_rfl) (by kernel_rfl) (by kernel_rfl) (by kernel_rfl) ?_
  refine Wp.seq ?_
  refine Wp.regionS (pOf []) (rhoOf []) (by kernel_rfl) ?_
  refine Runs.all (by kernel_rfl) ?_
  refine thenN ?_
  refine Wp.le (Le.of (s := ⟨[(0, .t (.sl 1 (p0.map Image.enc))), (1, .t (.sl 1 (p1.map Image.enc))), (4, .t (.bool false))], [], []⟩) (mo := []) (mr := []) (by kernel_rfl) (by kernel_rfl) (by kernel_rfl) (by kernel_rfl)) ?_
  refine Wp.seq ?_
  refine Wp.seq ?_
  refine Wp.regionS (pOf []) (rhoOf []) (by kernel_rfl) ?_
  refine Runs.batch 1 (by kernel_rfl) ?_
  refine Runs.lenT (y := .t (.sl 1 (p0.map Image.enc))) (e := 67) Image.enc p0 1 rfl rfl rfl (by kernel_rfl) (by kernel_rfl) (by kernel_rfl) (by kernel_rfl) (by kernel_rfl) ?_
  refine Runs.batch 1 (by kernel_rfl) ?_
  refine Runs.lenT (y := .t (.sl 1 (p1.map Image.enc))) (e := 67) Image.enc p1 1 rfl rfl rfl (by kernel_rfl) (by kernel_rfl) (by kernel_rfl) (by kernel_rfl) (by kernel_rfl) ?_
  refine Runs.all (by kernel_rfl) ?_
  refine thenN ?_
  refine Wp.le (Le.of (s := ⟨[(0, .t (.sl 1 (p0.map Image.enc))), (1, .t (.sl 1 (p1.map Image.enc))), (4, .t (.bool false)), (10, .t (.bool (((p0.length : Int)) != ((p1.length : Int)))))], [], []⟩) (mo := []) (mr := []) (by kernel_rfl) (by kernel_rfl) (by kernel_rfl) (by kernel_rfl)) ?_
  refine Wp.cond2 (b := ((p0.length : Int)) != ((p1.length : Int))) (by kernel_rfl) (fun hc => ?_) (fun hc => ?_)
  · have h := cond_t h hc
    refine Wp.seq ?_
    refine Wp.regionS (pOf []) (rhoOf []) (by kernel_rfl) ?_
    refine Runs.all (by kernel_rfl) ?_
    refine thenN ?_
    refine Wp.le (Le.of (s := ⟨[(0, .t (.sl 1 (p0.map Image.enc))), (1, .t (.sl 1 (p1.map Image.enc))), (4, .t (.bool false))], [], []⟩) (mo := []) (mr := []) (by kernel_rfl) (by kernel_rfl) (by kernel_rfl) (by kernel_rfl)) ?_
    refine Wp.ret ?_
    refine thenR ?_
    have hr := Option.some.inj h
    subst hr
    exact RetK [.t (.bool false)] (.one (.t (.bool false))) [] (by kernel_rfl) (by kernel_rfl) (.refl _) .nil
  · have h := cond_f h hc
    refine Wp.skip ?_
    refine thenN ?_
    refine Wp.seqJ (α := Unit) (fun a => ⟨[(4, .t (.bool false))], [], []⟩) (fun a => laws_eqImageS_j1 u = some r) ?_ ?_
    · rintro ⟨⟩ h
      change laws_eqImageS_j1 u = some r at h
      unfold laws_eqImageS_j1 at h
      refine Wp.seq ?_
      refine Wp.regionS (pOf []) (rhoOf []) (by kernel_rfl) ?_
      refine Runs.all (by kernel_rfl) ?_
      refine thenN ?_
      refine Wp.le (Le.of (s := ⟨[(4, .t (.bool true))], [], []⟩) (mo := []) (mr := []) (by kernel_rfl) (by kernel_rfl) (by kernel_rfl) (by kernel_rfl)) ?_
      refine Wp.ret ?_
      have hr := Option.some.inj h
      subst hr
      exact RetK [.t (.bool true)] (.one (.t (.bool true))) [] (by kernel_rfl) (by kernel_rfl) (.refl _) .nil
    · refine Wp.seq ?_
      refine Wp.regionS (pOf []) (rhoOf []) (by kernel_rfl) ?_
      refine Runs.all (by kernel_rfl) ?_
      refine thenN ?_
      refine Wp.le (Le.of (s := ⟨[(0, .t (.sl 1 (p0.map Image.enc))), (1, .t (.sl 1 (p1.map Image.enc))), (4, .t (.bool false)), (5, .t (.int .i64 0))], [], []⟩) (mo := []) (mr := []) (by kernel_rfl) (by kernel_rfl) (by kernel_rfl) (by kernel_rfl)) ?_
      refine Wp.block ?_
      refine Wp.loopF (α := (List Image) × (List Image) × Int) (fun a => ⟨[(0, .t (.sl 1 (a.1.map Image.enc))), (1, .t (.sl 1 (a.2.1.map Image.enc))), (4, .t (.bool false)), (5, .t (.int .i64 a.2.2))], [], []⟩) (fun k_laws_eqImageS_l2 a => laws_eqImageS_l2 u k_laws_eqImageS_l2 a.1 a.2.1 a.2.2 = some r) ?_ ?_ u (p0, p1, 0) h (Le.of (mo := []) (mr := []) (by kernel_rfl) (by kernel_rfl) (by kernel_rfl) (by kernel_rfl))
      · intro a h; unfold laws_eqImageS_l2 at h; cases h
      · rintro k_laws_eqImageS_l2 ⟨p0, p1, x2⟩ h
        change laws_eqImageS_l2 u (k_laws_eqImageS_l2 + 1) p0 p1 x2 = some r at h
        rw [laws_eqImageS_l2] at h
        refine Wp.seq ?_
        refine Wp.seq ?_
        refine Wp.regionS (pOf []) (rhoOf []) (by kernel_rfl) ?_
        refine Runs.batch 2 (by kernel_rfl) ?_
        refine Runs.lenT (y := .t (.sl 1 (p0.map Image.enc))) (e := 67) Image.enc p0 1 rfl rfl rfl (by kernel_rfl) (by kernel_rfl) (by kernel_rfl) (by kernel_rfl) (by kernel_rfl) ?_
        refine Runs.all (by kernel_rfl) ?_
        refine thenN ?_
        refine Wp.le (Le.of (s := ⟨[(0, .t (.sl 1 (p0.map Image.enc))), (1, .t (.sl 1 (p1.map Image.enc))), (4, .t (.bool false)), (5, .t (.int .i64 x2)), (11, .t (.int .i64 x2)), (12, .t (.sl 1 (p0.map Image.enc))), (13, .t (.int .i64 ((p0.length : Int)))), (14, .t (.bool (decide (x2 < ((p0.length : Int))))))], [], []⟩) (mo := []) (mr := []) (by kernel_rfl) (by kernel_rfl) (by kernel_rfl) (by kernel_rfl)) ?_
        refine Wp.cond2 (b := decide (x2 < ((p0.length : Int)))) (by kernel_rfl) (fun hc => ?_) (fun hc => ?_)
        · have h := cond_t h hc
          refine Wp.skip ?_
          refine thenN ?_
          refine Wp.seq ?_
          refine Wp.block ?_
          refine Wp.seq ?_
          refine Wp.regionA (pOf []) (rhoOf [(0, .frz), (1, .frz), (5, .frz), (17, .frz), (18, .frz), (19, .frz), (20, .frz), (21, .frz), (22, .frz), (23, .frz), (24, .frz), (25, .frz)]) (by kernel_rfl) (by kernel_rfl) ?_
          refine Runs.batch 2 (by kernel_rfl) ?_
          obtain ⟨y4, e_y4, h⟩ := bind_some h
          refine Runs.idxT (e := 67) (kk := .i64) (sz := 1) Image.enc p0 x2 rfl (by kernel_rfl) (by kernel_rfl) (by kernel_rfl) (by kernel_rfl) (by kernel_rfl) (by kernel_rfl) e_y4 ?_
          refine Runs.batch 3 (by kernel_rfl) ?_
          obtain ⟨y5, e_y5, h⟩ := bind_some h
          refine Runs.idxT (e := 67) (kk := .i64) (sz := 1) Image.enc p1 x2 rfl (by kernel_rfl) (by kernel_rfl) (by kernel_rfl) (by kernel_rfl) (by kernel_rfl) (by kernel_rfl) e_y5 ?_
          refine Runs.batch 1 (by kernel_rfl) ?_
          obtain ⟨r6, e_r6, h⟩ := bind_some h
          refine Runs.callK false 25 52 [] [.agg [.t (.sl 1 (y4.fB.map (eInt .u8)))], .agg [.t (.sl 1 (y5.fB.map (eInt .u8)))]] [.agg [.t (.sl 1 (y4.fB.map (eInt .u8)))], .agg [.t (.sl 1 (y5.fB.map (eInt .u8)))]] (.one (.t (.bool r6))) [] rfl rfl (by kernel_rfl) (by kernel_rfl) (by kernel_rfl) (by kernel_rfl) (by kernel_rfl) (laws_eqImage_ok u y4 y5 r6 e_r6) (by kernel_rfl) ?_
          refine Runs.all (by kernel_rfl) ?_
          refine thenN ?_
          refine Wp.le (Le.of (s := ⟨[(0, .t (.sl 1 (p0.map Image.enc))), (1, .t (.sl 1 (p1.map Image.enc))), (4, .t (.bool false)), (5, .t (.int .i64 x2)), (11, .t (.int .i64 x2)), (12, .t (.sl 1 (p0.map Image.enc))), (13, .t (.int .i64 ((p0.length : Int)))), (14, .t (.bool (decide (x2 < ((p0.length : Int)))))), (17, .t (.sl 1 (p0.map Image.enc))), (18, .t (.int .i64 x2)), (19, .fadr [.sl 1 (y4.fB.map (eInt .u8))]), (20, .agg [.t (.sl 1 (y4.fB.map (eInt .u8)))]), (21, .t (.sl 1 (p1.map Image.enc))), (22, .t (.int .i64 x2)), (23, .fadr [.sl 1 (y5.fB.map (eInt .u8))]), (24, .agg [.t (.sl 1 (y5.fB.map (eInt .u8)))]), (25, .t (.bool r6)), (26, .t (.bool (!r6)))], [], []⟩) (mo := []) (mr := []) (by kernel_rfl) (by kernel_rfl) (by kernel_rfl) (by kernel_rfl)) ?_
          refine Wp.cond2 (b := !r6) (by kernel_rfl) (fun hc => ?_) (fun hc => ?_)
          · have h := cond_t h hc
            refine Wp.seq ?_
            refine Wp.regionS (pOf []) (rhoOf []) (by kernel_rfl) ?_
            refine Runs.all (by kernel_rfl) ?_
            refine thenN ?_
            refine Wp.le (Le.of (s := ⟨[(0, .t (.sl 1 (p0.map Image.enc))), (1, .t (.sl 1 (p1.map Image.enc))), (4, .t (.bool false)), (5, .t (.int .i64 x2)), (11, .t (.int .i64 x2)), (12, .t (.sl 1 (p0.map Image.enc))), (13, .t (.int .i64 ((p0.length : Int)))), (14, .t (.bool (decide (x2 < ((p0.length : Int)))))), (17, .t (.sl 1 (p0.map Image.enc))), (18, .t (.int .i64 x2)), (19, .fadr [.sl 1 (y4.fB.map (eInt .u8))]), (20, .agg [.t (.sl 1 (y4.fB.map (eInt .u8)))]), (21, .t (.sl 1 (p1.map Image.enc))), (22, .t (.int .i64 x2)), (23, .fadr [.sl 1 (y5.fB.map (eInt .u8))]), (24, .agg [.t (.sl 1 (y5.fB.map (eInt .u8)))]), (25, .t (.bool r6)), (26, .t (.bool (!r6)))], [], []⟩) (mo := []) (mr := []) (by kernel_rfl) (by kernel_rfl) (by kernel_rfl) (by kernel_rfl)) ?_
            refine Wp.ret ?_
            refine blkR ?_
            refine thenR ?_
            refine thenR ?_
            refine blkR ?_
            refine thenR ?_
            have hr := Option.some.inj h
            subst hr
            exact RetK [.t (.bool false)] (.one (.t (.bool false))) [] (by kernel_rfl) (by kernel_rfl) (.refl _) .nil
          · have h := cond_f h hc
            refine Wp.skip ?_
            refine blkN ?_
            refine thenN ?_
            refine Wp.regionS (pOf []) (rhoOf []) (by kernel_rfl) ?_
            refine Runs.all (by kernel_rfl) ?_
            refine thenN ?_
            exact ⟨(p0, p1, bAdd .i64 x2 1), h, Le.of (mo := []) (mr := []) (by kernel_rfl) (by kernel_rfl) (by kernel_rfl) (by kernel_rfl)⟩
        · have h := cond_f h hc
          refine Wp.exit ?_
          refine thenE ?_
          refine thenE ?_
          refine blkE ?_
          refine thenN ?_
          exact ⟨(), h, Le.of (mo := []) (mr := []) (by kernel_rfl) (by kernel_rfl) (by kernel_rfl) (by kernel_rfl)⟩
theorem laws_FnExactBestSize_ok (u : Nat) (p0 : List Int) (p1 : List Image) (r : Bool) (h : laws_FnExactBestSize u p0 p1 = some r) : CallOK Try.prog 5 [.one (.t (.sl 1 (p0.map (eInt .u8)))), .one (.t (.sl 1 (p1.map Image.enc)))] (.one (.t (.bool r))) [] := by
  unfold laws_FnExactBestSize at h
  refine CallOK.of_bodyK (fn := Try.f5) (m := false) [.t (.sl 1 (p0.map (eInt .u8))), .t (.sl 1 (p1.map Image.enc))] (by kernel_rfl) rfl (by kernel_rfl) (by kernel_rfl) (by kernel_rfl) (by kernel_rfl) (by kernel_rfl) ?_
  refine Wp.seq ?_
  refine Wp.regionS (pOf []) (rhoOf []) (by kernel_rfl) ?_
  refine Runs.all (by kernel_rfl) ?_
  refine thenN ?_
  refine Wp.le (Le.of (s := ⟨[(0, .t (.sl 1 (p0.map (eInt .u8)))), (1, .t (.sl 1 (p1.map Image.enc))), (4, .t (.bool false))], [], []⟩) (mo := []) (mr := []) (by kernel_rfl) (by kernel_rfl) (by kernel_rfl) (by kernel_rfl)) ?_
  refine Wp.seq ?_
  refine Wp.seq ?_
  refine Wp.regionS (pOf []) (rhoOf []) (by kernel_rfl) ?_
  refine Runs.batch 1 (by kernel_rfl) ?_
  refine Runs.lenT (y := .t (.sl 1 (p0.map (eInt .u8)))) (e := 5) (eInt .u8) p0 1 rfl rfl rfl (by kernel_rfl) (by kernel_rfl) (by kernel_rfl) (by kernel_rfl) (by kernel_rfl) ?_
  refine Runs.all (by kernel_rfl) ?_
  refine thenN ?_
  refine Wp.le (Le.of (s := ⟨[(0, .t (.sl 1 (p0.map (eInt .u8)))), (1, .t (.sl 1 (p1.map Image.enc))), (4, .t (.bool false)), (12, .t (.bool (decide (((p0.length : Int)) > 1048576))))], [], []⟩) (mo := []) (mr := []) (by kernel_rfl) (by kernel_rfl) (by kernel_rfl) (by kernel_rfl)) ?_
  refine Wp.cond2 (b := decide (((p0.length : Int)) > 1048576)) (by kernel_rfl) (fun hc => ?_) (fun hc => ?_)
  · have h := cond_t h hc
    refine Wp.seq ?_
    refine Wp.regionS (pOf []) (rhoOf []) (by kernel_rfl) ?_
    refine Runs.all (by kernel_rfl) ?_
    refine thenN ?_
    refine Wp.le (Le.of (s := ⟨[(0, .t (.sl 1 (p0.map (eInt .u8)))), (1, .t (.sl 1 (p1.map Image.enc))), (4, .t (.bool true))], [], []⟩) (mo := []) (mr := []) (by kernel_rfl) (by kernel_rfl) (by kernel_rfl) (by kernel_rfl)) ?_
    refine Wp.ret ?_
    refine thenR ?_
    have hr := Option.some.inj h
    subst hr
    exact RetK [.t (.bool true)] (.one (.t (.bool true))) [] (by kernel_rfl) (by kernel_rfl) (.refl _) .nil
  · have h := cond_f h hc
    refine Wp.skip ?_
    refine thenN ?_
    refine Wp.seq ?_
    refine Wp.regionS (pOf []) (rhoOf []) (by kernel_rfl) ?_
    refine Runs.all (by kernel_rfl) ?_
    refine thenN ?_
    refine Wp.le (Le.of (s := ⟨[(0, .t (.sl 1 (p0.map (eInt .u8)))), (1, .t (.sl 1 (p1.map Image.enc))), (4, .t (.bool false)), (5, .t (.int .i64 1048576))], [], []⟩) (mo := []) (mr := []) (by kernel_rfl) (by kernel_rfl) (by kernel_rfl) (by kernel_rfl)) ?_
    refine Wp.seq ?_
    refine Wp.regionS (pOf []) (rhoOf []) (by kernel_rfl) ?_
    refine Runs.batch 2 (by kernel_rfl) ?_
    obtain ⟨r1, e_r1, h⟩ := bind_some h
    refine Runs.callK false 15 17 [] [.t (.sl 1 (p1.map Image.enc)), .t (.int .i64 1048576)] [.one (.t (.sl 1 (p1.map Image.enc))), .one (.t (.int .i64 1048576))] (.one (.t (.int .i64 r1))) [] rfl rfl (by kernel_rfl) (by kernel_rfl) (by kernel_rfl) (by kernel_rfl) (by kernel_rfl) (laws_szImageS_ok u p1 1048576 r1 e_r1) (by kernel_rfl) ?_
    refine Runs.all (by kernel_rfl) ?_
    refine thenN ?_
    refine Wp.le (Le.of (s := ⟨[(0, .t (.sl 1 (p0.map (eInt .u8)))), (1, .t (.sl 1 (p1.map Image.enc))), (4, .t (.bool false)), (5, .t (.int .i64 r1))], [], []⟩) (mo := []) (mr := []) (by kernel_rfl) (by kernel_rfl) (by kernel_rfl) (by kernel_rfl)) ?_
    refine Wp.seq ?_
    refine Wp.seq ?_
    refine Wp.regionS (pOf []) (rhoOf []) (by kernel_rfl) ?_
    refine Runs.all (by kernel_rfl) ?_
    refine thenN ?_
    refine Wp.le (Le.of (s := ⟨[(0, .t (.sl 1 (p0.map (eInt .u8)))), (1, .t (.sl 1 (p1.map Image.enc))), (4, .t (.bool false)), (17, .t (.bool (decide (r1 < 0))))], [], []⟩) (mo := []) (mr := []) (by kernel_rfl) (by kernel_rfl) (by kernel_rfl) (by kernel_rfl)) ?_
    refine Wp.cond2 (b := decide (r1 < 0)) (by kernel_rfl) (fun hc => ?_) (fun hc => ?_)
    · have h := cond_t h hc
      refine Wp.seq ?_
      refine Wp.regionS (pOf []) (rhoOf []) (by kernel_rfl) ?_
      refine Runs.all (by kernel_rfl) ?_
      refine thenN ?_
      refine Wp.le (Le.of (s := ⟨[(0, .t (.sl 1 (p0.map (eInt .u8)))), (1, .t (.sl 1 (p1.map Image.enc))), (4, .t (.bool true))], [], []⟩) (mo := []) (mr := []) (by kernel_rfl) (by kernel_rfl) (by kernel_rfl) (by kernel_rfl)) ?_
      refine Wp.ret ?_
      refine thenR ?_
      have hr := Option.some.inj h
      subst hr
      exact RetK [.t (.bool true)] (.one (.t (.bool true))) [] (by kernel_rfl) (by kernel_rfl) (.refl _) .nil
    · have h := cond_f h hc
      refine Wp.skip ?_
      refine thenN ?_
      refine Wp.seq ?_
      refine Wp.regionS (pOf []) (rhoOf []) (by kernel_rfl) ?_
      refine Runs.batch 1 (by kernel_rfl) ?_
      obtain ⟨r2, e_r2, h⟩ := bind_some h
      refine Runs.callK false 19 14 [] [.t (.sl 1 (p0.map (eInt .u8)))] [.one (.t (.sl 1 (p0.map (eInt .u8))))] (.one (.ow 5 1 (r2.map (eInt .u8)))) [] rfl rfl (by kernel_rfl) (by kernel_rfl) (by kernel_rfl) (by kernel_rfl) (by kernel_rfl) (laws_toByteS_ok u p0 r2 e_r2) (by kernel_rfl) ?_
      refine Runs.batch 1 (by kernel_rfl) ?_
      obtain ⟨r3, e_r3, h⟩ := bind_some h
      refine Runs.callK false 21 19 [] [.t (.sl 1 (p1.map Image.enc))] [.one (.t (.sl 1 (p1.map Image.enc)))] (.one (.ow 67 1 (r3.map Image.enc))) [] rfl rfl (by kernel_rfl) (by kernel_rfl) (by kernel_rfl) (by kernel_rfl) (by kernel_rfl) (laws_toImageS_ok u p1 r3 e_r3) (by kernel_rfl) ?_
      obtain ⟨r4, e_r4, h⟩ := bind_some h
      refine Runs.callBK 22 22 [] [.own 1245184, .own 1376256] [.one (.t (.sl 1 (r2.map (eInt .u8)))), .one (.t (.sl 1 (r3.map Image.enc)))] (.one (.t (.int .i64 r4))) rfl rfl (by kernel_rfl) (by kernel_rfl) (by kernel_rfl) (by kernel_rfl) (by kernel_rfl) (spec_BestSize_ok u r2 r3 r4 e_r4) (by simp [V.plain, V.plains, C.plain, T.sc]) (by kernel_rfl) ?_
      refine Runs.all (by kernel_rfl) ?_
      refine thenN ?_
      refine Wp.le (Le.of (s := ⟨[(0, .t (.sl 1 (p0.map (eInt .u8)))), (1, .t (.sl 1 (p1.map Image.enc))), (4, .t (.bool false)), (6, .t (.int .i64 r4))], [], []⟩) (mo := []) (mr := []) (by kernel_rfl) (by kernel_rfl) (by kernel_rfl) (by kernel_rfl)) ?_
      refine Wp.seq ?_
      refine Wp.regionS (pOf []) (rhoOf []) (by kernel_rfl) ?_
      refine Runs.batch 1 (by kernel_rfl) ?_
      obtain ⟨r5, e_r5, h⟩ := bind_some h
      refine Runs.callK false 24 14 [] [.t (.sl 1 (p0.map (eInt .u8)))] [.one (.t (.sl 1 (p0.map (eInt .u8))))] (.one (.ow 5 1 (r5.map (eInt .u8)))) [] rfl rfl (by kernel_rfl) (by kernel_rfl) (by kernel_rfl) (by kernel_rfl) (by kernel_rfl) (laws_toByteS_ok u p0 r5 e_r5) (by kernel_rfl) ?_
      refine Runs.all (by kernel_rfl) ?_
      refine thenN ?_
      refine Wp.le (Le.of (s := ⟨[(0, .t (.sl 1 (p0.map (eInt .u8)))), (1, .t (.sl 1 (p1.map Image.enc))), (4, .t (.bool false)), (6, .t (.int .i64 r4)), (7, .own 1572864)], [], [(1572864, .live 5 1 (r5.map (eInt .u8)))]⟩) (mo := []) (mr := []) (by kernel_rfl) (by kernel_rfl) (by kernel_rfl) (by kernel_rfl)) ?_
      refine Wp.seq ?_
      refine Wp.regionS (pOf []) (rhoOf []) (by kernel_rfl) ?_
      refine Runs.batch 1 (by kernel_rfl) ?_
      obtain ⟨r6, e_r6, h⟩ := bind_some h
      refine Runs.callK false 26 19 [] [.t (.sl 1 (p1.map Image.enc))] [.one (.t (.sl 1 (p1.map Image.enc)))] (.one (.ow 67 1 (r6.map Image.enc))) [] rfl rfl (by kernel_rfl) (by kernel_rfl) (by kernel_rfl) (by kernel_rfl) (by kernel_rfl) (laws_toImageS_ok u p1 r6 e_r6) (by kernel_rfl) ?_
      refine Runs.all (by kernel_rfl) ?_
      refine thenN ?_
      refine Wp.le (Le.of (s := ⟨[(0, .t (.sl 1 (p0.map (eInt .u8)))), (1, .t (.sl 1 (p1.map Image.enc))), (4, .t (.bool false)), (6, .t (.int .i64 r4)), (7, .own 1572864), (8, .own 1703936)], [], [(1572864, .live 5 1 (r5.map (eInt .u8))), (1703936, .live 67 1 (r6.map Image.enc))]⟩) (mo := []) (mr := []) (by kernel_rfl) (by kernel_rfl) (by kernel_rfl) (by kernel_rfl)) ?_
      refine Wp.seq ?_
      refine Wp.regionS (pOf []) (rhoOf []) (by kernel_rfl) ?_
      refine Runs.batch 2 (by kernel_rfl) ?_
      obtain ⟨r7, e_r7, h⟩ := bind_some h
      refine Runs.callBK 29 23 [] [.own 1572864, .own 1703936] [.one (.t (.sl 1 (r5.map (eInt .u8)))), .one (.t (.sl 1 (r6.map Image.enc)))] (.one (.t (.int .i64 r7))) rfl rfl (by kernel_rfl) (by kernel_rfl) (by kernel_rfl) (by kernel_rfl) (by kernel_rfl) (impl_BestSize_ok u r5 r6 r7 e_r7) (by simp [V.plain, V.plains, C.plain, T.sc]) (by kernel_rfl) ?_
      refine Runs.all (by kernel_rfl) ?_
      refine thenN ?_
      refine Wp.le (Le.of (s := ⟨[(0, .t (.sl 1 (p0.map (eInt .u8)))), (1, .t (.sl 1 (p1.map Image.enc))), (4, .t (.bool false)), (6, .t (.int .i64 r4)), (7, .own 1572864), (8, .own 1703936), (9, .t (.int .i64 r7))], [], [(1572864, .live 5 1 (r5.map (eInt .u8))), (1703936, .live 67 1 (r6.map Image.enc))]⟩) (mo := []) (mr := []) (by kernel_rfl) (by kernel_rfl) (by kernel_rfl) (by kernel_rfl)) ?_
      refine Wp.seq ?_
      refine Wp.seq ?_
      refine Wp.regionS (pOf []) (rhoOf []) (by kernel_rfl) ?_
      refine Runs.all (by kernel_rfl) ?_
      refine thenN ?_
      refine Wp.le (Le.of (s := ⟨[(0, .t (.sl 1 (p0.map (eInt .u8)))), (1, .t (.sl 1 (p1.map Image.enc))), (4, .t (.bool false)), (7, .own 1572864), (8, .own 1703936), (32, .t (.bool (r7 != r4)))], [], [(1572864, .live 5 1 (r5.map (eInt .u8))), (1703936, .live 67 1 (r6.map Image.enc))]⟩) (mo := []) (mr := []) (by kernel_rfl) (by kernel_rfl) (by kernel_rfl) (by kernel_rfl)) ?_
      refine Wp.cond2 (b := r7 != r4) (by kernel_rfl) (fun hc => ?_) (fun hc => ?_)
      · have h := cond_t h hc
        refine Wp.seq ?_
        refine Wp.regionS (pOf []) (rhoOf []) (by kernel_rfl) ?_
        refine Runs.all (by kernel_rfl) ?_
        refine thenN ?_
        refine Wp.le (Le.of (s := ⟨[(0, .t (.sl 1 (p0.map (eInt .u8)))), (1, .t (.sl 1 (p1.map Image.enc))), (4, .t (.bool false)), (7, .own 1572864), (8, .own 1703936)], [], [(1572864, .live 5 1 (r5.map (eInt .u8))), (1703936, .live 67 1 (r6.map Image.enc))]⟩) (mo := []) (mr := []) (by kernel_rfl) (by kernel_rfl) (by kernel_rfl) (by kernel_rfl)) ?_
        refine Wp.ret ?_
        refine thenR ?_
        have hr := Option.some.inj h
        subst hr
        exact RetK [.t (.bool false)] (.one (.t (.bool false))) [] (by kernel_rfl) (by kernel_rfl) (.refl _) .nil
      · have h := cond_f h hc
        refine Wp.skip ?_
        refine thenN ?_
        refine Wp.seq ?_
        refine Wp.seq ?_
        refine Wp.regionS (pOf []) (rhoOf []) (by kernel_rfl) ?_
        refine Runs.batch 2 (by kernel_rfl) ?_
        obtain ⟨r8, e_r8, h⟩ := bind_some h
        refine Runs.callK false 35 14 [] [.t (.sl 1 (p0.map (eInt .u8)))] [.one (.t (.sl 1 (p0.map (eInt .u8))))] (.one (.ow 5 1 (r8.map (eInt .u8)))) [] rfl rfl (by kernel_rfl) (by kernel_rfl) (by kernel_rfl) (by kernel_rfl) (by kernel_rfl) (laws_toByteS_ok u p0 r8 e_r8) (by kernel_rfl) ?_
        obtain ⟨r9, e_r9, h⟩ := bind_some h
        refine Runs.callBK 36 16 [] [.own 1572864, .own 2293760] [.one (.t (.sl 1 (r5.map (eInt .u8)))), .one (.t (.sl 1 (r8.map (eInt .u8))))] (.one (.t (.bool r9))) rfl rfl (by kernel_rfl) (by kernel_rfl) (by kernel_rfl) (by kernel_rfl) (by kernel_rfl) (laws_eqByteS_ok u r5 r8 r9 e_r9) (by simp [V.plain, V.plains, C.plain, T.sc]) (by kernel_rfl) ?_
        refine Runs.all (by kernel_rfl) ?_
        refine thenN ?_
        refine Wp.le (Le.of (s := ⟨[(1, .t (.sl 1 (p1.map Image.enc))), (4, .t (.bool false)), (8, .own 1703936), (37, .t (.bool (!r9)))], [], [(1703936, .live 67 1 (r6.map Image.enc))]⟩) (mo := []) (mr := []) (by kernel_rfl) (by kernel_rfl) (by kernel_rfl) (by kernel_rfl)) ?_
        refine Wp.cond2 (b := !r9) (by kernel_rfl) (fun hc => ?_) (fun hc => ?_)
        · have h := cond_t h hc
          refine Wp.seq ?_
          refine Wp.regionS (pOf []) (rhoOf []) (by kernel_rfl) ?_
          refine Runs.all (by kernel_rfl) ?_
          refine thenN ?_
          refine Wp.le (Le.of (s := ⟨[(1, .t (.sl 1 (p1.map Image.enc))), (4, .t (.bool false)), (8, .own 1703936)], [], [(1703936, .live 67 1 (r6.map Image.enc))]⟩) (mo := []) (mr := []) (by kernel_rfl) (by kernel_rfl) (by kernel_rfl) (by kernel_rfl)) ?_
          refine Wp.ret ?_
          refine thenR ?_
          have hr := Option.some.inj h
          subst hr
          exact RetK [.t (.bool false)] (.one (.t (.bool false))) [] (by kernel_rfl) (by kernel_rfl) (.refl _) .nil
        · have h := cond_f h hc
          refine Wp.skip ?_
          refine thenN ?_
          refine Wp.seq ?_
          refine Wp.seq ?_
          refine Wp.regionS (pOf []) (rhoOf []) (by kernel_rfl) ?_
          refine Runs.batch 2 (by kernel_rfl) ?_
          obtain ⟨r10, e_r10, h⟩ := bind_some h
          refine Runs.callK false 40 19 [] [.t (.sl 1 (p1.map Image.enc))] [.one (.t (.sl 1 (p1.map Image.enc)))] (.one (.ow 67 1 (r10.map Image.enc))) [] rfl rfl (by kernel_rfl) (by kernel_rfl) (by kernel_rfl) (by kernel_rfl) (by kernel_rfl) (laws_toImageS_ok u p1 r10 e_r10) (by kernel_rfl) ?_
          obtain ⟨r11, e_r11, h⟩ := bind_some h
          refine Runs.callBK 41 21 [] [.own 1703936, .own 2621440] [.one (.t (.sl 1 (r6.map Image.enc))), .one (.t (.sl 1 (r10.map Image.enc)))] (.one (.t (.bool r11))) rfl rfl (by kernel_rfl) (by kernel_rfl) (by kernel_rfl) (by kernel_rfl) (by kernel_rfl) (laws_eqImageS_ok u r6 r10 r11 e_r11) (by simp [V.plain, V.plains, C.plain, T.sc]) (by kernel_rfl) ?_
          refine Runs.all (by kernel_rfl) ?_
          refine thenN ?_
          refine Wp.le (Le.of (s := ⟨[(4, .t (.bool false)), (42, .t (.bool (!r11)))], [], []⟩) (mo := []) (mr := []) (by kernel_rfl) (by kernel_rfl) (by kernel_rfl) (by kernel_rfl)) ?_
          refine Wp.cond2 (b := !r11) (by kernel_rfl) (fun hc => ?_) (fun hc => ?_)
          · have h := cond_t h hc
            refine Wp.seq ?_
            refine Wp.regionS (pOf []) (rhoOf []) (by kernel_rfl) ?_
            refine Runs.all (by kernel_rfl) ?_
            refine thenN ?_
            refine Wp.le (Le.of (s := ⟨[(4, .t (.bool false))], [], []⟩) (mo := []) (mr := []) (by kernel_rfl) (by kernel_rfl) (by kernel_rfl) (by kernel_rfl)) ?_
            refine Wp.ret ?_
            refine thenR ?_
            have hr := Option.some.inj h
            subst hr
            exact RetK [.t (.bool false)] (.one (.t (.bool false))) [] (by kernel_rfl) (by kernel_rfl) (.refl _) .nil
          · have h := cond_f h hc
            refine Wp.skip ?_
            refine thenN ?_
            refine Wp.seq ?_
            refine Wp.regionS (pOf []) (rhoOf []) (by kernel_rfl) ?_
            refine Runs.all (by kernel_rfl) ?_
            refine thenN ?_
            refine Wp.le (Le.of (s := ⟨[(4, .t (.bool true))], [], []⟩) (mo := []) (mr := []) (by kernel_rfl) (by kernel_rfl) (by kernel_rfl) (by kernel_rfl)) ?_
            refine Wp.ret ?_
            have hr := Option.some.inj h
            subst hr
            exact RetK [.t (.bool true)] (.one (.t (.bool true))) [] (by kernel_rfl) (by kernel_rfl) (.refl _) .nil
end Go.Tm
