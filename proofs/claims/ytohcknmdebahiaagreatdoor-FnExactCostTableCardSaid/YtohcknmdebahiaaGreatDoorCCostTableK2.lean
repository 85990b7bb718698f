/- The functions as they are translated do what the pure functions say (printed). -/
import Derived.Test.YtohcknmdebahiaaGreatDoorCCostTableK1
import Derived.Test.YtohcknmdebahiaaGreatDoorTm45
import Derived.Shelf.Strings.OnBuilder
import Derived.Test.YtohcknmdebahiaaGreatDoorProg
set_option maxRecDepth 100000
set_option maxHeartbeats 20000000
set_option linter.unusedVariables false
set_option linter.unusedSimpArgs false
namespace Go.Tm
open Go.Proofs
theorem impl_BytesLacking_ok (u : Nat) (p0 : List Int) (p1 : Manifest) (r : Int) (h : impl_BytesLacking u p0 p1 = some r) : CallOK Tryz.prog 63 [.one (.t (.sl 1 (p0.map (eInt .u8)))), .agg [.t (.int .i64 p1.fGen), .t (.int .i64 p1.fSize), .t (.int .i64 p1.fLen), .t (.sl 2 (p1.fSums.map Sum.enc))]] (.one (.t (.int .i64 r))) [] := by
  unfold impl_BytesLacking at h
  refine CallOK.of_bodyK (fn := Tryz.f63) (m := false) [.t (.sl 1 (p0.map (eInt .u8))), .agg ((Manifest.enc p1).map .t)] kr rfl kr kr kr kr kr ?_
  refine Wp.srg [] [] ?_
  refine Runs.alln ?_
  refine Wp.fg ⟨[(0, .t (.sl 1 (p0.map (eInt .u8)))), (3, .obj 3 0), (4, .t (.int .i64 0))], [(3, ((Manifest.enc p1).map .t))], []⟩ ?_
  refine Wp.srg [] [] ?_
  refine Runs.alln ?_
  refine Wp.fg ⟨[(0, .t (.sl 1 (p0.map (eInt .u8)))), (3, .obj 3 0), (4, .t (.int .i64 0)), (5, .t (.int .i64 0))], [(3, ((Manifest.enc p1).map .t))], []⟩ ?_
  refine Wp.seqJ (α := Int) (fun a => ⟨[(4, .t (.int .i64 0)), (5, .t (.int .i64 a))], [], []⟩) (fun a => impl_BytesLacking_j1 u a = some r) ?_ ?_
  · rintro x11 h
    change impl_BytesLacking_j1 u x11 = some r at h
    unfold impl_BytesLacking_j1 at h
    refine Wp.srg [] [] ?_
    refine Runs.alln ?_
    refine Wp.fg ⟨[(4, .t (.int .i64 x11))], [], []⟩ ?_
    refine Wp.ret ?_
    obtain rfl := Option.some.inj h
    exact RetK [.t (.int .i64 x11)] _ [] kr kr (.refl _) .nil
  · refine Wp.srg [] [] ?_
    refine Runs.batch 2 kr ?_
    obtain ⟨r1, e_r1, h⟩ := bind_some h
    refine Runs.callK false 12 104 [] [.t (.sl 1 (p0.map (eInt .u8))), .agg ((Manifest.enc p1).map .t)] _ _ _ rfl rfl kr kr kr kr kr (impl_Lacking_ok u p0 p1 r1 e_r1) kr ?_
    obtain ⟨r2, e_r2, h⟩ := bind_some h
    refine Runs.callK false 13 103 [] [.t (.int .i64 r1)] _ _ _ rfl rfl kr kr kr kr kr (impl_PartsIn_ok u r1 r2 e_r2) kr ?_
    refine Runs.lenT (y := .own 851968) (e := 3) (eInt .i64) r2 1 rfl rfl rfl kr kr kr kr kr ?_
    refine Runs.alln ?_
    refine Wp.fg ⟨[(3, .obj 3 0), (4, .t (.int .i64 0)), (5, .t (.int .i64 0)), (13, .own 851968), (14, .t (.int .i64 ((r2.length : Int)))), (15, .t (.int .i64 0))], [(3, ((Manifest.enc p1).map .t))], [(851968, .live 3 1 (r2.map (eInt .i64)))]⟩ ?_
    refine Wp.block ?_
    refine Wp.loopF (α := Int × ((List Int)) × Int × Manifest) (fun a => ⟨[(3, .obj 3 0), (4, .t (.int .i64 0)), (5, .t (.int .i64 a.1)), (13, .own 851969), (14, .t (.int .i64 ((a.2.1.length : Int)))), (15, .t (.int .i64 a.2.2.1))], [(3, ((Manifest.enc a.2.2.2).map .t))], [(851969, .live 3 1 (a.2.1.map (eInt .i64)))]⟩) (fun k_impl_BytesLacking_l2 a => impl_BytesLacking_l2 u k_impl_BytesLacking_l2 a.1 a.2.1 a.2.2.1 a.2.2.2 = some r) ?_ ?_ u (0, r2, 0, p1) h (Le.of (mo := []) (mr := [(851969, 851968)]) kr kr kr kr)
    · intro a h; unfold impl_BytesLacking_l2 at h; cases h
    · rintro k_impl_BytesLacking_l2 ⟨x5, r2, x6, p1⟩ h
      change impl_BytesLacking_l2 u (k_impl_BytesLacking_l2 + 1) x5 r2 x6 p1 = some r at h
      rw [impl_BytesLacking_l2] at h
      refine Wp.srg [] [] ?_
      refine Runs.alln ?_
      refine Wp.fg ⟨[(3, .obj 3 0), (4, .t (.int .i64 0)), (5, .t (.int .i64 x5)), (13, .own 851969), (14, .t (.int .i64 ((r2.length : Int)))), (15, .t (.int .i64 x6)), (16, .t (.bool (decide (x6 < ((r2.length : Int))))))], [(3, ((Manifest.enc p1).map .t))], [(851969, .live 3 1 (r2.map (eInt .i64)))]⟩ ?_
      refine Wp.seq ?_
      refine Wp.cond2 (b := decide (x6 < ((r2.length : Int)))) kr (fun hc => ?_) (fun hc => ?_)
      · have h := cond_t h hc
        refine Wp.skip (thenN ?_)
        refine Wp.seq ?_
        refine Wp.block ?_
        refine Wp.srg [] [] ?_
        obtain ⟨y9, e_y9, h⟩ := bind_some h
        refine Runs.idxO (e := 3) (e' := 3) (kk := .i64) (sz := 1) (eInt .i64) r2 x6 851969 rfl kr kr kr kr kr kr kr e_y9 ?_
        refine Runs.loadE (e' := 3) (sz := 1) (m := 1) (gg := false) (eInt .i64) r2 851969 (Int.toNat x6) 0 (.t (.int .i64 y9)) rfl kr kr kr kr kr kr (idx_some e_y9).2 kr ?_
        refine Runs.alln ?_
        refine Wp.fg ⟨[(3, .obj 3 0), (4, .t (.int .i64 0)), (5, .t (.int .i64 x5)), (7, .t (.int .i64 y9)), (13, .own 851969), (14, .t (.int .i64 ((r2.length : Int)))), (15, .t (.int .i64 x6))], [(3, ((Manifest.enc p1).map .t))], [(851969, .live 3 1 (r2.map (eInt .i64)))]⟩ ?_
        refine Wp.srg [] [] ?_
        refine Runs.batch 5 kr ?_
        obtain ⟨r10, e_r10, h⟩ := bind_some h
        refine Runs.callK false 25 105 [] [.t (.int .i64 p1.fSize), .t (.int .i64 p1.fLen), .t (.int .i64 y9)] _ _ _ rfl rfl kr kr kr kr kr (impl_SpanOf_ok u p1.fSize p1.fLen y9 r10 e_r10) kr ?_
        refine Runs.alln ?_
        refine Wp.fg ⟨[(3, .obj 3 0), (4, .t (.int .i64 0)), (5, .t (.int .i64 x5)), (9, .t (.int .i64 r10.2)), (13, .own 851969), (14, .t (.int .i64 ((r2.length : Int)))), (15, .t (.int .i64 x6))], [(3, ((Manifest.enc p1).map .t))], [(851969, .live 3 1 (r2.map (eInt .i64)))]⟩ ?_
        refine Wp.rg [] [] ?_
        refine Runs.all kr ?_
        refine blkN ?_
        refine thenN ?_
        refine Wp.rg [] [] ?_
        refine Runs.alln ?_
        exact ⟨(bAdd .i64 x5 r10.2, r2, bAdd .i64 x6 1, p1), h, Le.of (mo := []) (mr := []) kr kr kr kr⟩
      have h := cond_f h hc
      refine Wp.exit ?_
      refine thenE ?_
      refine thenE ?_
      refine blkE ?_
      refine thenN ?_
      exact ⟨x5, h, Le.of (mo := []) (mr := []) kr kr kr kr⟩
theorem impl_CostOf_ok (u : Nat) (p0 : List Int) (p1 : List Image) (p2 : Int) (r : Int) (h : impl_CostOf u p0 p1 p2 = some r) : CallOK Tryz.prog 27 [.one (.t (.sl 1 (p0.map (eInt .u8)))), .one (.t (.sl 1 (p1.map Image.enc))), .one (.t (.int .i64 p2))] (.one (.t (.int .i64 r))) [] := by
  unfold impl_CostOf at h
  refine CallOK.of_bodyK (fn := Tryz.f27) (m := false) [.t (.sl 1 (p0.map (eInt .u8))), .t (.sl 1 (p1.map Image.enc)), .t (.int .i64 p2)] kr rfl kr kr kr kr kr ?_
  refine Wp.srg [] [] ?_
  refine Runs.alln ?_
  refine Wp.fg ⟨[(0, .t (.sl 1 (p0.map (eInt .u8)))), (1, .t (.sl 1 (p1.map Image.enc))), (2, .t (.int .i64 p2)), (6, .t (.int .i64 0))], [], []⟩ ?_
  refine Wp.seq ?_
  refine Wp.srg [] [] ?_
  refine Runs.batch 2 kr ?_
  refine Runs.lenT (y := .t (.sl 1 (p0.map (eInt .u8)))) (e := 5) (eInt .u8) p0 1 rfl rfl rfl kr kr kr kr kr ?_
  obtain ⟨r1, e_r1, h⟩ := bind_some h
  refine Runs.callK false 14 60 [] [.t (.int .i64 p2), .t (.int .i64 ((p0.length : Int)))] _ _ _ rfl rfl kr kr kr kr kr (impl_SizeOk_ok u p2 ((p0.length : Int)) r1 e_r1) kr ?_
  refine Runs.alln ?_
  refine Wp.fg ⟨[(0, .t (.sl 1 (p0.map (eInt .u8)))), (1, .t (.sl 1 (p1.map Image.enc))), (2, .t (.int .i64 p2)), (6, .t (.int .i64 0)), (15, .t (.bool (!r1)))], [], []⟩ ?_
  refine Wp.cond2 (b := !r1) kr (fun hc => ?_) (fun hc => ?_)
  · have h := cond_t h hc
    refine Wp.srg [] [] ?_
    refine Runs.alln ?_
    refine Wp.fg ⟨[(0, .t (.sl 1 (p0.map (eInt .u8)))), (1, .t (.sl 1 (p1.map Image.enc))), (2, .t (.int .i64 p2)), (6, .t (.int .i64 (-1)))], [], []⟩ ?_
    refine Wp.ret ?_
    refine thenR ?_
    obtain rfl := Option.some.inj h
    exact RetK [.t (.int .i64 (-1))] _ [] kr kr (.refl _) .nil
  have h := cond_f h hc
  refine Wp.skip (thenN ?_)
  refine Wp.srg [] [] ?_
  refine Runs.batch 2 kr ?_
  obtain ⟨r2, e_r2, h⟩ := bind_some h
  refine Runs.callK false 18 61 [] [.t (.int .i64 1), .t (.sl 1 (p0.map (eInt .u8))), .t (.int .i64 p2)] _ _ _ rfl rfl kr kr kr kr kr (impl_ManOf_ok u 1 p0 p2 r2 e_r2) kr ?_
  refine Runs.alln ?_
  refine Wp.fg ⟨[(1, .t (.sl 1 (p1.map Image.enc))), (6, .t (.int .i64 0)), (7, .obj 7 0)], [(7, [.t (.int .i64 r2.fGen), .t (.int .i64 r2.fSize), .t (.int .i64 r2.fLen), .own 1179651])], [(1179651, .live 189 2 (r2.fSums.map Sum.enc))]⟩ ?_
  refine Wp.srg [] [] ?_
  refine Runs.alln ?_
  refine Wp.fg ⟨[(1, .t (.sl 1 (p1.map Image.enc))), (6, .t (.int .i64 0)), (7, .obj 7 0), (8, .t (.int .i64 0))], [(7, [.t (.int .i64 r2.fGen), .t (.int .i64 r2.fSize), .t (.int .i64 r2.fLen), .own 1179651])], [(1179651, .live 189 2 (r2.fSums.map Sum.enc))]⟩ ?_
  refine Wp.seqJ (α := Int) (fun a => ⟨[(6, .t (.int .i64 0)), (8, .t (.int .i64 a))], [], []⟩) (fun a => impl_CostOf_j1 u a = some r) ?_ ?_
  · rintro x12 h
    change impl_CostOf_j1 u x12 = some r at h
    unfold impl_CostOf_j1 at h
    refine Wp.srg [] [] ?_
    refine Runs.alln ?_
    refine Wp.fg ⟨[(6, .t (.int .i64 x12))], [], []⟩ ?_
    refine Wp.ret ?_
    obtain rfl := Option.some.inj h
    exact RetK [.t (.int .i64 x12)] _ [] kr kr (.refl _) .nil
  · refine Wp.srg [] [] ?_
    refine Runs.batch 1 kr ?_
    refine Runs.lenT (y := .t (.sl 1 (p1.map Image.enc))) (e := 61) Image.enc p1 1 rfl rfl rfl kr kr kr kr kr ?_
    refine Runs.alln ?_
    refine Wp.fg ⟨[(6, .t (.int .i64 0)), (7, .obj 7 0), (8, .t (.int .i64 0)), (19, .t (.sl 1 (p1.map Image.enc))), (20, .t (.int .i64 ((p1.length : Int)))), (21, .t (.int .i64 0))], [(7, [.t (.int .i64 r2.fGen), .t (.int .i64 r2.fSize), .t (.int .i64 r2.fLen), .own 1179651])], [(1179651, .live 189 2 (r2.fSums.map Sum.enc))]⟩ ?_
    refine Wp.block ?_
    refine Wp.loopF (α := Int × (List Image) × Int × Manifest) (fun a => ⟨[(6, .t (.int .i64 0)), (7, .obj 7 0), (8, .t (.int .i64 a.1)), (19, .t (.sl 1 (a.2.1.map Image.enc))), (20, .t (.int .i64 ((a.2.1.length : Int)))), (21, .t (.int .i64 a.2.2.1))], [(7, ((Manifest.enc a.2.2.2).map .t))], []⟩) (fun k_impl_CostOf_l2 a => impl_CostOf_l2 u k_impl_CostOf_l2 a.1 a.2.1 a.2.2.1 a.2.2.2 = some r) ?_ ?_ u (0, p1, 0, r2) h (Le.trans (Le.frzO 7 3 1179651 189 2 [.t (.int .i64 r2.fGen), .t (.int .i64 r2.fSize), .t (.int .i64 r2.fLen), .own 1179651] (r2.fSums.map Sum.enc) kr kr kr) (Le.of (mo := []) (mr := []) kr kr kr kr))
    · intro a h; unfold impl_CostOf_l2 at h; cases h
    · rintro k_impl_CostOf_l2 ⟨x5, p1, x6, r2⟩ h
      change impl_CostOf_l2 u (k_impl_CostOf_l2 + 1) x5 p1 x6 r2 = some r at h
      rw [impl_CostOf_l2] at h
      refine Wp.srg [] [] ?_
      refine Runs.alln ?_
      refine Wp.fg ⟨[(6, .t (.int .i64 0)), (7, .obj 7 0), (8, .t (.int .i64 x5)), (19, .t (.sl 1 (p1.map Image.enc))), (20, .t (.int .i64 ((p1.length : Int)))), (21, .t (.int .i64 x6)), (22, .t (.bool (decide (x6 < ((p1.length : Int))))))], [(7, ((Manifest.enc r2).map .t))], []⟩ ?_
      refine Wp.seq ?_
      refine Wp.cond2 (b := decide (x6 < ((p1.length : Int)))) kr (fun hc => ?_) (fun hc => ?_)
      · have h := cond_t h hc
        refine Wp.skip (thenN ?_)
        refine Wp.seq ?_
        refine Wp.block ?_
        refine Wp.srg [] [] ?_
        obtain ⟨y9, e_y9, h⟩ := bind_some h
        refine Runs.idxT (e := 61) (kk := .i64) (sz := 1) Image.enc p1 x6 rfl kr kr kr kr kr kr e_y9 ?_
        refine Runs.alln ?_
        refine Wp.fg ⟨[(6, .t (.int .i64 0)), (7, .obj 7 0), (8, .t (.int .i64 x5)), (10, .obj 10 0), (19, .t (.sl 1 (p1.map Image.enc))), (20, .t (.int .i64 ((p1.length : Int)))), (21, .t (.int .i64 x6))], [(7, ((Manifest.enc r2).map .t)), (10, [.t (.sl 1 (y9.fB.map (eInt .u8)))])], []⟩ ?_
        refine Wp.regionA (pOf []) (rhoOf [(7, .obj 7), (8, .frz), (10, .obj 10), (25, .frz), (26, .frz), (27, .frz), (28, .obj 10), (29, .frz), (30, .frz), (31, .frz), (32, .frz), (33, .frz)]) kr kr ?_
        refine Runs.batch 2 kr ?_
        obtain ⟨r10, e_r10, h⟩ := bind_some h
        refine Runs.callK false 27 62 [] [.agg ((Manifest.enc r2).map .t)] _ _ _ rfl rfl kr kr kr kr kr (impl_ManBytes_ok u r2 r10 e_r10) kr ?_
        refine Runs.batch 3 kr ?_
        obtain ⟨r11, e_r11, h⟩ := bind_some h
        refine Runs.callK false 31 63 [] [.t (.sl 1 (y9.fB.map (eInt .u8))), .agg ((Manifest.enc r2).map .t)] _ _ _ rfl rfl kr kr kr kr kr (impl_BytesLacking_ok u y9.fB r2 r11 e_r11) kr ?_
        refine Runs.all kr ?_
        refine blkN ?_
        refine thenN ?_
        refine Wp.rg [] [] ?_
        refine Runs.alln ?_
        exact ⟨(bAdd .i64 x5 (bAdd .i64 r10 r11), p1, bAdd .i64 x6 1, r2), h, Le.of (mo := []) (mr := []) kr kr kr kr⟩
      have h := cond_f h hc
      refine Wp.exit ?_
      refine thenE ?_
      refine thenE ?_
      refine blkE ?_
      refine thenN ?_
      exact ⟨x5, h, Le.of (mo := []) (mr := []) kr kr kr kr⟩
def laysItoa_ren : Go.Shelf.Ren := ⟨fun | 171 => 106 | 243 => 157 | 246 => 192 | 283 => 200 | 284 => 201 | 285 => 202 | 286 => 203 | 129 => 207 | 317 => 206 | 318 => 208 | 319 => 209 | 320 => 210 | 337 => 212 | 338 => 213 | n => n, fun | 3 => 3 | 9 => 9 | 2 => 2 | 4 => 4 | 171 => 229 | 0 => 0 | 53 => 175 | 37 => 22 | 5 => 5 | 173 => 231 | 212 => 235 | 51 => 236 | 20 => 20 | 213 => 237 | 46 => 209 | 232 => 242 | 233 => 243 | n => n, fun | 17 => 1 | 18 => 2 | 19 => 3 | n => n⟩
theorem laysItoa : Go.Proofs.LaysM.n171 Tryz.prog laysItoa_ren := {
  mixed := by kernel_rfl,
  f129 := Tryz.func207.trans (congrArg some kr),
  f171 := Tryz.func106.trans (congrArg some kr),
  f243 := Tryz.func157.trans (congrArg some kr),
  f246 := Tryz.func192.trans (congrArg some kr),
  f283 := Tryz.func200.trans (congrArg some kr),
  f284 := Tryz.func201.trans (congrArg some kr),
  f285 := Tryz.func202.trans (congrArg some kr),
  f286 := Tryz.func203.trans (congrArg some kr),
  f317 := Tryz.func206.trans (congrArg some kr),
  f318 := Tryz.func208.trans (congrArg some kr),
  f319 := Tryz.func209.trans (congrArg some kr),
  f320 := Tryz.func210.trans (congrArg some kr),
  f337 := Tryz.func212.trans (congrArg some kr),
  f338 := Tryz.func213.trans (congrArg some kr),
  t0 := Tryz.underlying0,
  a0 := Tryz.isAgg0,
  z0 := Tryz.sizeOf0,
  v0 := Tryz.zeroValue0,
  t2 := Tryz.underlying2,
  a2 := Tryz.isAgg2,
  z2 := Tryz.sizeOf2,
  v2 := Tryz.zeroValue2,
  t3 := Tryz.underlying3,
  a3 := Tryz.isAgg3,
  z3 := Tryz.sizeOf3,
  v3 := Tryz.zeroValue3,
  t4 := Tryz.underlying4,
  a4 := Tryz.isAgg4,
  z4 := Tryz.sizeOf4,
  v4 := Tryz.zeroValue4,
  t5 := Tryz.underlying5,
  a5 := Tryz.isAgg5,
  z5 := Tryz.sizeOf5,
  v5 := Tryz.zeroValue5,
  t9 := Tryz.underlying9,
  a9 := Tryz.isAgg9,
  z9 := Tryz.sizeOf9,
  v9 := Tryz.zeroValue9,
  t20 := Tryz.underlying20,
  a20 := Tryz.isAgg20,
  z20 := Tryz.sizeOf20,
  v20 := Tryz.zeroValue20,
  t37 := Tryz.underlying22,
  a37 := Tryz.isAgg22,
  z37 := Tryz.sizeOf22,
  v37 := Tryz.zeroValue22,
  t46 := Tryz.underlying209,
  a46 := Tryz.isAgg209,
  z46 := Tryz.sizeOf209,
  v46 := Tryz.zeroValue209,
  t51 := Tryz.underlying236,
  a51 := Tryz.isAgg236,
  z51 := Tryz.sizeOf236,
  v51 := Tryz.zeroValue236,
  t53 := Tryz.underlying175,
  a53 := Tryz.isAgg175,
  z53 := Tryz.sizeOf175,
  v53 := Tryz.zeroValue175,
  t171 := Tryz.underlying229,
  a171 := Tryz.isAgg229,
  z171 := Tryz.sizeOf229,
  v171 := Tryz.zeroValue229,
  t173 := Tryz.underlying231,
  a173 := Tryz.isAgg231,
  z173 := Tryz.sizeOf231,
  v173 := Tryz.zeroValue231,
  t212 := Tryz.underlying235,
  a212 := Tryz.isAgg235,
  z212 := Tryz.sizeOf235,
  v212 := Tryz.zeroValue235,
  t213 := Tryz.underlying237,
  a213 := Tryz.isAgg237,
  z213 := Tryz.sizeOf237,
  t232 := Tryz.underlying242,
  a232 := Tryz.isAgg242,
  z232 := Tryz.sizeOf242,
  v232 := Tryz.zeroValue242,
  t233 := Tryz.underlying243,
  a233 := Tryz.isAgg243,
  z233 := Tryz.sizeOf243,
  v233 := Tryz.zeroValue243,
  g17 := by kernel_rfl,
  g18 := by kernel_rfl,
  g19 := by kernel_rfl,
  i0 := by kernel_rfl,
  i2 := by kernel_rfl,
  i3 := by kernel_rfl,
  i4 := by kernel_rfl,
  i5 := by kernel_rfl,
  i9 := by kernel_rfl,
  i20 := by kernel_rfl,
  i37 := by kernel_rfl,
  i46 := by kernel_rfl,
  i51 := by kernel_rfl,
  i53 := by kernel_rfl,
  i171 := by kernel_rfl,
  i173 := by kernel_rfl,
  i212 := by kernel_rfl,
  i232 := by kernel_rfl,
  i233 := by kernel_rfl,
  m17 := by kernel_rfl,
  m18 := by kernel_rfl,
  m19 := by kernel_rfl }
theorem strconv_Itoa_ok (u : Nat) (p0 : Int) (r : ByteArray) (h : strconv_Itoa u p0 = some r) : CallOK Tryz.prog 106 [.one (.t (.int .i64 p0))] (.one (.t (.str r))) [] :=
  itoa_call ⟨_, Tryz.func106, by kernel_rfl, by kernel_rfl⟩ (k := 1) kr (fun n h0 h1 w ht => Go.Proofs.Any.strconv_Itoa laysItoa n h0 h1 w ht) h
theorem impl_NumText_ok (u : Nat) (p0 : Int) (r : ByteArray) (h : impl_NumText u p0 = some r) : CallOK Tryz.prog 64 [.one (.t (.int .i64 p0))] (.one (.t (.str r))) [] := by
  unfold impl_NumText at h
  refine CallOK.of_bodyK (fn := Tryz.f64) (m := false) [.t (.int .i64 p0)] kr rfl kr kr kr kr kr ?_
  refine Wp.srg [] [] ?_
  refine Runs.alln ?_
  refine Wp.fg ⟨[(0, .t (.int .i64 p0)), (2, .t (.str ((ByteArray.mk #[]))))], [], []⟩ ?_
  refine Wp.srg [] [] ?_
  refine Runs.batch 1 kr ?_
  obtain ⟨r1, e_r1, h⟩ := bind_some h
  refine Runs.callK false 4 106 [] [.t (.int .i64 p0)] _ _ _ rfl rfl kr kr kr kr kr (strconv_Itoa_ok u p0 r1 e_r1) kr ?_
  refine Runs.alln ?_
  refine Wp.fg ⟨[(2, .t (.str r1))], [], []⟩ ?_
  refine Wp.ret ?_
  obtain rfl := Option.some.inj h
  exact RetK [.t (.str r1)] _ [] kr kr (.refl _) .nil
def laysJoin_ren : Go.Shelf.Ren := ⟨fun | 156 => 53 | 165 => 87 | 166 => 88 | 169 => 89 | 240 => 127 | 241 => 128 | 276 => 167 | 277 => 168 | n => n, fun | 31 => 93 | 9 => 9 | 3 => 3 | 4 => 4 | 0 => 0 | 20 => 20 | 72 => 139 | 76 => 143 | 70 => 137 | 37 => 22 | 75 => 142 | 127 => 176 | 164 => 210 | 5 => 5 | 80 => 145 | n => n, fun | n => n⟩
theorem laysJoin : Go.Proofs.Lays.n156 Tryz.prog laysJoin_ren := {
  mixed := by kernel_rfl,
  f156 := Tryz.func53.trans (congrArg some kr),
  f165 := Tryz.func87.trans (congrArg some kr),
  f166 := Tryz.func88.trans (congrArg some kr),
  f169 := Tryz.func89.trans (congrArg some kr),
  f240 := Tryz.func127.trans (congrArg some kr),
  f241 := Tryz.func128.trans (congrArg some kr),
  f276 := Tryz.func167.trans (congrArg some kr),
  f277 := Tryz.func168.trans (congrArg some kr),
  t0 := Tryz.underlying0,
  a0 := Tryz.isAgg0,
  z0 := Tryz.sizeOf0,
  v0 := Tryz.zeroValue0,
  t3 := Tryz.underlying3,
  a3 := Tryz.isAgg3,
  z3 := Tryz.sizeOf3,
  v3 := Tryz.zeroValue3,
  t4 := Tryz.underlying4,
  a4 := Tryz.isAgg4,
  z4 := Tryz.sizeOf4,
  v4 := Tryz.zeroValue4,
  t9 := Tryz.underlying9,
  a9 := Tryz.isAgg9,
  z9 := Tryz.sizeOf9,
  v9 := Tryz.zeroValue9,
  t20 := Tryz.underlying20,
  a20 := Tryz.isAgg20,
  z20 := Tryz.sizeOf20,
  v20 := Tryz.zeroValue20,
  t31 := Tryz.underlying93,
  a31 := Tryz.isAgg93,
  z31 := Tryz.sizeOf93,
  v31 := Tryz.zeroValue93,
  t37 := Tryz.underlying22,
  a37 := Tryz.isAgg22,
  z37 := Tryz.sizeOf22,
  v37 := Tryz.zeroValue22,
  t70 := Tryz.underlying137,
  a70 := Tryz.isAgg137,
  z70 := Tryz.sizeOf137,
  v70 := Tryz.zeroValue137,
  t72 := Tryz.underlying139,
  a72 := Tryz.isAgg139,
  z72 := Tryz.sizeOf139,
  v72 := Tryz.zeroValue139,
  t75 := Tryz.underlying142,
  a75 := Tryz.isAgg142,
  z75 := Tryz.sizeOf142,
  v75 := Tryz.zeroValue142,
  t76 := Tryz.underlying143,
  a76 := Tryz.isAgg143,
  z76 := Tryz.sizeOf143,
  v76 := Tryz.zeroValue143,
  t127 := Tryz.underlying176,
  a127 := Tryz.isAgg176,
  z127 := Tryz.sizeOf176,
  v127 := Tryz.zeroValue176,
  t164 := Tryz.underlying210,
  a164 := Tryz.isAgg210,
  z164 := Tryz.sizeOf210,
  v164 := Tryz.zeroValue210 }
theorem laysJoinX : Go.Proofs.Builder.Extra Tryz.prog laysJoin_ren := {
  sizeBuilder := by kernel_rfl,
  liesBuilder := by kernel_rfl,
  t5 := Tryz.underlying5,
  a5 := Tryz.isAgg5,
  z5 := Tryz.sizeOf5,
  v5 := Tryz.zeroValue5,
  infoByte := by kernel_rfl,
  cellsByte := by kernel_rfl,
  sizeByte := by kernel_rfl,
  neB5 := by decide }
theorem strings_Join_ok (u : Nat) (p0 : List ByteArray) (p1 : ByteArray) (r : ByteArray) (h : strings_Join u p0 p1 = some r) : CallOK Tryz.prog 53 [.one (.t (.sl 1 (p0.map eStr))), .one (.t (.str p1))] (.one (.t (.str r))) [] :=
  join_call ⟨_, Tryz.func53, by kernel_rfl, by kernel_rfl⟩ (fun a c sep w => Go.Proofs.Any.strings_Join_none laysJoin laysJoinX a c sep w) (fun bk o c xs sep w h1 h2 h3 h4 h5 => Go.Proofs.Any.strings_Join laysJoin laysJoinX bk o c xs sep w h1 h2 h3 h4 h5) h
theorem impl_joined_ok (u : Nat) (p0 : List Int) (r : ByteArray) (h : impl_joined u p0 = some r) : CallOK Tryz.prog 28 [.one (.t (.sl 1 (p0.map (eInt .i64))))] (.one (.t (.str r))) [] := by
  unfold impl_joined at h
  refine CallOK.of_bodyK (fn := Tryz.f28) (m := false) [.t (.sl 1 (p0.map (eInt .i64)))] kr rfl kr kr kr kr kr ?_
  refine Wp.srg [] [] ?_
  refine Runs.alln ?_
  refine Wp.fg ⟨[(0, .t (.sl 1 (p0.map (eInt .i64)))), (2, .t (.str ((ByteArray.mk #[]))))], [], []⟩ ?_
  refine Wp.srg [] [] ?_
  refine Runs.alln ?_
  refine Wp.fg ⟨[(0, .t (.sl 1 (p0.map (eInt .i64)))), (2, .t (.str ((ByteArray.mk #[])))), (3, .own 393216)], [], [(393216, .live 9 1 ((([] : List ByteArray)).map eStr))]⟩ ?_
  refine Wp.seqJ (α := (List ByteArray)) (fun a => ⟨[(2, .t (.str ((ByteArray.mk #[])))), (3, .own 196609)], [], [(196609, .live 9 1 (a.map eStr))]⟩) (fun a => impl_joined_j1 u a = some r) ?_ ?_
  · rintro x9 h
    change impl_joined_j1 u x9 = some r at h
    unfold impl_joined_j1 at h
    refine Wp.srg [] [] ?_
    refine Runs.batch 1 kr ?_
    obtain ⟨r10, e_r10, h⟩ := bind_some h
    refine Runs.callBK 20 53 [] [.own 196609, .t (.str ((ByteArray.mk #[32])))] [.one (.t (.sl 1 (x9.map eStr))), .one (.t (.str ((ByteArray.mk #[32]))))] (.one (.t (.str r10))) rfl rfl kr kr kr kr kr (strings_Join_ok u x9 ((ByteArray.mk #[32])) r10 e_r10) (by simp [V.plain, V.plains, C.plain, T.sc]) kr ?_
    refine Runs.alln ?_
    refine Wp.fg ⟨[(2, .t (.str r10))], [], []⟩ ?_
    refine Wp.ret ?_
    obtain rfl := Option.some.inj h
    exact RetK [.t (.str r10)] _ [] kr kr (.refl _) .nil
  · refine Wp.srg [] [] ?_
    refine Runs.batch 1 kr ?_
    refine Runs.lenT (y := .t (.sl 1 (p0.map (eInt .i64)))) (e := 3) (eInt .i64) p0 1 rfl rfl rfl kr kr kr kr kr ?_
    refine Runs.alln ?_
    refine Wp.fg ⟨[(2, .t (.str ((ByteArray.mk #[])))), (3, .own 393216), (7, .t (.sl 1 (p0.map (eInt .i64)))), (8, .t (.int .i64 ((p0.length : Int)))), (9, .t (.int .i64 0))], [], [(393216, .live 9 1 ((([] : List ByteArray)).map eStr))]⟩ ?_
    refine Wp.block ?_
    refine Wp.loopF (α := (List ByteArray) × (List Int) × Int) (fun a => ⟨[(2, .t (.str ((ByteArray.mk #[])))), (3, .own 196609), (7, .t (.sl 1 (a.2.1.map (eInt .i64)))), (8, .t (.int .i64 ((a.2.1.length : Int)))), (9, .t (.int .i64 a.2.2))], [], [(196609, .live 9 1 (a.1.map eStr))]⟩) (fun k_impl_joined_l2 a => impl_joined_l2 u k_impl_joined_l2 a.1 a.2.1 a.2.2 = some r) ?_ ?_ u (([] : List ByteArray), p0, 0) h (Le.of (mo := []) (mr := [(196609, 393216)]) kr kr kr kr)
    · intro a h; unfold impl_joined_l2 at h; cases h
    · rintro k_impl_joined_l2 ⟨x3, p0, x4⟩ h
      change impl_joined_l2 u (k_impl_joined_l2 + 1) x3 p0 x4 = some r at h
      rw [impl_joined_l2] at h
      refine Wp.srg [] [] ?_
      refine Runs.alln ?_
      refine Wp.fg ⟨[(2, .t (.str ((ByteArray.mk #[])))), (3, .own 196609), (7, .t (.sl 1 (p0.map (eInt .i64)))), (8, .t (.int .i64 ((p0.length : Int)))), (9, .t (.int .i64 x4)), (10, .t (.bool (decide (x4 < ((p0.length : Int))))))], [], [(196609, .live 9 1 (x3.map eStr))]⟩ ?_
      refine Wp.seq ?_
      refine Wp.cond2 (b := decide (x4 < ((p0.length : Int)))) kr (fun hc => ?_) (fun hc => ?_)
      · have h := cond_t h hc
        refine Wp.skip (thenN ?_)
        refine Wp.seq ?_
        refine Wp.block ?_
        refine Wp.srg [] [] ?_
        obtain ⟨y7, e_y7, h⟩ := bind_some h
        refine Runs.idxT (e := 3) (kk := .i64) (sz := 1) (eInt .i64) p0 x4 rfl kr kr kr kr kr kr e_y7 ?_
        refine Runs.alln ?_
        refine Wp.fg ⟨[(2, .t (.str ((ByteArray.mk #[])))), (3, .own 196609), (5, .t (.int .i64 y7)), (7, .t (.sl 1 (p0.map (eInt .i64)))), (8, .t (.int .i64 ((p0.length : Int)))), (9, .t (.int .i64 x4))], [], [(196609, .live 9 1 (x3.map eStr))]⟩ ?_
        refine Wp.rg [] [] ?_
        refine Runs.batch 2 kr ?_
        obtain ⟨r8, e_r8, h⟩ := bind_some h
        refine Runs.callK false 15 64 [] [.t (.int .i64 y7)] _ _ _ rfl rfl kr kr kr kr kr (impl_NumText_ok u y7 r8 e_r8) kr ?_
        refine Runs.batch 1 kr ?_
        obtain ⟨_, e_9, h⟩ := bind_some h
        refine Runs.appT (y := .own 1048576) eStr 17 1 9 1 16 196609 x3 ([r8]) rfl rfl rfl rfl kr kr kr kr kr kr (.inl rfl) kr (of_decide_eq_true (chk_some e_9)) kr kr ?_
        refine Runs.all kr ?_
        refine blkN ?_
        refine thenN ?_
        refine Wp.rg [] [] ?_
        refine Runs.alln ?_
        exact ⟨(x3 ++ ([r8]), p0, bAdd .i64 x4 1), h, Le.of (mo := []) (mr := [(196609, 1114112)]) kr kr kr kr⟩
      have h := cond_f h hc
      refine Wp.exit ?_
      refine thenE ?_
      refine thenE ?_
      refine blkE ?_
      refine thenN ?_
      exact ⟨x3, h, Le.of (mo := []) (mr := []) kr kr kr kr⟩
theorem impl_CostTable_ok (u : Nat) (p0 : List Int) (p1 : List Image) (r : ByteArray) (h : impl_CostTable u p0 p1 = some r) : CallOK Tryz.prog 11 [.one (.t (.sl 1 (p0.map (eInt .u8)))), .one (.t (.sl 1 (p1.map Image.enc)))] (.one (.t (.str r))) [] := by
  unfold impl_CostTable at h
  refine CallOK.of_bodyK (fn := Tryz.f11) (m := false) [.t (.sl 1 (p0.map (eInt .u8))), .t (.sl 1 (p1.map Image.enc))] kr rfl kr kr kr kr kr ?_
  refine Wp.srg [] [] ?_
  refine Runs.alln ?_
  refine Wp.fg ⟨[(0, .t (.sl 1 (p0.map (eInt .u8)))), (1, .t (.sl 1 (p1.map Image.enc))), (4, .t (.str ((ByteArray.mk #[]))))], [], []⟩ ?_
  refine Wp.srg [] [] ?_
  refine Runs.alln ?_
  refine Wp.fg ⟨[(0, .t (.sl 1 (p0.map (eInt .u8)))), (1, .t (.sl 1 (p1.map Image.enc))), (4, .t (.str ((ByteArray.mk #[])))), (5, .own 458752)], [], [(458752, .live 3 1 ((([] : List Int)).map (eInt .i64)))]⟩ ?_
  refine Wp.seqJ (α := (List Int)) (fun a => ⟨[(4, .t (.str ((ByteArray.mk #[])))), (5, .own 327681)], [], [(327681, .live 3 1 (a.map (eInt .i64)))]⟩) (fun a => impl_CostTable_j1 u a = some r) ?_ ?_
  · rintro x8 h
    change impl_CostTable_j1 u x8 = some r at h
    unfold impl_CostTable_j1 at h
    refine Wp.srg [] [] ?_
    refine Runs.batch 1 kr ?_
    obtain ⟨r9, e_r9, h⟩ := bind_some h
    refine Runs.callBK 20 28 [] [.own 327681] [.one (.t (.sl 1 (x8.map (eInt .i64))))] (.one (.t (.str r9))) rfl rfl kr kr kr kr kr (impl_joined_ok u x8 r9 e_r9) (by simp [V.plain, V.plains, C.plain, T.sc]) kr ?_
    refine Runs.alln ?_
    refine Wp.fg ⟨[(4, .t (.str r9))], [], []⟩ ?_
    refine Wp.ret ?_
    obtain rfl := Option.some.inj h
    exact RetK [.t (.str r9)] _ [] kr kr (.refl _) .nil
  · refine Wp.srg [] [] ?_
    refine Runs.alln ?_
    refine Wp.fg ⟨[(0, .t (.sl 1 (p0.map (eInt .u8)))), (1, .t (.sl 1 (p1.map Image.enc))), (4, .t (.str ((ByteArray.mk #[])))), (5, .own 458752), (6, .t (.int .i64 2))], [], [(458752, .live 3 1 ((([] : List Int)).map (eInt .i64)))]⟩ ?_
    refine Wp.block ?_
    refine Wp.loopF (α := (List Int) × (List Image) × (List Int) × Int) (fun a => ⟨[(0, .t (.sl 1 (a.1.map (eInt .u8)))), (1, .t (.sl 1 (a.2.1.map Image.enc))), (4, .t (.str ((ByteArray.mk #[])))), (5, .own 327681), (6, .t (.int .i64 a.2.2.2))], [], [(327681, .live 3 1 (a.2.2.1.map (eInt .i64)))]⟩) (fun k_impl_CostTable_l2 a => impl_CostTable_l2 u k_impl_CostTable_l2 a.1 a.2.1 a.2.2.1 a.2.2.2 = some r) ?_ ?_ u (p0, p1, ([] : List Int), 2) h (Le.of (mo := []) (mr := [(327681, 458752)]) kr kr kr kr)
    · intro a h; unfold impl_CostTable_l2 at h; cases h
    · rintro k_impl_CostTable_l2 ⟨p0, p1, x3, x4⟩ h
      change impl_CostTable_l2 u (k_impl_CostTable_l2 + 1) p0 p1 x3 x4 = some r at h
      rw [impl_CostTable_l2] at h
      refine Wp.seq ?_
      refine Wp.srg [] [] ?_
      refine Runs.alln ?_
      refine Wp.fg ⟨[(0, .t (.sl 1 (p0.map (eInt .u8)))), (1, .t (.sl 1 (p1.map Image.enc))), (4, .t (.str ((ByteArray.mk #[])))), (5, .own 327681), (6, .t (.int .i64 x4)), (9, .t (.bool (decide (x4 ≤ 6))))], [], [(327681, .live 3 1 (x3.map (eInt .i64)))]⟩ ?_
      refine Wp.cond2 (b := decide (x4 ≤ 6)) kr (fun hc => ?_) (fun hc => ?_)
      · have h := cond_t h hc
        refine Wp.skip (thenN ?_)
        refine Wp.seq ?_
        refine Wp.block ?_
        refine Wp.rg [] [] ?_
        refine Runs.batch 4 kr ?_
        obtain ⟨r7, e_r7, h⟩ := bind_some h
        refine Runs.callK false 16 27 [] [.t (.sl 1 (p0.map (eInt .u8))), .t (.sl 1 (p1.map Image.enc)), .t (.int .i64 x4)] _ _ _ rfl rfl kr kr kr kr kr (impl_CostOf_ok u p0 p1 x4 r7 e_r7) kr ?_
        refine Runs.batch 1 kr ?_
        obtain ⟨_, e_8, h⟩ := bind_some h
        refine Runs.appT (y := .own 1114112) (eInt .i64) 18 1 3 1 8 327681 x3 ([r7]) rfl rfl rfl rfl kr kr kr kr kr kr (.inl rfl) kr (of_decide_eq_true (chk_some e_8)) kr kr ?_
        refine Runs.all kr ?_
        refine blkN ?_
        refine thenN ?_
        refine Wp.rg [] [] ?_
        refine Runs.alln ?_
        exact ⟨(p0, p1, x3 ++ ([r7]), bAdd .i64 x4 1), h, Le.of (mo := []) (mr := [(327681, 1179648)]) kr kr kr kr⟩
      have h := cond_f h hc
      refine Wp.exit ?_
      refine thenE ?_
      refine thenE ?_
      refine blkE ?_
      refine thenN ?_
      exact ⟨x3, h, Le.of (mo := []) (mr := []) kr kr kr kr⟩
theorem laws_eqByteS_ok (u : Nat) (p0 : List Int) (p1 : List Int) (r : Bool) (h : laws_eqByteS u p0 p1 = some r) : CallOK Tryz.prog 12 [.one (.t (.sl 1 (p0.map (eInt .u8)))), .one (.t (.sl 1 (p1.map (eInt .u8))))] (.one (.t (.bool r))) [] := by
  unfold laws_eqByteS at h
  refine CallOK.of_bodyK (fn := Tryz.f12) (m := false) [.t (.sl 1 (p0.map (eInt .u8))), .t (.sl 1 (p1.map (eInt .u8)))] kr rfl kr kr kr kr kr ?_
  refine Wp.srg [] [] ?_
  refine Runs.alln ?_
  refine Wp.fg ⟨[(0, .t (.sl 1 (p0.map (eInt .u8)))), (1, .t (.sl 1 (p1.map (eInt .u8)))), (4, .t (.bool false))], [], []⟩ ?_
  refine Wp.seq ?_
  refine Wp.srg [] [] ?_
  refine Runs.batch 1 kr ?_
  refine Runs.lenT (y := .t (.sl 1 (p0.map (eInt .u8)))) (e := 5) (eInt .u8) p0 1 rfl rfl rfl kr kr kr kr kr ?_
  refine Runs.batch 1 kr ?_
  refine Runs.lenT (y := .t (.sl 1 (p1.map (eInt .u8)))) (e := 5) (eInt .u8) p1 1 rfl rfl rfl kr kr kr kr kr ?_
  refine Runs.alln ?_
  refine Wp.fg ⟨[(0, .t (.sl 1 (p0.map (eInt .u8)))), (1, .t (.sl 1 (p1.map (eInt .u8)))), (4, .t (.bool false)), (10, .t (.bool (((p0.length : Int)) != ((p1.length : Int)))))], [], []⟩ ?_
  refine Wp.cond2 (b := ((p0.length : Int)) != ((p1.length : Int))) kr (fun hc => ?_) (fun hc => ?_)
  · have h := cond_t h hc
    refine Wp.srg [] [] ?_
    refine Runs.alln ?_
    refine Wp.fg ⟨[(0, .t (.sl 1 (p0.map (eInt .u8)))), (1, .t (.sl 1 (p1.map (eInt .u8)))), (4, .t (.bool false))], [], []⟩ ?_
    refine Wp.ret ?_
    refine thenR ?_
    obtain rfl := Option.some.inj h
    exact RetK [.t (.bool false)] _ [] kr kr (.refl _) .nil
  have h := cond_f h hc
  refine Wp.skip (thenN ?_)
  refine Wp.seqJ (α := Unit) (fun a => ⟨[(4, .t (.bool false))], [], []⟩) (fun a => laws_eqByteS_j1 u = some r) ?_ ?_
  · rintro ⟨⟩ h
    change laws_eqByteS_j1 u = some r at h
    unfold laws_eqByteS_j1 at h
    refine Wp.srg [] [] ?_
    refine Runs.alln ?_
    refine Wp.fg ⟨[(4, .t (.bool true))], [], []⟩ ?_
    refine Wp.ret ?_
    obtain rfl := Option.some.inj h
    exact RetK [.t (.bool true)] _ [] kr kr (.refl _) .nil
  · refine Wp.srg [] [] ?_
    refine Runs.alln ?_
    refine Wp.fg ⟨[(0, .t (.sl 1 (p0.map (eInt .u8)))), (1, .t (.sl 1 (p1.map (eInt .u8)))), (4, .t (.bool false)), (5, .t (.int .i64 0))], [], []⟩ ?_
    refine Wp.block ?_
    refine Wp.loopF (α := (List Int) × (List Int) × Int) (fun a => ⟨[(0, .t (.sl 1 (a.1.map (eInt .u8)))), (1, .t (.sl 1 (a.2.1.map (eInt .u8)))), (4, .t (.bool false)), (5, .t (.int .i64 a.2.2))], [], []⟩) (fun k_laws_eqByteS_l2 a => laws_eqByteS_l2 u k_laws_eqByteS_l2 a.1 a.2.1 a.2.2 = some r) ?_ ?_ u (p0, p1, 0) h (Le.of (mo := []) (mr := []) kr kr kr kr)
    · intro a h; unfold laws_eqByteS_l2 at h; cases h
    · rintro k_laws_eqByteS_l2 ⟨p0, p1, x2⟩ h
      change laws_eqByteS_l2 u (k_laws_eqByteS_l2 + 1) p0 p1 x2 = some r at h
      rw [laws_eqByteS_l2] at h
      refine Wp.seq ?_
      refine Wp.srg [] [] ?_
      refine Runs.batch 2 kr ?_
      refine Runs.lenT (y := .t (.sl 1 (p0.map (eInt .u8)))) (e := 5) (eInt .u8) p0 1 rfl rfl rfl kr kr kr kr kr ?_
      refine Runs.alln ?_
      refine Wp.fg ⟨[(0, .t (.sl 1 (p0.map (eInt .u8)))), (1, .t (.sl 1 (p1.map (eInt .u8)))), (4, .t (.bool false)), (5, .t (.int .i64 x2)), (14, .t (.bool (decide (x2 < ((p0.length : Int))))))], [], []⟩ ?_
      refine Wp.cond2 (b := decide (x2 < ((p0.length : Int)))) kr (fun hc => ?_) (fun hc => ?_)
      · have h := cond_t h hc
        refine Wp.skip (thenN ?_)
        refine Wp.seq ?_
        refine Wp.block ?_
        refine Wp.seq ?_
        refine Wp.regionA (pOf []) (rhoOf [(0, .frz), (1, .frz), (5, .frz), (17, .frz), (18, .frz), (19, .frz), (20, .frz), (21, .frz), (22, .frz), (23, .frz), (24, .frz)]) kr kr ?_
        refine Runs.batch 2 kr ?_
        obtain ⟨y4, e_y4, h⟩ := bind_some h
        refine Runs.idxT (e := 5) (kk := .i64) (sz := 1) (eInt .u8) p0 x2 rfl kr kr kr kr kr kr e_y4 ?_
        refine Runs.batch 3 kr ?_
        obtain ⟨y5, e_y5, h⟩ := bind_some h
        refine Runs.idxT (e := 5) (kk := .i64) (sz := 1) (eInt .u8) p1 x2 rfl kr kr kr kr kr kr e_y5 ?_
        refine Runs.alln ?_
        refine Wp.fg ⟨[(0, .t (.sl 1 (p0.map (eInt .u8)))), (1, .t (.sl 1 (p1.map (eInt .u8)))), (4, .t (.bool false)), (5, .t (.int .i64 x2)), (25, .t (.bool (y4 != y5)))], [], []⟩ ?_
        refine Wp.cond2 (b := y4 != y5) kr (fun hc => ?_) (fun hc => ?_)
        · have h := cond_t h hc
          refine Wp.srg [] [] ?_
          refine Runs.alln ?_
          refine Wp.fg ⟨[(0, .t (.sl 1 (p0.map (eInt .u8)))), (1, .t (.sl 1 (p1.map (eInt .u8)))), (4, .t (.bool false)), (5, .t (.int .i64 x2))], [], []⟩ ?_
          refine Wp.ret ?_
          refine blkR ?_
          refine thenR ?_
          refine thenR ?_
          refine blkR ?_
          refine thenR ?_
          obtain rfl := Option.some.inj h
          exact RetK [.t (.bool false)] _ [] kr kr (.refl _) .nil
        have h := cond_f h hc
        refine Wp.skip ?_
        refine blkN ?_
        refine thenN ?_
        refine Wp.rg [] [] ?_
        refine Runs.alln ?_
        exact ⟨(p0, p1, bAdd .i64 x2 1), h, Le.of (mo := []) (mr := []) kr kr kr kr⟩
      have h := cond_f h hc
      refine Wp.exit ?_
      refine thenE ?_
      refine thenE ?_
      refine blkE ?_
      refine thenN ?_
      exact ⟨(), h, Le.of (mo := []) (mr := []) kr kr kr kr⟩
theorem laws_eqImage_ok (u : Nat) (p0 : Image) (p1 : Image) (r : Bool) (h : laws_eqImage u p0 p1 = some r) : CallOK Tryz.prog 29 [.agg [.t (.sl 1 (p0.fB.map (eInt .u8)))], .agg [.t (.sl 1 (p1.fB.map (eInt .u8)))]] (.one (.t (.bool r))) [] := by
  unfold laws_eqImage at h
  refine CallOK.of_bodyK (fn := Tryz.f29) (m := false) [.agg [.t (.sl 1 (p0.fB.map (eInt .u8)))], .agg [.t (.sl 1 (p1.fB.map (eInt .u8)))]] kr rfl kr kr kr kr kr ?_
  refine Wp.srg [] [] ?_
  refine Runs.alln ?_
  refine Wp.fg ⟨[(2, .obj 2 0), (3, .obj 3 0), (4, .t (.bool false))], [(2, [.t (.sl 1 (p0.fB.map (eInt .u8)))]), (3, [.t (.sl 1 (p1.fB.map (eInt .u8)))])], []⟩ ?_
  refine Wp.seq ?_
  refine Wp.srg [] [] ?_
  refine Runs.batch 4 kr ?_
  obtain ⟨r1, e_r1, h⟩ := bind_some h
  refine Runs.callK false 9 12 [] [.t (.sl 1 (p0.fB.map (eInt .u8))), .t (.sl 1 (p1.fB.map (eInt .u8)))] _ _ _ rfl rfl kr kr kr kr kr (laws_eqByteS_ok u p0.fB p1.fB r1 e_r1) kr ?_
  refine Runs.alln ?_
  refine Wp.fg ⟨[(4, .t (.bool false)), (10, .t (.bool (!r1)))], [], []⟩ ?_
  refine Wp.cond2 (b := !r1) kr (fun hc => ?_) (fun hc => ?_)
  · have h := cond_t h hc
    refine Wp.srg [] [] ?_
    refine Runs.alln ?_
    refine Wp.fg ⟨[(4, .t (.bool false))], [], []⟩ ?_
    refine Wp.ret ?_
    refine thenR ?_
    obtain rfl := Option.some.inj h
    exact RetK [.t (.bool false)] _ [] kr kr (.refl _) .nil
  have h := cond_f h hc
  refine Wp.skip (thenN ?_)
  refine Wp.srg [] [] ?_
  refine Runs.alln ?_
  refine Wp.fg ⟨[(4, .t (.bool true))], [], []⟩ ?_
  refine Wp.ret ?_
  obtain rfl := Option.some.inj h
  exact RetK [.t (.bool true)] _ [] kr kr (.refl _) .nil
theorem laws_eqImageS_ok (u : Nat) (p0 : List Image) (p1 : List Image) (r : Bool) (h : laws_eqImageS u p0 p1 = some r) : CallOK Tryz.prog 13 [.one (.t (.sl 1 (p0.map Image.enc))), .one (.t (.sl 1 (p1.map Image.enc)))] (.one (.t (.bool r))) [] := by
  unfold laws_eqImageS at h
  refine CallOK.of_bodyK (fn := Tryz.f13) (m := false) [.t (.sl 1 (p0.map Image.enc)), .t (.sl 1 (p1.map Image.enc))] kr rfl kr kr kr kr kr ?_
  refine Wp.srg [] [] ?_
  refine Runs.alln ?_
  refine Wp.fg ⟨[(0, .t (.sl 1 (p0.map Image.enc))), (1, .t (.sl 1 (p1.map Image.enc))), (4, .t (.bool false))], [], []⟩ ?_
  refine Wp.seq ?_
  refine Wp.srg [] [] ?_
  refine Runs.batch 1 kr ?_
  refine Runs.lenT (y := .t (.sl 1 (p0.map Image.enc))) (e := 61) Image.enc p0 1 rfl rfl rfl kr kr kr kr kr ?_
  refine Runs.batch 1 kr ?_
  refine Runs.lenT (y := .t (.sl 1 (p1.map Image.enc))) (e := 61) Image.enc p1 1 rfl rfl rfl kr kr kr kr kr ?_
  refine Runs.alln ?_
  refine Wp.fg ⟨[(0, .t (.sl 1 (p0.map Image.enc))), (1, .t (.sl 1 (p1.map Image.enc))), (4, .t (.bool false)), (10, .t (.bool (((p0.length : Int)) != ((p1.length : Int)))))], [], []⟩ ?_
  refine Wp.cond2 (b := ((p0.length : Int)) != ((p1.length : Int))) kr (fun hc => ?_) (fun hc => ?_)
  · have h := cond_t h hc
    refine Wp.srg [] [] ?_
    refine Runs.alln ?_
    refine Wp.fg ⟨[(0, .t (.sl 1 (p0.map Image.enc))), (1, .t (.sl 1 (p1.map Image.enc))), (4, .t (.bool false))], [], []⟩ ?_
    refine Wp.ret ?_
    refine thenR ?_
    obtain rfl := Option.some.inj h
    exact RetK [.t (.bool false)] _ [] kr kr (.refl _) .nil
  have h := cond_f h hc
  refine Wp.skip (thenN ?_)
  refine Wp.seqJ (α := Unit) (fun a => ⟨[(4, .t (.bool false))], [], []⟩) (fun a => laws_eqImageS_j1 u = some r) ?_ ?_
  · rintro ⟨⟩ h
    change laws_eqImageS_j1 u = some r at h
    unfold laws_eqImageS_j1 at h
    refine Wp.srg [] [] ?_
    refine Runs.alln ?_
    refine Wp.fg ⟨[(4, .t (.bool true))], [], []⟩ ?_
    refine Wp.ret ?_
    obtain rfl := Option.some.inj h
    exact RetK [.t (.bool true)] _ [] kr kr (.refl _) .nil
  · refine Wp.srg [] [] ?_
    refine Runs.alln ?_
    refine Wp.fg ⟨[(0, .t (.sl 1 (p0.map Image.enc))), (1, .t (.sl 1 (p1.map Image.enc))), (4, .t (.bool false)), (5, .t (.int .i64 0))], [], []⟩ ?_
    refine Wp.block ?_
    refine Wp.loopF (α := (List Image) × (List Image) × Int) (fun a => ⟨[(0, .t (.sl 1 (a.1.map Image.enc))), (1, .t (.sl 1 (a.2.1.map Image.enc))), (4, .t (.bool false)), (5, .t (.int .i64 a.2.2))], [], []⟩) (fun k_laws_eqImageS_l2 a => laws_eqImageS_l2 u k_laws_eqImageS_l2 a.1 a.2.1 a.2.2 = some r) ?_ ?_ u (p0, p1, 0) h (Le.of (mo := []) (mr := []) kr kr kr kr)
    · intro a h; unfold laws_eqImageS_l2 at h; cases h
    · rintro k_laws_eqImageS_l2 ⟨p0, p1, x2⟩ h
      change laws_eqImageS_l2 u (k_laws_eqImageS_l2 + 1) p0 p1 x2 = some r at h
      rw [laws_eqImageS_l2] at h
      refine Wp.seq ?_
      refine Wp.srg [] [] ?_
      refine Runs.batch 2 kr ?_
      refine Runs.lenT (y := .t (.sl 1 (p0.map Image.enc))) (e := 61) Image.enc p0 1 rfl rfl rfl kr kr kr kr kr ?_
      refine Runs.alln ?_
      refine Wp.fg ⟨[(0, .t (.sl 1 (p0.map Image.enc))), (1, .t (.sl 1 (p1.map Image.enc))), (4, .t (.bool false)), (5, .t (.int .i64 x2)), (14, .t (.bool (decide (x2 < ((p0.length : Int))))))], [], []⟩ ?_
      refine Wp.cond2 (b := decide (x2 < ((p0.length : Int)))) kr (fun hc => ?_) (fun hc => ?_)
      · have h := cond_t h hc
        refine Wp.skip (thenN ?_)
        refine Wp.seq ?_
        refine Wp.block ?_
        refine Wp.seq ?_
        refine Wp.regionA (pOf []) (rhoOf [(0, .frz), (1, .frz), (5, .frz), (17, .frz), (18, .frz), (19, .frz), (20, .frz), (21, .frz), (22, .frz), (23, .frz), (24, .frz), (25, .frz)]) kr kr ?_
        refine Runs.batch 2 kr ?_
        obtain ⟨y4, e_y4, h⟩ := bind_some h
        refine Runs.idxT (e := 61) (kk := .i64) (sz := 1) Image.enc p0 x2 rfl kr kr kr kr kr kr e_y4 ?_
        refine Runs.batch 3 kr ?_
        obtain ⟨y5, e_y5, h⟩ := bind_some h
        refine Runs.idxT (e := 61) (kk := .i64) (sz := 1) Image.enc p1 x2 rfl kr kr kr kr kr kr e_y5 ?_
        refine Runs.batch 1 kr ?_
        obtain ⟨r6, e_r6, h⟩ := bind_some h
        refine Runs.callK false 25 29 [] [.agg [.t (.sl 1 (y4.fB.map (eInt .u8)))], .agg [.t (.sl 1 (y5.fB.map (eInt .u8)))]] _ _ _ rfl rfl kr kr kr kr kr (laws_eqImage_ok u y4 y5 r6 e_r6) kr ?_
        refine Runs.alln ?_
        refine Wp.fg ⟨[(0, .t (.sl 1 (p0.map Image.enc))), (1, .t (.sl 1 (p1.map Image.enc))), (4, .t (.bool false)), (5, .t (.int .i64 x2)), (26, .t (.bool (!r6)))], [], []⟩ ?_
        refine Wp.cond2 (b := !r6) kr (fun hc => ?_) (fun hc => ?_)
        · have h := cond_t h hc
          refine Wp.srg [] [] ?_
          refine Runs.alln ?_
          refine Wp.fg ⟨[(0, .t (.sl 1 (p0.map Image.enc))), (1, .t (.sl 1 (p1.map Image.enc))), (4, .t (.bool false)), (5, .t (.int .i64 x2))], [], []⟩ ?_
          refine Wp.ret ?_
          refine blkR ?_
          refine thenR ?_
          refine thenR ?_
          refine blkR ?_
          refine thenR ?_
          obtain rfl := Option.some.inj h
          exact RetK [.t (.bool false)] _ [] kr kr (.refl _) .nil
        have h := cond_f h hc
        refine Wp.skip ?_
        refine blkN ?_
        refine thenN ?_
        refine Wp.rg [] [] ?_
        refine Runs.alln ?_
        exact ⟨(p0, p1, bAdd .i64 x2 1), h, Le.of (mo := []) (mr := []) kr kr kr kr⟩
      have h := cond_f h hc
      refine Wp.exit ?_
      refine thenE ?_
      refine thenE ?_
      refine blkE ?_
      refine thenN ?_
      exact ⟨(), h, Le.of (mo := []) (mr := []) kr kr kr kr⟩
theorem laws_FnExactCostTable_ok (u : Nat) (p0 : List Int) (p1 : List Image) (r : Bool) (h : laws_FnExactCostTable u p0 p1 = some r) : CallOK Tryz.prog 3 [.one (.t (.sl 1 (p0.map (eInt .u8)))), .one (.t (.sl 1 (p1.map Image.enc)))] (.one (.t (.bool r))) [] := by
  unfold laws_FnExactCostTable at h
  refine CallOK.of_bodyK (fn := Tryz.f3) (m := false) [.t (.sl 1 (p0.map (eInt .u8))), .t (.sl 1 (p1.map Image.enc))] kr rfl kr kr kr kr kr ?_
  refine Wp.srg [] [] ?_
  refine Runs.alln ?_
  refine Wp.fg ⟨[(0, .t (.sl 1 (p0.map (eInt .u8)))), (1, .t (.sl 1 (p1.map Image.enc))), (4, .t (.bool false))], [], []⟩ ?_
  refine Wp.seq ?_
  refine Wp.srg [] [] ?_
  refine Runs.batch 1 kr ?_
  refine Runs.lenT (y := .t (.sl 1 (p0.map (eInt .u8)))) (e := 5) (eInt .u8) p0 1 rfl rfl rfl kr kr kr kr kr ?_
  refine Runs.alln ?_
  refine Wp.fg ⟨[(0, .t (.sl 1 (p0.map (eInt .u8)))), (1, .t (.sl 1 (p1.map Image.enc))), (4, .t (.bool false)), (12, .t (.bool (decide (((p0.length : Int)) > 1048576))))], [], []⟩ ?_
  refine Wp.cond2 (b := decide (((p0.length : Int)) > 1048576)) kr (fun hc => ?_) (fun hc => ?_)
  · have h := cond_t h hc
    refine Wp.srg [] [] ?_
    refine Runs.alln ?_
    refine Wp.fg ⟨[(0, .t (.sl 1 (p0.map (eInt .u8)))), (1, .t (.sl 1 (p1.map Image.enc))), (4, .t (.bool true))], [], []⟩ ?_
    refine Wp.ret ?_
    refine thenR ?_
    obtain rfl := Option.some.inj h
    exact RetK [.t (.bool true)] _ [] kr kr (.refl _) .nil
  have h := cond_f h hc
  refine Wp.skip (thenN ?_)
  refine Wp.srg [] [] ?_
  refine Runs.alln ?_
  refine Wp.fg ⟨[(0, .t (.sl 1 (p0.map (eInt .u8)))), (1, .t (.sl 1 (p1.map Image.enc))), (4, .t (.bool false)), (5, .t (.int .i64 1048576))], [], []⟩ ?_
  refine Wp.srg [] [] ?_
  refine Runs.batch 2 kr ?_
  obtain ⟨r1, e_r1, h⟩ := bind_some h
  refine Runs.callK false 15 7 [] [.t (.sl 1 (p1.map Image.enc)), .t (.int .i64 1048576)] _ _ _ rfl rfl kr kr kr kr kr (laws_szImageS_ok u p1 1048576 r1 e_r1) kr ?_
  refine Runs.alln ?_
  refine Wp.fg ⟨[(0, .t (.sl 1 (p0.map (eInt .u8)))), (1, .t (.sl 1 (p1.map Image.enc))), (4, .t (.bool false)), (5, .t (.int .i64 r1))], [], []⟩ ?_
  refine Wp.seq ?_
  refine Wp.srg [] [] ?_
  refine Runs.alln ?_
  refine Wp.fg ⟨[(0, .t (.sl 1 (p0.map (eInt .u8)))), (1, .t (.sl 1 (p1.map Image.enc))), (4, .t (.bool false)), (17, .t (.bool (decide (r1 < 0))))], [], []⟩ ?_
  refine Wp.cond2 (b := decide (r1 < 0)) kr (fun hc => ?_) (fun hc => ?_)
  · have h := cond_t h hc
    refine Wp.srg [] [] ?_
    refine Runs.alln ?_
    refine Wp.fg ⟨[(0, .t (.sl 1 (p0.map (eInt .u8)))), (1, .t (.sl 1 (p1.map Image.enc))), (4, .t (.bool true))], [], []⟩ ?_
    refine Wp.ret ?_
    refine thenR ?_
    obtain rfl := Option.some.inj h
    exact RetK [.t (.bool true)] _ [] kr kr (.refl _) .nil
  have h := cond_f h hc
  refine Wp.skip (thenN ?_)
  refine Wp.srg [] [] ?_
  refine Runs.batch 1 kr ?_
  obtain ⟨r2, e_r2, h⟩ := bind_some h
  refine Runs.callK false 19 9 [] [.t (.sl 1 (p0.map (eInt .u8)))] _ _ _ rfl rfl kr kr kr kr kr (laws_toByteS_ok u p0 r2 e_r2) kr ?_
  refine Runs.batch 1 kr ?_
  obtain ⟨r3, e_r3, h⟩ := bind_some h
  refine Runs.callK false 21 10 [] [.t (.sl 1 (p1.map Image.enc))] _ _ _ rfl rfl kr kr kr kr kr (laws_toImageS_ok u p1 r3 e_r3) kr ?_
  obtain ⟨r4, e_r4, h⟩ := bind_some h
  refine Runs.callBK 22 8 [] [.own 1245184, .own 1376256] [.one (.t (.sl 1 (r2.map (eInt .u8)))), .one (.t (.sl 1 (r3.map Image.enc)))] (.one (.t (.str r4))) rfl rfl kr kr kr kr kr (spec_CostTable_ok u r2 r3 r4 e_r4) (by simp [V.plain, V.plains, C.plain, T.sc]) kr ?_
  refine Runs.alln ?_
  refine Wp.fg ⟨[(0, .t (.sl 1 (p0.map (eInt .u8)))), (1, .t (.sl 1 (p1.map Image.enc))), (4, .t (.bool false)), (6, .t (.str r4))], [], []⟩ ?_
  refine Wp.srg [] [] ?_
  refine Runs.batch 1 kr ?_
  obtain ⟨r5, e_r5, h⟩ := bind_some h
  refine Runs.callK false 24 9 [] [.t (.sl 1 (p0.map (eInt .u8)))] _ _ _ rfl rfl kr kr kr kr kr (laws_toByteS_ok u p0 r5 e_r5) kr ?_
  refine Runs.alln ?_
  refine Wp.fg ⟨[(0, .t (.sl 1 (p0.map (eInt .u8)))), (1, .t (.sl 1 (p1.map Image.enc))), (4, .t (.bool false)), (6, .t (.str r4)), (7, .own 1572864)], [], [(1572864, .live 5 1 (r5.map (eInt .u8)))]⟩ ?_
  refine Wp.srg [] [] ?_
  refine Runs.batch 1 kr ?_
  obtain ⟨r6, e_r6, h⟩ := bind_some h
  refine Runs.callK false 26 10 [] [.t (.sl 1 (p1.map Image.enc))] _ _ _ rfl rfl kr kr kr kr kr (laws_toImageS_ok u p1 r6 e_r6) kr ?_
  refine Runs.alln ?_
  refine Wp.fg ⟨[(0, .t (.sl 1 (p0.map (eInt .u8)))), (1, .t (.sl 1 (p1.map Image.enc))), (4, .t (.bool false)), (6, .t (.str r4)), (7, .own 1572864), (8, .own 1703936)], [], [(1572864, .live 5 1 (r5.map (eInt .u8))), (1703936, .live 61 1 (r6.map Image.enc))]⟩ ?_
  refine Wp.srg [] [] ?_
  refine Runs.batch 2 kr ?_
  obtain ⟨r7, e_r7, h⟩ := bind_some h
  refine Runs.callBK 29 11 [] [.own 1572864, .own 1703936] [.one (.t (.sl 1 (r5.map (eInt .u8)))), .one (.t (.sl 1 (r6.map Image.enc)))] (.one (.t (.str r7))) rfl rfl kr kr kr kr kr (impl_CostTable_ok u r5 r6 r7 e_r7) (by simp [V.plain, V.plains, C.plain, T.sc]) kr ?_
  refine Runs.alln ?_
  refine Wp.fg ⟨[(0, .t (.sl 1 (p0.map (eInt .u8)))), (1, .t (.sl 1 (p1.map Image.enc))), (4, .t (.bool false)), (6, .t (.str r4)), (7, .own 1572864), (8, .own 1703936), (9, .t (.str r7))], [], [(1572864, .live 5 1 (r5.map (eInt .u8))), (1703936, .live 61 1 (r6.map Image.enc))]⟩ ?_
  refine Wp.seq ?_
  refine Wp.srg [] [] ?_
  refine Runs.alln ?_
  refine Wp.fg ⟨[(0, .t (.sl 1 (p0.map (eInt .u8)))), (1, .t (.sl 1 (p1.map Image.enc))), (4, .t (.bool false)), (7, .own 1572864), (8, .own 1703936), (32, .t (.bool (!(r7.toList == r4.toList))))], [], [(1572864, .live 5 1 (r5.map (eInt .u8))), (1703936, .live 61 1 (r6.map Image.enc))]⟩ ?_
  refine Wp.cond2 (b := !(r7.toList == r4.toList)) kr (fun hc => ?_) (fun hc => ?_)
  · have h := cond_t h hc
    refine Wp.srg [] [] ?_
    refine Runs.alln ?_
    refine Wp.fg ⟨[(0, .t (.sl 1 (p0.map (eInt .u8)))), (1, .t (.sl 1 (p1.map Image.enc))), (4, .t (.bool false)), (7, .own 1572864), (8, .own 1703936)], [], [(1572864, .live 5 1 (r5.map (eInt .u8))), (1703936, .live 61 1 (r6.map Image.enc))]⟩ ?_
    refine Wp.ret ?_
    refine thenR ?_
    obtain rfl := Option.some.inj h
    exact RetK [.t (.bool false)] _ [] kr kr (.refl _) .nil
  have h := cond_f h hc
  refine Wp.skip (thenN ?_)
  refine Wp.seq ?_
  refine Wp.srg [] [] ?_
  refine Runs.batch 2 kr ?_
  obtain ⟨r8, e_r8, h⟩ := bind_some h
  refine Runs.callK false 35 9 [] [.t (.sl 1 (p0.map (eInt .u8)))] _ _ _ rfl rfl kr kr kr kr kr (laws_toByteS_ok u p0 r8 e_r8) kr ?_
  obtain ⟨r9, e_r9, h⟩ := bind_some h
  refine Runs.callBK 36 12 [] [.own 1572864, .own 2293760] [.one (.t (.sl 1 (r5.map (eInt .u8)))), .one (.t (.sl 1 (r8.map (eInt .u8))))] (.one (.t (.bool r9))) rfl rfl kr kr kr kr kr (laws_eqByteS_ok u r5 r8 r9 e_r9) (by simp [V.plain, V.plains, C.plain, T.sc]) kr ?_
  refine Runs.alln ?_
  refine Wp.fg ⟨[(1, .t (.sl 1 (p1.map Image.enc))), (4, .t (.bool false)), (8, .own 1703936), (37, .t (.bool (!r9)))], [], [(1703936, .live 61 1 (r6.map Image.enc))]⟩ ?_
  refine Wp.cond2 (b := !r9) kr (fun hc => ?_) (fun hc => ?_)
  · have h := cond_t h hc
    refine Wp.srg [] [] ?_
    refine Runs.alln ?_
    refine Wp.fg ⟨[(1, .t (.sl 1 (p1.map Image.enc))), (4, .t (.bool false)), (8, .own 1703936)], [], [(1703936, .live 61 1 (r6.map Image.enc))]⟩ ?_
    refine Wp.ret ?_
    refine thenR ?_
    obtain rfl := Option.some.inj h
    exact RetK [.t (.bool false)] _ [] kr kr (.refl _) .nil
  have h := cond_f h hc
  refine Wp.skip (thenN ?_)
  refine Wp.seq ?_
  refine Wp.srg [] [] ?_
  refine Runs.batch 2 kr ?_
  obtain ⟨r10, e_r10, h⟩ := bind_some h
  refine Runs.callK false 40 10 [] [.t (.sl 1 (p1.map Image.enc))] _ _ _ rfl rfl kr kr kr kr kr (laws_toImageS_ok u p1 r10 e_r10) kr ?_
  obtain ⟨r11, e_r11, h⟩ := bind_some h
  refine Runs.callBK 41 13 [] [.own 1703936, .own 2621440] [.one (.t (.sl 1 (r6.map Image.enc))), .one (.t (.sl 1 (r10.map Image.enc)))] (.one (.t (.bool r11))) rfl rfl kr kr kr kr kr (laws_eqImageS_ok u r6 r10 r11 e_r11) (by simp [V.plain, V.plains, C.plain, T.sc]) kr ?_
  refine Runs.alln ?_
  refine Wp.fg ⟨[(4, .t (.bool false)), (42, .t (.bool (!r11)))], [], []⟩ ?_
  refine Wp.cond2 (b := !r11) kr (fun hc => ?_) (fun hc => ?_)
  · have h := cond_t h hc
    refine Wp.srg [] [] ?_
    refine Runs.alln ?_
    refine Wp.fg ⟨[(4, .t (.bool false))], [], []⟩ ?_
    refine Wp.ret ?_
    refine thenR ?_
    obtain rfl := Option.some.inj h
    exact RetK [.t (.bool false)] _ [] kr kr (.refl _) .nil
  have h := cond_f h hc
  refine Wp.skip (thenN ?_)
  refine Wp.srg [] [] ?_
  refine Runs.alln ?_
  refine Wp.fg ⟨[(4, .t (.bool true))], [], []⟩ ?_
  refine Wp.ret ?_
  obtain rfl := Option.some.inj h
  exact RetK [.t (.bool true)] _ [] kr kr (.refl _) .nil
end Go.Tm
