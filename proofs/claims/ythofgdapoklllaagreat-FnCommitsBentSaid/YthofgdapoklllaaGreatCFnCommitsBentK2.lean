/- The functions as they are translated do what the pure functions say (printed). -/
import Derived.Test.YthofgdapoklllaaGreatCFnCommitsBentK1
import Derived.Test.YthofgdapoklllaaGreatProg
set_option maxRecDepth 100000
set_option maxHeartbeats 20000000
set_option linter.unusedVariables false
set_option linter.unusedSimpArgs false
namespace Go.Tm
open Go.Proofs
theorem impl_cloned_ok {u p0 r} (h:impl_cloned u p0=some r):CallOK Tryz.prog 64 [.one (.s p0)] (.one (.ow 5 1 (r.map (eInt .u8)))) []:=by
 unfold impl_cloned at h
 refine ofb Tryz.f64 true ?_
 refine Wp.sa ?_
 refine Wp.sr ?_
 refine Runs.ln 1 5 (eInt .u8) p0 ?_
 obtain ⟨_,e_1,h⟩:=bind_some h
 obtain ⟨_,e_2,h⟩:=bind_some h
 refine Runs.mkS (eInt .u8) (0:Int) 5 5 1 1 0 ((p0.length:Int)) rfl rfl kr kr kr kr kr kr (chk_some e_1) (of_decide_eq_true (chk_some e_2)) kr ?_
 refine Runs.ap 1 7 5 1 327680 (eInt .u8) h (fun h=>?_)
 refine Runs.alln ?_
 obtain rfl:=oi h
 exact Wp.ret RetB
theorem impl_copyPut_ok {u p0 r} (h:impl_copyPut u p0=some r):CallOK Tryz.prog 80 [V.g (Put.enc p0)] (V.w [0,0,5,0,0,0] (Put.enc r)) []:=by
 unfold impl_copyPut at h
 refine ofb Tryz.f80 true ?_
 refine Wp.sa ?_
 refine Wp.cl false 2 5 [.s p0.fB] h (fun _=>impl_cloned_ok) (fun r1 h=>?_)
 refine Wp.sa ?_
 obtain rfl:=oi h
 exact Wp.ret RetB
theorem impl_copyDisk_ok {u p0 r} (h:impl_copyDisk u p0=some r):CallOK Tryz.prog 35 [V.g (Disk.enc p0)] (V.w [5,5,0,0,0,85] (Disk.enc r)) []:=by
 unfold impl_copyDisk at h
 refine ofb Tryz.f35 true ?_
 refine Wp.sa ?_
 refine Wp.seq ?_
 refine Wp.regionA (pOf []) (rhoOf [(1,.obj 1),(3,.obj 3),(6,.obj 1),(7,.frz),(8,.own 8),(9,.obj 1),(10,.frz),(11,.own 11),(12,.obj 1),(13,.frz)]) kr kr ?_
 refine Runs.cl false 2 8 [.s p0.fA] h (fun _=>impl_cloned_ok) (fun r1 h=>?_)
 refine Runs.cl false 2 11 [.s p0.fB] h (fun _=>impl_cloned_ok) (fun r2 h=>?_)
 refine Runs.alln ?_
 refine Wp.j4 (fun r1 r2 p0 x11=>impl_copyDisk_j1 u r1 r2 p0 x11=some r) (fun r1 r2 p0 x11=>⟨[(2,.obj 2 0),(3,.obj 3 0)],[(2,[.nil,.nil,.i 0,.i 0,.i 0,.nil]),(3,[.own 197120,.own 197121,.i p0.fR.fGen,.i p0.fR.fSlot,.i p0.fR.fLen,.own 197125])],[(197120,.live 5 1 (r1.map (eInt .u8))),(197121,.live 5 1 (r2.map (eInt .u8))),(197125,.live 85 6 (x11.map Put.enc))]⟩) (fun r1 r2 p0 x11 h=>?_) ?_
 ·refine Wp.sa ?_
  obtain rfl:=oi h
  exact Wp.ret RetB
 refine Wp.sr ?_
 refine Runs.ln 2 85 Put.enc p0.fP ?_
 refine Runs.alln ?_
 refine Wp.block ?_
 refine Wp.l5 (fun k_impl_copyDisk_l2 p0 x5 r1 r2 x6=>impl_copyDisk_l2 u k_impl_copyDisk_l2 p0 x5 r1 r2 x6=some r) (fun p0 x5 r1 r2 x6=>⟨[(2,.obj 2 0),(3,.obj 3 0),(16,.t (.sl 6 (p0.fP.map Put.enc))),(17,.i ((p0.fP.length:Int))),(18,.i x5)],[(2,[.nil,.nil,.i 0,.i 0,.i 0,.nil]),(3,[.own 197120,.own 197121,.i p0.fR.fGen,.i p0.fR.fSlot,.i p0.fR.fLen,.own 197125])],[(197120,.live 5 1 (r1.map (eInt .u8))),(197121,.live 5 1 (r2.map (eInt .u8))),(197125,.live 85 6 (x6.map Put.enc))]⟩) (fun k_impl_copyDisk_l2 p0 x5 r1 r2 x6 h=>?_) h (Le.trans (Le.emptyO 3 5 197125 85 6 [.own 524288,.own 720896,.i p0.fR.fGen,.i p0.fR.fSlot,.i p0.fR.fLen,.nil] kr kr kr) (lo [(197120,524288),(197121,720896)])) (fun _ _ _ _ _  h=>nomatch h)
 rw [impl_copyDisk_l2] at h
 refine Wp.sa ?_
 refine Wp.seq ?_
 refine Wp.c2 h (fun h=>?_) (fun h=>?_)
 ·refine Wp.sk ?_
  refine Wp.seq ?_
  refine Wp.block ?_
  refine Wp.sr ?_
  refine Runs.ix 0 85 6 Put.enc h (fun y9 h _=>?_)
  refine Runs.alln ?_
  refine Wp.regionA (pOf []) (rhoOf [(3,.obj 3),(5,.obj 5),(22,.obj 3),(23,.own 3),(24,.frz),(25,.own 25),(26,.own 26),(27,.own 27),(28,.obj 3)]) kr kr ?_
  refine Runs.cl false 3 25 [.agg ((Put.enc y9).map .t)] h (fun _=>impl_copyPut_ok) (fun r10 h=>?_)
  refine Runs.ap (ys:=[r10]) 1 27 85 6 197125 Put.enc h (fun h=>?_)
  refine Runs.all kr ?_
  refine blkN ?_
  refine thenN ?_
  refine Wp.rg [] [] ?_
  refine Runs.alln ?_
  exact ⟨_,_,_,_,_,h,lo [(197125,1769472)]⟩
 refine Wp.exit ?_
 refine thenE ?_
 refine thenE ?_
 refine blkE ?_
 refine thenN ?_
 exact ⟨_,_,_,_,h,lo []⟩
theorem impl_Sure_1_ok {u p0 r} (h:impl_Sure_1 u p0=some r):CallOK Tryz.prog 78 [V.i p0] (V.b r) []:=by
 unfold impl_Sure_1 at h
 refine ofb Tryz.f78 false ?_
 refine Wp.sa ?_
 refine Wp.sa ?_
 obtain rfl:=oi h
 exact Wp.ret RetB
theorem impl_Disk__slot__own_p0_fA_p0_fB_p0_fP_ok {u p0 p1 r} (h:impl_Disk__slot u p0 p1=some r):IntoOK Tryz.prog 65 [.ptr (cw [5,5,0,0,0,85] (Disk.enc p0)),V.i p1] r.1 [cw [5,5,0,0,0,85] (Disk.enc r.2)]:=by
 unfold impl_Disk__slot at h
 refine IntoOK.of_bodyK (fn:=Tryz.f65) [.obj 900 0,.i p1] kr rfl kr kr kr kr kr rfl ?_
 refine Wp.sa ?_
 refine Wp.seq ?_
 refine Wp.sa ?_
 refine Wp.c2 h (fun h=>?_) (fun h=>?_)
 ·refine Wp.sa ?_
  refine Wp.ret ?_
  refine thenR ?_
  obtain rfl:=Option.some.inj h
  exact RetIK [[.ow 5 1 (p0.fA.map (eInt .u8)),.ow 5 1 (p0.fB.map (eInt .u8)),.i p0.fR.fGen,.i p0.fR.fSlot,.i p0.fR.fLen,.ow 85 6 (p0.fP.map Put.enc)]] kr kr (.cons ((.cons (.refl _) (.cons (.refl _) (.cons (.refl _) (.cons (.refl _) (.cons (.refl _) (.cons (.refl _) .nil))))))) .nil)
 refine Wp.sk ?_
 refine Wp.sa ?_
 refine Wp.ret ?_
 obtain rfl:=Option.some.inj h
 exact RetIK [[.ow 5 1 (p0.fA.map (eInt .u8)),.ow 5 1 (p0.fB.map (eInt .u8)),.i p0.fR.fGen,.i p0.fR.fSlot,.i p0.fR.fLen,.ow 85 6 (p0.fP.map Put.enc)]] kr kr (.cons ((.cons (.refl _) (.cons (.refl _) (.cons (.refl _) (.cons (.refl _) (.cons (.refl _) (.cons (.refl _) .nil))))))) .nil)
theorem impl_Disk__perform__own_p0_fP_ok {u p0 p1 r} (h:impl_Disk__perform u p0 p1=some r):CallOK Tryz.prog 122 [.ptr (cw [5,5,0,0,0,85] (Disk.enc p0)),V.g (Put.enc p1)] (.tup []) [cw [5,5,0,0,0,85] (Disk.enc r)]:=by
 unfold impl_Disk__perform at h
 refine ofb Tryz.f122 false ?_
 refine Wp.sa ?_
 refine Wp.seq ?_
 refine Wp.sa ?_
 refine Wp.c2 h (fun h=>?_) (fun h=>?_)
 ·refine Wp.sa ?_
  obtain rfl:=oi h
  exact Wp.ret RetB
 refine Wp.sk ?_
 refine Wp.sr ?_
 refine Runs.batch 3 kr ?_
 obtain ⟨r1,e_r1,h⟩:=bind_some h
 rcases tf (Nat.beq r1.1 0) with hc_r1 | hc_r1
 ·have h:=cond_t h hc_r1
  refine Runs.callIK true 16 65 [] [.obj 900 0,.i p1.fWhat] [.ptr [.ow 5 1 (p0.fA.map (eInt .u8)),.ow 5 1 (p0.fB.map (eInt .u8)),.i p0.fR.fGen,.i p0.fR.fSlot,.i p0.fR.fLen,.ow 85 6 (p0.fP.map Put.enc)],.one (.i p1.fWhat)] 900 0 ([cw [5,5,0,0,0,85] (Disk.enc r1.2)]) rfl rfl kr kr kr kr kr (IntoOK.to hc_r1 (impl_Disk__slot__own_p0_fA_p0_fB_p0_fP_ok e_r1)) kr kr ?_
  refine Runs.alln ?_
  refine Wp.j3 (fun p1 x9 r1=>impl_Disk__perform_j3 u p1 x9 r1=some r) (fun p1 x9 r1=>⟨[(3,.obj 3 0),(4,.obj 900 0)],[(3,((Put.enc p1).map .t)),(900,[.own 58982912,.own 58982913,.i r1.2.fR.fGen,.i r1.2.fR.fSlot,.i r1.2.fR.fLen,.own 58982917])],[(58982912,.live 5 1 (x9.map (eInt .u8))),(58982913,.live 5 1 (r1.2.fB.map (eInt .u8))),(58982917,.live 85 6 (r1.2.fP.map Put.enc))]⟩) (fun p1 x9 r1 h=>?_) ?_
  ·refine Wp.regionA (pOf []) (rhoOf [(3,.obj 3),(4,.obj 900),(35,.obj 900),(36,.obj 900),(37,.own 900),(38,.obj 3),(39,.frz),(40,.win 900),(41,.obj 3),(42,.frz)]) kr kr ?_
   refine Runs.batch 5 kr ?_
   obtain ⟨_,e_10,h⟩:=bind_some h
   refine Runs.subO (e:=5) (e':=5) (alo:=(some (.i p1.fAt))) (eInt .u8) x9 58982912 1 p1.fAt rfl kr kr kr kr kr kr kr kr kr (chk_some e_10) ?_
   refine Runs.batch 2 kr ?_
   refine Runs.copyO (y:=.s p1.fB) (e:=5) (e':=5) (eInt .u8) x9 p1.fB 58982912 (Int.toNat p1.fAt) 1 rfl rfl rfl kr kr kr kr kr (.inl rfl) kr kr kr (sub_le (chk_some e_10)) ?_
   refine Runs.all kr ?_
   obtain rfl:=oi h
   exact RetBn
  refine Wp.block ?_
  refine Wp.l3 (fun k_impl_Disk__perform_l4 p1 x7 r1=>impl_Disk__perform_l4 u k_impl_Disk__perform_l4 p1 x7 r1=some r) (fun p1 x7 r1=>⟨[(3,.obj 3 0),(4,.obj 900 0)],[(3,((Put.enc p1).map .t)),(900,[.own 58982912,.own 58982913,.i r1.2.fR.fGen,.i r1.2.fR.fSlot,.i r1.2.fR.fLen,.own 58982917])],[(58982912,.live 5 1 (x7.map (eInt .u8))),(58982913,.live 5 1 (r1.2.fB.map (eInt .u8))),(58982917,.live 85 6 (r1.2.fP.map Put.enc))]⟩) (fun k_impl_Disk__perform_l4 p1 x7 r1 h=>?_) h (lo [(58982912,1107200),(58982913,1107201),(58982917,1107205)]) (fun _ _ _  h=>nomatch h)
  rw [impl_Disk__perform_l4] at h
  refine Wp.seq ?_
  refine Wp.seq ?_
  refine Wp.regionA (pOf []) (rhoOf [(3,.obj 3),(4,.obj 900),(17,.obj 900),(18,.obj 900),(19,.own 900),(20,.frz),(21,.obj 3),(22,.frz),(23,.obj 3),(24,.frz),(25,.frz),(26,.frz)]) kr kr ?_
  refine Runs.ln 3 5 (eInt .u8) x7 ?_
  refine Runs.ln 4 5 (eInt .u8) p1.fB ?_
  refine Runs.alln ?_
  refine Wp.c2 h (fun h=>?_) (fun h=>?_)
  ·refine Wp.sk ?_
   refine Wp.block ?_
   refine Wp.rg [] [] ?_
   refine Runs.ap 5 33 5 1 58982912 (eInt .u8) h (fun h=>?_)
   refine Runs.all kr ?_
   refine blkN ?_
   refine thenN ?_
   exact ⟨_,_,_,h,lo [(58982912,2162688)]⟩
  refine Wp.exit ?_
  refine thenE ?_
  refine thenE ?_
  refine blkE ?_
  refine thenN ?_
  exact ⟨_,_,_,h,lo []⟩
 have h:=cond_f h hc_r1
 rcases tf (Nat.beq r1.1 1) with hc_r1 | hc_r1
 ·have h:=cond_t h hc_r1
  refine Runs.callIK true 16 65 [] [.obj 900 0,.i p1.fWhat] [.ptr [.ow 5 1 (p0.fA.map (eInt .u8)),.ow 5 1 (p0.fB.map (eInt .u8)),.i p0.fR.fGen,.i p0.fR.fSlot,.i p0.fR.fLen,.ow 85 6 (p0.fP.map Put.enc)],.one (.i p1.fWhat)] 900 1 ([cw [5,5,0,0,0,85] (Disk.enc r1.2)]) rfl rfl kr kr kr kr kr (IntoOK.to hc_r1 (impl_Disk__slot__own_p0_fA_p0_fB_p0_fP_ok e_r1)) kr kr ?_
  refine Runs.alln ?_
  refine Wp.j3 (fun p1 r1 x5=>impl_Disk__perform_j1 u p1 r1 x5=some r) (fun p1 r1 x5=>⟨[(3,.obj 3 0),(4,.obj 900 1)],[(3,((Put.enc p1).map .t)),(900,[.own 58982912,.own 58982913,.i r1.2.fR.fGen,.i r1.2.fR.fSlot,.i r1.2.fR.fLen,.own 58982917])],[(58982912,.live 5 1 (r1.2.fA.map (eInt .u8))),(58982913,.live 5 1 (x5.map (eInt .u8))),(58982917,.live 85 6 (r1.2.fP.map Put.enc))]⟩) (fun p1 r1 x5 h=>?_) ?_
  ·refine Wp.regionA (pOf []) (rhoOf [(3,.obj 3),(4,.obj 900),(35,.obj 900),(36,.obj 900),(37,.own 900),(38,.obj 3),(39,.frz),(40,.win 900),(41,.obj 3),(42,.frz)]) kr kr ?_
   refine Runs.batch 5 kr ?_
   obtain ⟨_,e_6,h⟩:=bind_some h
   refine Runs.subO (e:=5) (e':=5) (alo:=(some (.i p1.fAt))) (eInt .u8) x5 58982913 1 p1.fAt rfl kr kr kr kr kr kr kr kr kr (chk_some e_6) ?_
   refine Runs.batch 2 kr ?_
   refine Runs.copyO (y:=.s p1.fB) (e:=5) (e':=5) (eInt .u8) x5 p1.fB 58982913 (Int.toNat p1.fAt) 1 rfl rfl rfl kr kr kr kr kr (.inl rfl) kr kr kr (sub_le (chk_some e_6)) ?_
   refine Runs.all kr ?_
   obtain rfl:=oi h
   exact RetBn
  refine Wp.block ?_
  refine Wp.l3 (fun k_impl_Disk__perform_l2 p1 r1 x3=>impl_Disk__perform_l2 u k_impl_Disk__perform_l2 p1 r1 x3=some r) (fun p1 r1 x3=>⟨[(3,.obj 3 0),(4,.obj 900 1)],[(3,((Put.enc p1).map .t)),(900,[.own 58982912,.own 58982913,.i r1.2.fR.fGen,.i r1.2.fR.fSlot,.i r1.2.fR.fLen,.own 58982917])],[(58982912,.live 5 1 (r1.2.fA.map (eInt .u8))),(58982913,.live 5 1 (x3.map (eInt .u8))),(58982917,.live 85 6 (r1.2.fP.map Put.enc))]⟩) (fun k_impl_Disk__perform_l2 p1 r1 x3 h=>?_) h (lo [(58982912,1107200),(58982913,1107201),(58982917,1107205)]) (fun _ _ _  h=>nomatch h)
  rw [impl_Disk__perform_l2] at h
  refine Wp.seq ?_
  refine Wp.seq ?_
  refine Wp.regionA (pOf []) (rhoOf [(3,.obj 3),(4,.obj 900),(17,.obj 900),(18,.obj 900),(19,.own 900),(20,.frz),(21,.obj 3),(22,.frz),(23,.obj 3),(24,.frz),(25,.frz),(26,.frz)]) kr kr ?_
  refine Runs.ln 3 5 (eInt .u8) x3 ?_
  refine Runs.ln 4 5 (eInt .u8) p1.fB ?_
  refine Runs.alln ?_
  refine Wp.c2 h (fun h=>?_) (fun h=>?_)
  ·refine Wp.sk ?_
   refine Wp.block ?_
   refine Wp.rg [] [] ?_
   refine Runs.ap 5 33 5 1 58982913 (eInt .u8) h (fun h=>?_)
   refine Runs.all kr ?_
   refine blkN ?_
   refine thenN ?_
   exact ⟨_,_,_,h,lo [(58982913,2162688)]⟩
  refine Wp.exit ?_
  refine thenE ?_
  refine thenE ?_
  refine blkE ?_
  refine thenN ?_
  exact ⟨_,_,_,h,lo []⟩
 have h:=cond_f h hc_r1
 cases h
theorem impl_Disk__settled__impl_Sure_1_ok {u p0 r} (h:impl_Disk__settled__impl_Sure_1 u p0=some r):CallOK Tryz.prog 77 [V.g (Disk.enc p0),.clo 78 []] (V.w [5,5,0,0,0,85] (Disk.enc r)) []:=by
 unfold impl_Disk__settled__impl_Sure_1 at h
 refine ofb Tryz.f77 true ?_
 refine Wp.sa ?_
 refine Wp.cl false 1 9 [.agg ((Disk.enc p0).map .t)] h (fun _=>impl_copyDisk_ok) (fun r1 h=>?_)
 refine Wp.seq ?_
 refine Wp.cl false 1 11 [.agg ((Disk.enc p0).map .t)] h (fun _=>impl_DiskOk_ok) (fun r2 h=>?_)
 refine Wp.c2 h (fun h=>?_) (fun h=>?_)
 ·refine Wp.sa ?_
  obtain rfl:=oi h
  exact Wp.ret RetB
 refine Wp.sk ?_
 refine Wp.j6 (fun x33 x34 x35 x36 x37 x38=>impl_Disk__settled__impl_Sure_1_j1 u x33 x34 x35 x36 x37 x38=some r) (fun x33 x34 x35 x36 x37 x38=>⟨[(4,.obj 4 0),(5,.obj 5 0)],[(4,[.nil,.nil,.i 0,.i 0,.i 0,.nil]),(5,[.own 328192,.own 328193,.i x35,.i x36,.i x37,.own 328197])],[(328192,.live 5 1 (x33.map (eInt .u8))),(328193,.live 5 1 (x34.map (eInt .u8))),(328197,.live 85 6 (x38.map Put.enc))]⟩) (fun x33 x34 x35 x36 x37 x38 h=>?_) ?_
 ·refine Wp.sa ?_
  refine Wp.sa ?_
  obtain rfl:=oi h
  exact Wp.ret RetB
 refine Wp.sr ?_
 refine Runs.ln 2 85 Put.enc p0.fP ?_
 refine Runs.alln ?_
 refine Wp.block ?_
 refine Wp.l8 (fun k_impl_Disk__settled__impl_Sure_1_l2 p0 x10 x11 x12 x13 x14 x15 x16=>impl_Disk__settled__impl_Sure_1_l2 u k_impl_Disk__settled__impl_Sure_1_l2 p0 x10 x11 x12 x13 x14 x15 x16=some r) (fun p0 x10 x11 x12 x13 x14 x15 x16=>⟨[(1,.clo 78 []),(4,.obj 4 0),(5,.obj 5 0),(15,.t (.sl 6 (p0.fP.map Put.enc))),(16,.i ((p0.fP.length:Int))),(17,.i x10)],[(4,[.nil,.nil,.i 0,.i 0,.i 0,.nil]),(5,[.own 328192,.own 328193,.i x13,.i x14,.i x15,.own 328197])],[(328192,.live 5 1 (x11.map (eInt .u8))),(328193,.live 5 1 (x12.map (eInt .u8))),(328197,.live 85 6 (x16.map Put.enc))]⟩) (fun k_impl_Disk__settled__impl_Sure_1_l2 p0 x10 x11 x12 x13 x14 x15 x16 h=>?_) h (lo [(328192,589824),(328193,589825),(328197,589829)]) (fun _ _ _ _ _ _ _ _  h=>nomatch h)
 rw [impl_Disk__settled__impl_Sure_1_l2] at h
 refine Wp.sa ?_
 refine Wp.seq ?_
 refine Wp.c2 h (fun h=>?_) (fun h=>?_)
 ·refine Wp.sk ?_
  refine Wp.j8 (fun p0 x10 x27 x28 x29 x30 x31 x32=>impl_Disk__settled__impl_Sure_1_j3 u (fun z0 z1 z2 z3 z4 z5 z6 z7=>impl_Disk__settled__impl_Sure_1_l2 u k_impl_Disk__settled__impl_Sure_1_l2 z0 z1 z2 z3 z4 z5 z6 z7) p0 x10 x27 x28 x29 x30 x31 x32=some r) (fun p0 x10 x27 x28 x29 x30 x31 x32=>⟨[(1,.clo 78 []),(4,.obj 4 0),(5,.obj 5 0),(15,.t (.sl 6 (p0.fP.map Put.enc))),(16,.i ((p0.fP.length:Int))),(17,.i x10)],[(4,[.nil,.nil,.i 0,.i 0,.i 0,.nil]),(5,[.own 328192,.own 328193,.i x29,.i x30,.i x31,.own 328197])],[(328192,.live 5 1 (x27.map (eInt .u8))),(328193,.live 5 1 (x28.map (eInt .u8))),(328197,.live 85 6 (x32.map Put.enc))]⟩) (fun p0 x10 x27 x28 x29 x30 x31 x32 h=>?_) ?_
  ·refine Wp.rg [] [] ?_
   refine Runs.alln ?_
   exact ⟨_,_,_,_,_,_,_,_,h,lo []⟩
  refine Wp.block ?_
  refine Wp.sr ?_
  refine Runs.ix 1 85 6 Put.enc h (fun y24 h _=>?_)
  refine Runs.alln ?_
  refine Wp.cl false 2 24 [.i x10] h (fun _=>impl_Sure_1_ok) (fun r25 h=>?_)
  refine Wp.c2 h (fun h=>?_) (fun h=>?_)
  ·refine Wp.rg [] [] ?_
   refine Runs.cl true 1 26 [.obj 5 0,.agg ((Put.enc y24).map .t)] h (fun _=>impl_Disk__perform__own_p0_fP_ok) (fun r26 h=>?_)
   refine Runs.all kr ?_
   refine blkN ?_
   refine thenN ?_
   exact ⟨_,_,_,_,_,_,_,_,h,lo [(328192,1705280),(328193,1705281),(328197,1705285)]⟩
  refine Wp.skip ?_
  refine blkN ?_
  refine thenN ?_
  exact ⟨_,_,_,_,_,_,_,_,h,lo []⟩
 refine Wp.exit ?_
 refine thenE ?_
 refine thenE ?_
 refine blkE ?_
 refine thenN ?_
 exact ⟨_,_,_,_,_,_,h,lo []⟩
theorem impl_Slice_ok {u p0 p1 p2 r} (h:impl_Slice u p0 p1 p2=some r):CallOK Tryz.prog 91 [.one (.s p0),V.i p1,V.i p2] (.tup [.one (.ow 5 1 (r.1.map (eInt .u8))),V.b r.2]) []:=by
 unfold impl_Slice at h
 refine ofb Tryz.f91 true ?_
 refine Wp.sa ?_
 refine Wp.seq ?_
 refine Wp.j4 (fun p0 p1 p2 x3=>impl_Slice_j1 u p0 p1 p2 x3=some r) (fun p0 p1 p2 x3=>⟨[(0,.s p0),(1,.i p1),(2,.i p2),(6,.nil),(7,.b false),(21,.b x3)],[],[]⟩) (fun p0 p1 p2 x3 h=>?_) ?_
 ·refine Wp.c2 h (fun h=>?_) (fun h=>?_)
  ·refine Wp.sa ?_
   obtain rfl:=oi h
   exact Wp.ret RetB
  refine Wp.sk ?_
  refine Wp.sr ?_
  refine Runs.batch 5 kr ?_
  obtain ⟨_,e_4,h⟩:=bind_some h
  refine Runs.subsl (e:=5) (ax:=.s p0) (alo:=(some (.i p1))) (ahi:=(some (.i (bAdd .i64 p1 p2)))) (eInt .u8) p0 1 p1 (bAdd .i64 p1 p2) rfl kr kr kr kr kr kr kr kr kr kr kr (chk_some e_4) ?_
  refine Runs.cl false 0 28 [.t (.sl 1 (((p0.take (Int.toNat (bAdd .i64 p1 p2))).drop (Int.toNat p1)).map (eInt .u8)))] h (fun _=>impl_cloned_ok) (fun r5 h=>?_)
  refine Runs.alln ?_
  obtain rfl:=oi h
  exact Wp.ret RetB
 refine Wp.rg [] [] ?_
 refine Runs.ln 2 5 (eInt .u8) p0 ?_
 refine Runs.cl false 0 11 [.i p1,.i 0,.i ((p0.length:Int))] h (fun _=>impl_within_ok) (fun r1 h=>?_)
 refine Runs.c2 2 13 h (fun h=>?_) (fun h=>?_)
 ·refine Runs.alln ?_
  exact ⟨_,_,_,_,h,lo []⟩
 refine Runs.ln 2 5 (eInt .u8) p0 ?_
 refine Runs.cl false 2 19 [.i p2,.i 0,.i (bSub .i64 ((p0.length:Int)) p1)] h (fun _=>impl_within_ok) (fun r2 h=>?_)
 refine Runs.alln ?_
 exact ⟨_,_,_,_,h,lo []⟩
theorem impl_BlockAt_ok {u p0 p1 p2 r} (h:impl_BlockAt u p0 p1 p2=some r):CallOK Tryz.prog 48 [.one (.s p0),V.i p1,V.i p2] (.tup [.one (.ow 5 1 (r.1.map (eInt .u8))),V.b r.2]) []:=by
 unfold impl_BlockAt at h
 refine ofb Tryz.f48 true ?_
 refine Wp.sa ?_
 refine Wp.sr ?_
 refine Runs.ln 2 5 (eInt .u8) p0 ?_
 refine Runs.cl false 1 15 [.i p1,.i ((p0.length:Int)),.i p2] h (fun _=>impl_SpanOf_ok) (fun r1 h=>?_)
 refine Runs.alln ?_
 refine Wp.seq ?_
 refine Wp.sa ?_
 refine Wp.c2 h (fun h=>?_) (fun h=>?_)
 ·refine Wp.sa ?_
  obtain rfl:=oi h
  exact Wp.ret RetB
 refine Wp.sk ?_
 refine Wp.cl false 3 23 [.s p0,.i r1.1,.i r1.2] h (fun _=>impl_Slice_ok) (fun r2 h=>?_)
 obtain rfl:=oi h
 exact Wp.ret RetB
theorem impl_StageAll_ok {u p0 p1 p2 r} (h:impl_StageAll u p0 p1 p2=some r):CallOK Tryz.prog 9 [V.g (Disk.enc p0),.one (.s p1),V.i p2] (.tup [V.w [5,5,0,0,0,85] (Disk.enc r.1),V.b r.2]) []:=by
 unfold impl_StageAll at h
 refine ofb Tryz.f9 true ?_
 refine Wp.sa ?_
 refine Wp.seq ?_
 refine Wp.j4 (fun p1 p2 x3 p0=>impl_StageAll_j1 u p1 p2 x3 p0=some r) (fun p1 p2 x3 p0=>⟨[(1,.s p1),(2,.i p2),(3,.obj 3 0),(6,.obj 6 0),(7,.b false),(29,.b x3)],[(3,((Disk.enc p0).map .t)),(6,[.nil,.nil,.i 0,.i 0,.i 0,.nil])],[]⟩) (fun p1 p2 x3 p0 h=>?_) ?_
 ·refine Wp.c2 h (fun h=>?_) (fun h=>?_)
  ·refine Wp.cl false 1 31 [.agg ((Disk.enc p0).map .t)] h (fun _=>impl_copyDisk_ok) (fun r4 h=>?_)
   obtain rfl:=oi h
   exact Wp.ret RetB
  refine Wp.sk ?_
  refine Wp.cl false 1 33 [.agg ((Disk.enc p0).map .t)] h (fun _=>impl_copyDisk_ok) (fun r5 h=>?_)
  refine Wp.j6 (fun x32 x33 x34 x35 x36 x37=>impl_StageAll_j2 u x32 x33 x34 x35 x36 x37=some r) (fun x32 x33 x34 x35 x36 x37=>⟨[(6,.obj 6 0),(7,.b false),(8,.obj 8 0)],[(6,[.nil,.nil,.i 0,.i 0,.i 0,.nil]),(8,[.own 524800,.own 524801,.i x34,.i x35,.i x36,.own 524805])],[(524800,.live 5 1 (x32.map (eInt .u8))),(524801,.live 5 1 (x33.map (eInt .u8))),(524805,.live 85 6 (x37.map Put.enc))]⟩) (fun x32 x33 x34 x35 x36 x37 h=>?_) ?_
  ·refine Wp.sa ?_
   obtain rfl:=oi h
   exact Wp.ret RetB
  refine Wp.sr ?_
  refine Runs.ln 2 5 (eInt .u8) p1 ?_
  refine Runs.cl false 0 37 [.i p2,.i ((p1.length:Int))] h (fun _=>impl_Blocks_ok) (fun r6 h=>?_)
  refine Runs.alln ?_
  refine Wp.block ?_
  refine Wp.l11 (fun k_impl_StageAll_l3 p1 p2 r6 x14 x15 x16 x17 x18 x19 x20 p0=>impl_StageAll_l3 u k_impl_StageAll_l3 p1 p2 r6 x14 x15 x16 x17 x18 x19 x20 p0=some r) (fun p1 p2 r6 x14 x15 x16 x17 x18 x19 x20 p0=>⟨[(1,.s p1),(2,.i p2),(3,.obj 3 0),(6,.obj 6 0),(7,.b false),(8,.obj 8 0),(37,.i r6),(38,.i x14)],[(3,((Disk.enc p0).map .t)),(6,[.nil,.nil,.i 0,.i 0,.i 0,.nil]),(8,[.own 524800,.own 524801,.i x17,.i x18,.i x19,.own 524805])],[(524800,.live 5 1 (x15.map (eInt .u8))),(524801,.live 5 1 (x16.map (eInt .u8))),(524805,.live 85 6 (x20.map Put.enc))]⟩) (fun k_impl_StageAll_l3 p1 p2 r6 x14 x15 x16 x17 x18 x19 x20 p0 h=>?_) h (lo [(524800,2162688),(524801,2162689),(524805,2162693)]) (fun _ _ _ _ _ _ _ _ _ _ _  h=>nomatch h)
  rw [impl_StageAll_l3] at h
  refine Wp.sa ?_
  refine Wp.seq ?_
  refine Wp.c2 h (fun h=>?_) (fun h=>?_)
  ·refine Wp.sk ?_
   refine Wp.seq ?_
   refine Wp.block ?_
   refine Wp.sa ?_
   refine Wp.cl false 3 45 [.s p1,.i p2,.i x14] h (fun _=>impl_BlockAt_ok) (fun r28 h=>?_)
   refine Wp.seq ?_
   refine Wp.le (Le.trans (Le.frzO 8 0 524800 5 1 [.own 524800,.own 524801,.i x17,.i x18,.i x19,.own 524805] (x15.map (eInt .u8)) kr kr kr) (Le.trans (Le.frzO 8 1 524801 5 1 [.s x15,.own 524801,.i x17,.i x18,.i x19,.own 524805] (x16.map (eInt .u8)) kr kr kr) (Le.frzO 8 5 524805 85 6 [.s x15,.s x16,.i x17,.i x18,.i x19,.own 524805] (x20.map Put.enc) kr kr kr))) ?_
   refine Wp.regionA (pOf []) (rhoOf [(2,.frz),(3,.obj 3),(8,.obj 8),(9,.frz),(10,.own 45),(12,.obj 12),(49,.frz),(50,.frz),(51,.frz),(52,.frz),(53,.frz),(54,.frz),(55,.own 45),(57,.own 56),(58,.frz)]) kr kr ?_
   refine Runs.cl false 2 51 [.agg ((Disk.enc p0).map .t)] h (fun _=>impl_Spare_ok) (fun r29 h=>?_)
   refine Runs.batch 4 kr ?_
   obtain ⟨r30,e_r30,h⟩:=bind_some h
   refine Runs.callDK 56 49 [] [.agg [.s x15,.s x16,.i x17,.i x18,.i x19,.t (.sl 6 (x20.map Put.enc))],.i r29,.i (bMul .i64 x14 p2),.own 2949120] [.agg [.s x15,.s x16,.i x17,.i x18,.i x19,.t (.sl 6 (x20.map Put.enc))],.one (.i r29),.one (.i (bMul .i64 x14 p2)),.one (.s r28.1)] (.tup [V.w [5,5,0,0,0,85] (Disk.enc r30.1),V.b r30.2]) rfl rfl kr kr kr kr kr (impl_PutBytes_okd e_r30) kr ?_
   refine Runs.alln ?_
   refine Wp.seq ?_
   refine Wp.sa ?_
   refine Wp.c2 h (fun h=>?_) (fun h=>?_)
   ·refine Wp.cl false 1 62 [.agg ((Disk.enc p0).map .t)] h (fun _=>impl_copyDisk_ok) (fun r31 h=>?_)
    obtain rfl:=oi h
    exact Wp.ret RetB
   refine Wp.sk ?_
   refine Wp.rg [] [] ?_
   refine Runs.all kr ?_
   refine blkN ?_
   refine thenN ?_
   refine Wp.rg [] [] ?_
   refine Runs.alln ?_
   exact ⟨_,_,_,_,_,_,_,_,_,_,_,h,lo [(524800,3670016),(524801,3670017),(524805,3670021)]⟩
  refine Wp.exit ?_
  refine thenE ?_
  refine thenE ?_
  refine blkE ?_
  refine thenN ?_
  exact ⟨_,_,_,_,_,_,h,lo []⟩
 refine Wp.rg [] [] ?_
 refine Runs.cl false 1 15 [.agg ((Disk.enc p0).map .t)] h (fun _=>impl_DiskOk_ok) (fun r1 h=>?_)
 refine Runs.c2 2 17 h (fun h=>?_) (fun h=>?_)
 ·refine Runs.alln ?_
  exact ⟨_,_,_,_,h,lo []⟩
 refine Runs.ln 2 85 Put.enc p0.fP ?_
 refine Runs.c2 3 23 h (fun h=>?_) (fun h=>?_)
 ·refine Runs.alln ?_
  exact ⟨_,_,_,_,h,lo []⟩
 refine Runs.ln 2 5 (eInt .u8) p1 ?_
 refine Runs.cl false 0 27 [.i p2,.i ((p1.length:Int))] h (fun _=>impl_SizeOk_ok) (fun r2 h=>?_)
 refine Runs.alln ?_
 exact ⟨_,_,_,_,h,lo []⟩
theorem impl_Sure_ok {u p0 r} (h:impl_Sure u p0=some r):CallOK Tryz.prog 32 [V.g (Disk.enc p0)] (V.w [5,5,0,0,0,85] (Disk.enc r)) []:=by
 unfold impl_Sure at h
 refine ofb Tryz.f32 true ?_
 refine Wp.sa ?_
 refine Wp.cl false 1 4 [.agg ((Disk.enc p0).map .t),.clo 78 []] h (fun _=>impl_Disk__settled__impl_Sure_1_ok) (fun r1 h=>?_)
 obtain rfl:=oi h
 exact Wp.ret RetB
theorem impl_Disk__with_ok {u p0 p1 r} (h:impl_Disk__with u p0 p1=some r):CallOK Tryz.prog 79 [V.g (Disk.enc p0),V.g (Put.enc p1)] (.tup [V.w [5,5,0,0,0,85] (Disk.enc r.1),V.b r.2]) []:=by
 unfold impl_Disk__with at h
 refine ofb Tryz.f79 true ?_
 refine Wp.sa ?_
 refine Wp.cl false 1 8 [.agg ((Disk.enc p0).map .t)] h (fun _=>impl_copyDisk_ok) (fun r1 h=>?_)
 refine Wp.seq ?_
 refine Wp.regionA (pOf []) (rhoOf [(3,.obj 3),(6,.obj 6),(9,.obj 6),(10,.own 8),(11,.frz),(12,.own 12),(13,.own 13),(14,.own 14),(15,.obj 6)]) kr kr ?_
 refine Runs.cl false 3 12 [.agg ((Put.enc p1).map .t)] h (fun _=>impl_copyPut_ok) (fun r2 h=>?_)
 refine Runs.ap (ys:=[r2]) 1 14 85 6 524293 Put.enc h (fun h=>?_)
 refine Runs.alln ?_
 refine Wp.seq ?_
 refine Wp.sr ?_
 refine Runs.cb 1 17 [.agg [.own 524288,.own 524289,.i r1.fR.fGen,.i r1.fR.fSlot,.i r1.fR.fLen,.own 917504]] h (fun _=>impl_DiskOk_ok) (fun r4 h=>?_)
 refine Runs.alln ?_
 refine Wp.c2 h (fun h=>?_) (fun h=>?_)
 ·refine Wp.cl false 1 20 [.agg ((Disk.enc p0).map .t)] h (fun _=>impl_copyDisk_ok) (fun r5 h=>?_)
  obtain rfl:=oi h
  exact Wp.ret RetB
 refine Wp.sk ?_
 refine Wp.sa ?_
 obtain rfl:=oi h
 exact Wp.ret RetB
theorem impl_PutRecord_ok {u p0 p1 r} (h:impl_PutRecord u p0 p1=some r):CallOK Tryz.prog 33 [V.g (Disk.enc p0),V.g (Record.enc p1)] (.tup [V.w [5,5,0,0,0,85] (Disk.enc r.1),V.b r.2]) []:=by
 unfold impl_PutRecord at h
 refine ofb Tryz.f33 true ?_
 refine Wp.sa ?_
 refine Wp.cl false 3 9 [.agg ((Disk.enc p0).map .t),.agg [.i 2,.i 0,.nil,.i p1.fGen,.i p1.fSlot,.i p1.fLen]] h (fun _=>impl_Disk__with_ok) (fun r1 h=>?_)
 obtain rfl:=oi h
 exact Wp.ret RetB
theorem impl_NextCommit_ok {u p0 p1 p2 p3 r} (h:impl_NextCommit u p0 p1 p2 p3=some r):CallOK Tryz.prog 6 [V.g (Disk.enc p0),V.g (Manifest.enc p1),V.g (Build.enc p2),V.i p3] (.tup [V.w [5,5,0,0,0,85] (Disk.enc r.1),V.i r.2]) []:=by
 unfold impl_NextCommit at h
 refine ofb Tryz.f6 true ?_
 refine Wp.sa ?_
 refine Wp.j2 (fun p3 p0=>impl_NextCommit_j1 u p3 p0=some r) (fun p3 p0=>⟨[(3,.i p3),(4,.obj 4 0),(8,.obj 8 0),(9,.i 0)],[(4,((Disk.enc p0).map .t)),(8,[.nil,.nil,.i 0,.i 0,.i 0,.nil])],[]⟩) (fun p3 p0 h=>?_) ?_
 ·refine Wp.cl false 1 57 [.agg ((Disk.enc p0).map .t)] h (fun _=>impl_copyDisk_ok) (fun r7 h=>?_)
  obtain rfl:=oi h
  exact Wp.ret RetB
 refine Wp.sa ?_
 refine Wp.block ?_
 refine Wp.sa ?_
 refine Wp.c2 h (fun h=>?_) (fun h=>?_)
 ·refine Wp.seq ?_
  refine Wp.cl false 2 19 [.agg ((Manifest.enc p1).map .t),.agg [.i p2.fHave,.s p2.fBuf]] h (fun _=>impl_Whole_ok) (fun r1 h=>?_)
  refine Wp.c2 h (fun h=>?_) (fun h=>?_)
  ·refine Wp.exit ?_
   refine thenE ?_
   refine blkE ?_
   refine thenN ?_
   exact ⟨_,_,h,lo []⟩
  refine Wp.sk ?_
  refine Wp.cl false 5 27 [.agg ((Disk.enc p0).map .t),.s p2.fBuf,.i p1.fSize] h (fun _=>impl_StageAll_ok) (fun r2 h=>?_)
  refine Wp.sa ?_
  refine Wp.c2 h (fun h=>?_) (fun h=>?_)
  ·refine Wp.sa ?_
   obtain rfl:=oi h
   exact Wp.ret RetB
  refine Wp.skip ?_
  refine blkN ?_
  refine thenN ?_
  exact ⟨_,_,h,lo []⟩
 refine Wp.sa ?_
 refine Wp.c2 h (fun h=>?_) (fun h=>?_)
 ·refine Wp.cl false 1 35 [.agg ((Disk.enc p0).map .t)] h (fun _=>impl_Sure_ok) (fun r3 h=>?_)
  obtain rfl:=oi h
  exact Wp.ret RetB
 refine Wp.sa ?_
 refine Wp.c2 h (fun h=>?_) (fun h=>?_)
 ·refine Wp.seq ?_
  refine Wp.regionA (pOf []) (rhoOf [(4,.obj 4),(5,.obj 5),(12,.obj 12),(39,.frz),(40,.obj 5),(41,.frz),(42,.frz),(43,.frz),(44,.obj 5),(45,.frz),(46,.frz),(48,.own 47),(49,.frz)]) kr kr ?_
  refine Runs.cl false 4 43 [.agg ((Disk.enc p0).map .t)] h (fun _=>impl_Spare_ok) (fun r4 h=>?_)
  refine Runs.cl false 3 47 [.agg ((Disk.enc p0).map .t),.agg [.i p1.fGen,.i r4,.i p1.fLen]] h (fun _=>impl_PutRecord_ok) (fun r5 h=>?_)
  refine Runs.alln ?_
  refine Wp.sa ?_
  refine Wp.c2 h (fun h=>?_) (fun h=>?_)
  ·refine Wp.sa ?_
   obtain rfl:=oi h
   exact Wp.ret RetB
  refine Wp.skip ?_
  refine blkN ?_
  refine thenN ?_
  exact ⟨_,_,h,lo []⟩
 refine Wp.sa ?_
 refine Wp.c2 h (fun h=>?_) (fun h=>?_)
 ·refine Wp.cl false 1 55 [.agg ((Disk.enc p0).map .t)] h (fun _=>impl_Sure_ok) (fun r6 h=>?_)
  obtain rfl:=oi h
  exact Wp.ret RetB
 refine Wp.skip ?_
 refine blkN ?_
 refine thenN ?_
 exact ⟨_,_,h,lo []⟩
theorem spec_l4Size_ok {u p0 r} (h:spec_l4Size u p0=some r):CallOK Tryz.prog 45 [.ptr (cw [0,0,0] (l1Cur.enc p0))] (V.i r.1) [cw [0,0,0] (l1Cur.enc r.2)]:=by
 unfold spec_l4Size at h
 refine ofb Tryz.f45 false ?_
 refine Wp.sa ?_
 refine Wp.seq ?_
 refine Wp.cl false 1 4 [.obj 900 0,.i 8] h (fun _=>spec_l1Once_ok) (fun r1 h=>?_)
 refine Wp.c2 h (fun h=>?_) (fun h=>?_)
 ·refine Wp.sr ?_
  refine Runs.cx false 2 7 [.obj 900 0] [.own 393216] h (fun _=>spec_l1Int_okx) (fun r2 h=>?_)
  refine Runs.alln ?_
  obtain rfl:=oi h
  exact Wp.ret RetB
 refine Wp.sk ?_
 refine Wp.cl false 1 9 [.obj 900 0,.i 5] h (fun _=>spec_l1Below_ok) (fun r3 h=>?_)
 obtain rfl:=oi h
 exact Wp.ret RetB
theorem spec_DrawStageAll_ok {u p0 r} (h:spec_DrawStageAll u p0=some r):CallOK Tryz.prog 8 [.one (.s p0)] (.tup [V.g (Disk.enc r.1),.one (.ow 5 1 (r.2.1.map (eInt .u8))),V.i r.2.2]) []:=by
 unfold spec_DrawStageAll at h
 refine ofb Tryz.f8 true ?_
 refine Wp.sa ?_
 refine Wp.cl false 1 9 [.s p0] h (fun _=>spec_l1New_ok) (fun r1 h=>?_)
 refine Wp.sr ?_
 refine Runs.cl false 1 11 [.obj 9 0,.i 9] h (fun _=>spec_l3Bytes_ok) (fun r2 h=>?_)
 obtain ⟨r3,e_r3,h⟩:=bind_some h
 refine Runs.callDK 12 41 [] [.i 0,.own 720896] [.one (.i 0),.one (.s r2.1)] (V.w [5,5,0,0,0,85] (Disk.enc r3)) rfl rfl kr kr kr kr kr (spec_DiskNew_okd e_r3) kr ?_
 refine Runs.alln ?_
 refine Wp.j9 (fun x6 x7 x8 x9 x10 x11 x12 x13 x14=>spec_DrawStageAll_j1 u x6 x7 x8 x9 x10 x11 x12 x13 x14=some r) (fun x6 x7 x8 x9 x10 x11 x12 x13 x14=>⟨[(2,.obj 2 0),(3,.nil),(4,.i 0),(5,.obj 9 0),(6,.obj 6 0)],[(2,[.nil,.nil,.i 0,.i 0,.i 0,.nil]),(6,[.own 393728,.own 393729,.i x11,.i x12,.i x13,.own 393733]),(9,[.s x6,.i x7,.i x8])],[(393728,.live 5 1 (x9.map (eInt .u8))),(393729,.live 5 1 (x10.map (eInt .u8))),(393733,.live 85 6 (x14.map Put.enc))]⟩) (fun x6 x7 x8 x9 x10 x11 x12 x13 x14 h=>?_) ?_
 ·refine Wp.cl false 1 18 [.obj 9 0] h (fun _=>spec_l6Image_ok) (fun r15 h=>?_)
  refine Wp.seq ?_
  refine Wp.le (Le.trans (Le.frzO 6 0 393728 5 1 [.own 393728,.own 393729,.i x11,.i x12,.i x13,.own 393733] (x9.map (eInt .u8)) kr kr kr) (Le.trans (Le.frzO 6 1 393729 5 1 [.s x9,.own 393729,.i x11,.i x12,.i x13,.own 393733] (x10.map (eInt .u8)) kr kr kr) (Le.frzO 6 5 393733 85 6 [.s x9,.s x10,.i x11,.i x12,.i x13,.own 393733] (x14.map Put.enc) kr kr kr))) ?_
  refine Wp.regionA (pOf [9]) (rhoOf [(2,.obj 2),(5,.obj 9),(6,.obj 6),(7,.own 18),(19,.frz),(20,.own 18),(21,.obj 9),(22,.frz)]) kr kr ?_
  refine Runs.cl false 3 22 [.obj 9 0] h (fun _=>spec_l4Size_ok) (fun r16 h=>?_)
  refine Runs.alln ?_
  obtain rfl:=oi h
  exact Wp.ret RetB
 refine Wp.cl false 1 14 [.obj 9 0,.i 3] h (fun _=>spec_l1Once_ok) (fun r4 h=>?_)
 refine Wp.c2 h (fun h=>?_) (fun h=>?_)
 ·refine Wp.rg [] [] ?_
  refine Runs.cl false 1 16 [.obj 9 0] h (fun _=>spec_l9Any_ok) (fun r5 h=>?_)
  refine Runs.alln ?_
  exact ⟨_,_,_,_,_,_,_,_,_,h,lo [(393728,1048576),(393729,1048577),(393733,1048581)]⟩
 refine Wp.sk ?_
 exact ⟨_,_,_,_,_,_,_,_,_,h,lo [(393728,786432),(393729,786433),(393733,786437)]⟩
theorem spec_DrawCommitAll_ok {u p0 r} (h:spec_DrawCommitAll u p0=some r):CallOK Tryz.prog 11 [.one (.s p0)] (.tup [V.w [5,5,0,0,0,85] (Disk.enc r.1),V.g (Manifest.enc r.2.1),V.g (Build.enc r.2.2)]) []:=by
 unfold spec_DrawCommitAll at h
 refine ofb Tryz.f11 true ?_
 refine Wp.sa ?_
 refine Wp.cl false 1 10 [.s p0] h (fun _=>spec_l1New_ok) (fun r1 h=>?_)
 refine Wp.cl false 1 13 [.obj 10 0] h (fun _=>spec_l6Draw_ok) (fun r2 h=>?_)
 refine Wp.cl false 2 18 [.agg [.i r2.1.fGen,.i r2.1.fSize,.i r2.1.fLen,.own 851971],.own 852992] h (fun _=>spec_BuildFrom_ok) (fun r3 h=>?_)
 refine Wp.j9 (fun x6 x7 x8 x9 x10 x11 x12 x13 x14=>spec_DrawCommitAll_j1 u x6 x7 x8 x9 x10 x11 x12 x13 x14=some r) (fun x6 x7 x8 x9 x10 x11 x12 x13 x14=>⟨[(2,.obj 2 0),(3,.obj 3 0),(4,.obj 4 0),(5,.obj 10 0),(6,.obj 6 0),(8,.obj 8 0)],[(2,[.nil,.nil,.i 0,.i 0,.i 0,.nil]),(3,[.i 0,.i 0,.i 0,.nil]),(4,[.i 0,.nil]),(6,[.i x11,.i x12,.i x13,.t (.sl 2 (x14.map Sum.enc))]),(8,[.i x6,.own 524801]),(10,[.s x8,.i x9,.i x10])],[(524801,.live 5 1 (x7.map (eInt .u8)))]⟩) (fun x6 x7 x8 x9 x10 x11 x12 x13 x14 h=>?_) ?_
 ·refine Wp.seq ?_
  refine Wp.le (Le.frzO 8 1 524801 5 1 [.i x6,.own 524801] (x7.map (eInt .u8)) kr kr kr) ?_
  refine Wp.regionA (pOf [10]) (rhoOf [(2,.obj 2),(3,.obj 3),(4,.obj 4),(5,.obj 10),(6,.obj 6),(8,.obj 8),(27,.obj 10),(28,.own 28),(29,.own 29),(30,.frz),(31,.frz)]) kr kr ?_
  refine Runs.cl false 1 28 [.obj 10 0,.i 9] h (fun _=>spec_l3Bytes_ok) (fun r15 h=>?_)
  obtain ⟨r16,e_r16,h⟩:=bind_some h
  refine Runs.callDK 29 41 [] [.i 0,.own 1835008] [.one (.i 0),.one (.s r15.1)] (V.w [5,5,0,0,0,85] (Disk.enc r16)) rfl rfl kr kr kr kr kr (spec_DiskNew_okd e_r16) kr ?_
  refine Runs.alln ?_
  obtain rfl:=oi h
  exact Wp.ret RetB
 refine Wp.cl false 1 20 [.obj 10 0,.i 5] h (fun _=>spec_l1Once_ok) (fun r4 h=>?_)
 refine Wp.c2 h (fun h=>?_) (fun h=>?_)
 ·refine Wp.rg [] [] ?_
  refine Runs.cl false 1 23 [.obj 10 0] h (fun _=>spec_l8Any_ok) (fun r5 h=>?_)
  refine Runs.alln ?_
  exact ⟨_,_,_,_,_,_,_,_,_,h,lo [(524801,1508353)]⟩
 refine Wp.sk ?_
 exact ⟨_,_,_,_,_,_,_,_,_,h,Le.trans (Le.seeO 6 3 851971 2 [.i r2.1.fGen,.i r2.1.fSize,.i r2.1.fLen,.own 851971] (r2.1.fSums.map Sum.enc) kr kr kr) (lo [(524801,1179649)])⟩
theorem spec_DrawCommitted_ok {u p0 r} (h:spec_DrawCommitted u p0=some r):CallOK Tryz.prog 12 [.one (.s p0)] (.tup [V.w [5,5,0,0,0,85] (Disk.enc r.1),V.g (Manifest.enc r.2.1),.one (.s r.2.2)]) []:=by
 unfold spec_DrawCommitted at h
 refine ofb Tryz.f12 true ?_
 refine Wp.sa ?_
 refine Wp.cl false 1 13 [.s p0] h (fun _=>spec_l1New_ok) (fun r1 h=>?_)
 refine Wp.cl false 1 16 [.obj 13 0] h (fun _=>spec_l11Draw_ok) (fun r2 h=>?_)
 refine Wp.seq ?_
 refine Wp.cl false 1 24 [.obj 13 0,.i 3] h (fun _=>spec_l1Once_ok) (fun r3 h=>?_)
 refine Wp.c2 h (fun h=>?_) (fun h=>?_)
 ·refine Wp.seq ?_
  refine Wp.regionA (pOf []) (rhoOf [(2,.obj 2),(3,.obj 3),(6,.obj 6),(7,.obj 7),(10,.frz),(25,.own 16),(26,.frz),(27,.frz)]) kr kr ?_
  refine Runs.alln ?_
  obtain rfl:=oi h
  exact Wp.ret RetB
 refine Wp.sk ?_
 refine Wp.seq ?_
 refine Wp.regionA (pOf []) (rhoOf [(2,.obj 2),(3,.obj 3),(6,.obj 6),(7,.obj 7),(11,.frz),(28,.own 16),(29,.frz),(30,.frz)]) kr kr ?_
 refine Runs.alln ?_
 obtain rfl:=oi h
 exact Wp.ret RetB
theorem spec_DrawPhName_ok {u p0 r} (h:spec_DrawPhName u p0=some r):CallOK Tryz.prog 13 [.one (.s p0)] (V.i r) []:=by
 unfold spec_DrawPhName at h
 refine ofb Tryz.f13 false ?_
 refine Wp.sa ?_
 refine Wp.cl false 1 5 [.s p0] h (fun _=>spec_l1New_ok) (fun r1 h=>?_)
 refine Wp.cl false 1 7 [.obj 5 0,.i 9] h (fun _=>spec_l1Below_ok) (fun r2 h=>?_)
 obtain rfl:=oi h
 exact Wp.ret RetB
theorem laws_same_ok {u p0 p1 r} (h:laws_same u p0 p1=some r):CallOK Tryz.prog 58 [.one (.s p0),.one (.s p1)] (V.b r) []:=by
 unfold laws_same at h
 refine ofb Tryz.f58 false ?_
 refine Wp.sa ?_
 refine Wp.seq ?_
 refine Wp.sr ?_
 refine Runs.ln 1 5 (eInt .u8) p0 ?_
 refine Runs.ln 1 5 (eInt .u8) p1 ?_
 refine Runs.alln ?_
 refine Wp.c2 h (fun h=>?_) (fun h=>?_)
 ·refine Wp.sa ?_
  obtain rfl:=oi h
  exact Wp.ret RetB
 refine Wp.sk ?_
 refine Wp.j0 (laws_same_j1 u=some r) ⟨[(4,.b false)],[],[]⟩ (fun h=>?_) ?_
 ·refine Wp.sa ?_
  obtain rfl:=oi h
  exact Wp.ret RetB
 refine Wp.sa ?_
 refine Wp.block ?_
 refine Wp.l3 (fun k_laws_same_l2 p0 p1 x2=>laws_same_l2 u k_laws_same_l2 p0 p1 x2=some r) (fun p0 p1 x2=>⟨[(0,.s p0),(1,.s p1),(4,.b false),(5,.i x2)],[],[]⟩) (fun k_laws_same_l2 p0 p1 x2 h=>?_) h (lo []) (fun _ _ _  h=>nomatch h)
 rw [laws_same_l2] at h
 refine Wp.seq ?_
 refine Wp.sr ?_
 refine Runs.ln 2 5 (eInt .u8) p0 ?_
 refine Runs.alln ?_
 refine Wp.c2 h (fun h=>?_) (fun h=>?_)
 ·refine Wp.sk ?_
  refine Wp.seq ?_
  refine Wp.block ?_
  refine Wp.seq ?_
  refine Wp.regionA (pOf []) (rhoOf [(0,.frz),(1,.frz),(5,.frz),(17,.frz),(18,.frz),(19,.frz),(20,.frz),(21,.frz),(22,.frz),(23,.frz),(24,.frz)]) kr kr ?_
  refine Runs.ix 2 5 1 (eInt .u8) h (fun y4 h _=>?_)
  refine Runs.ix 3 5 1 (eInt .u8) h (fun y5 h _=>?_)
  refine Runs.alln ?_
  refine Wp.c2 h (fun h=>?_) (fun h=>?_)
  ·refine Wp.sa ?_
   obtain rfl:=oi h
   exact Wp.ret RetB
  refine Wp.skip ?_
  refine blkN ?_
  refine thenN ?_
  refine Wp.rg [] [] ?_
  refine Runs.alln ?_
  exact ⟨_,_,_,h,lo []⟩
 refine Wp.exit ?_
 refine thenE ?_
 refine thenE ?_
 refine blkE ?_
 refine thenN ?_
 exact ⟨h,lo []⟩
theorem laws_sameDisk_ok {u p0 p1 r} (h:laws_sameDisk u p0 p1=some r):CallOK Tryz.prog 14 [V.g (Disk.enc p0),V.g (Disk.enc p1)] (V.b r) []:=by
 unfold laws_sameDisk at h
 refine ofb Tryz.f14 false ?_
 refine Wp.sa ?_
 refine Wp.seq ?_
 refine Wp.j3 (fun x3 p0 p1=>laws_sameDisk_j1 u x3 p0 p1=some r) (fun x3 p0 p1=>⟨[(2,.obj 2 0),(3,.obj 3 0),(4,.b false),(37,.b x3)],[(2,((Disk.enc p0).map .t)),(3,((Disk.enc p1).map .t))],[]⟩) (fun x3 p0 p1 h=>?_) ?_
 ·refine Wp.c2 h (fun h=>?_) (fun h=>?_)
  ·refine Wp.sa ?_
   obtain rfl:=oi h
   exact Wp.ret RetB
  refine Wp.sk ?_
  refine Wp.j0 (laws_sameDisk_j2 u=some r) ⟨[(4,.b false)],[],[]⟩ (fun h=>?_) ?_
  ·refine Wp.sa ?_
   obtain rfl:=oi h
   exact Wp.ret RetB
  refine Wp.sa ?_
  refine Wp.block ?_
  refine Wp.l3 (fun k_laws_sameDisk_l3 x5 p0 p1=>laws_sameDisk_l3 u k_laws_sameDisk_l3 x5 p0 p1=some r) (fun x5 p0 p1=>⟨[(2,.obj 2 0),(3,.obj 3 0),(4,.b false),(5,.i x5)],[(2,((Disk.enc p0).map .t)),(3,((Disk.enc p1).map .t))],[]⟩) (fun k_laws_sameDisk_l3 x5 p0 p1 h=>?_) h (lo []) (fun _ _ _  h=>nomatch h)
  rw [laws_sameDisk_l3] at h
  refine Wp.seq ?_
  refine Wp.sr ?_
  refine Runs.ln 3 85 Put.enc p0.fP ?_
  refine Runs.alln ?_
  refine Wp.c2 h (fun h=>?_) (fun h=>?_)
  ·refine Wp.sk ?_
   refine Wp.seq ?_
   refine Wp.block ?_
   refine Wp.sr ?_
   refine Runs.ix 3 85 6 Put.enc h (fun y7 h _=>?_)
   refine Runs.alln ?_
   refine Wp.sr ?_
   refine Runs.ix 3 85 6 Put.enc h (fun y8 h _=>?_)
   refine Runs.alln ?_
   refine Wp.j4 (fun x5 x10 p0 p1=>laws_sameDisk_j4 u (fun z0 z1 z2=>laws_sameDisk_l3 u k_laws_sameDisk_l3 z0 z1 z2) x5 x10 p0 p1=some r) (fun x5 x10 p0 p1=>⟨[(2,.obj 2 0),(3,.obj 3 0),(4,.b false),(5,.i x5),(81,.b x10)],[(2,((Disk.enc p0).map .t)),(3,((Disk.enc p1).map .t))],[]⟩) (fun x5 x10 p0 p1 h=>?_) ?_
   ·refine Wp.c2 h (fun h=>?_) (fun h=>?_)
    ·refine Wp.sa ?_
     obtain rfl:=oi h
     exact Wp.ret RetB
    refine Wp.skip ?_
    refine blkN ?_
    refine thenN ?_
    refine Wp.rg [] [] ?_
    refine Runs.alln ?_
    exact ⟨_,_,_,h,lo []⟩
   refine Wp.rg [] [] ?_
   refine Runs.c2 6 60 h (fun h=>?_) (fun h=>?_)
   ·refine Runs.alln ?_
    exact ⟨_,_,_,_,h,lo []⟩
   refine Runs.c2 7 67 h (fun h=>?_) (fun h=>?_)
   ·refine Runs.alln ?_
    exact ⟨_,_,_,_,h,lo []⟩
   refine Runs.c2 7 74 h (fun h=>?_) (fun h=>?_)
   ·refine Runs.alln ?_
    exact ⟨_,_,_,_,h,lo []⟩
   refine Runs.cl false 4 79 [.s y7.fB,.s y8.fB] h (fun _=>laws_same_ok) (fun r9 h=>?_)
   refine Runs.alln ?_
   exact ⟨_,_,_,_,h,lo []⟩
  refine Wp.exit ?_
  refine thenE ?_
  refine thenE ?_
  refine blkE ?_
  refine thenN ?_
  exact ⟨h,lo []⟩
 refine Wp.rg [] [] ?_
 refine Runs.cl false 4 12 [.s p0.fA,.s p1.fA] h (fun _=>laws_same_ok) (fun r1 h=>?_)
 refine Runs.c2 2 14 h (fun h=>?_) (fun h=>?_)
 ·refine Runs.alln ?_
  exact ⟨_,_,_,h,lo []⟩
 refine Runs.cl false 4 19 [.s p0.fB,.s p1.fB] h (fun _=>laws_same_ok) (fun r2 h=>?_)
 refine Runs.c2 3 22 h (fun h=>?_) (fun h=>?_)
 ·refine Runs.alln ?_
  exact ⟨_,_,_,h,lo []⟩
 refine Runs.c2 7 29 h (fun h=>?_) (fun h=>?_)
 ·refine Runs.alln ?_
  exact ⟨_,_,_,h,lo []⟩
 refine Runs.ln 2 85 Put.enc p0.fP ?_
 refine Runs.ln 2 85 Put.enc p1.fP ?_
 refine Runs.alln ?_
 exact ⟨_,_,_,h,lo []⟩
theorem impl_CommitAll_ok {u p0 p1 p2 r} (h:impl_CommitAll u p0 p1 p2=some r):CallOK Tryz.prog 15 [V.g (Disk.enc p0),V.g (Manifest.enc p1),V.g (Build.enc p2)] (V.w [5,5,0,0,0,85] (Disk.enc r)) []:=by
 unfold impl_CommitAll at h
 refine ofb Tryz.f15 true ?_
 refine Wp.sa ?_
 refine Wp.cl false 1 10 [.agg ((Disk.enc p0).map .t)] h (fun _=>impl_copyDisk_ok) (fun r1 h=>?_)
 refine Wp.j6 (fun x27 x28 x29 x30 x31 x32=>impl_CommitAll_j1 u x27 x28 x29 x30 x31 x32=some r) (fun x27 x28 x29 x30 x31 x32=>⟨[(6,.obj 6 0),(7,.obj 7 0)],[(6,[.nil,.nil,.i 0,.i 0,.i 0,.nil]),(7,[.own 459264,.own 459265,.i x29,.i x30,.i x31,.own 459269])],[(459264,.live 5 1 (x27.map (eInt .u8))),(459265,.live 5 1 (x28.map (eInt .u8))),(459269,.live 85 6 (x32.map Put.enc))]⟩) (fun x27 x28 x29 x30 x31 x32 h=>?_) ?_
 ·refine Wp.sa ?_
  obtain rfl:=oi h
  exact Wp.ret RetB
 refine Wp.sa ?_
 refine Wp.block ?_
 refine Wp.l10 (fun k_impl_CommitAll_l2 x10 x11 p1 p2 x12 x13 x14 x15 x16 x17=>impl_CommitAll_l2 u k_impl_CommitAll_l2 x10 x11 p1 p2 x12 x13 x14 x15 x16 x17=some r) (fun x10 x11 p1 p2 x12 x13 x14 x15 x16 x17=>⟨[(4,.obj 4 0),(5,.obj 5 0),(6,.obj 6 0),(7,.obj 7 0),(8,.i x10),(11,.i x11)],[(4,((Manifest.enc p1).map .t)),(5,[.i p2.fHave,.s p2.fBuf]),(6,[.nil,.nil,.i 0,.i 0,.i 0,.nil]),(7,[.own 459264,.own 459265,.i x14,.i x15,.i x16,.own 459269])],[(459264,.live 5 1 (x12.map (eInt .u8))),(459265,.live 5 1 (x13.map (eInt .u8))),(459269,.live 85 6 (x17.map Put.enc))]⟩) (fun k_impl_CommitAll_l2 x10 x11 p1 p2 x12 x13 x14 x15 x16 x17 h=>?_) h (lo [(459264,655360),(459265,655361),(459269,655365)]) (fun _ _ _ _ _ _ _ _ _ _  h=>nomatch h)
 rw [impl_CommitAll_l2] at h
 refine Wp.sa ?_
 refine Wp.seq ?_
 refine Wp.c2 h (fun h=>?_) (fun h=>?_)
 ·refine Wp.sk ?_
  refine Wp.seq ?_
  refine Wp.block ?_
  refine Wp.rg [] [] ?_
  refine Runs.cl false 4 18 [.agg [.own 459264,.own 459265,.i x14,.i x15,.i x16,.own 459269],.agg ((Manifest.enc p1).map .t),.agg [.i p2.fHave,.s p2.fBuf],.i x10] h (fun _=>impl_NextCommit_ok) (fun r26 h=>?_)
  refine Runs.all kr ?_
  refine blkN ?_
  refine thenN ?_
  refine Wp.rg [] [] ?_
  refine Runs.alln ?_
  exact ⟨_,_,_,_,_,_,_,_,_,_,h,lo [(459264,1179648),(459265,1179649),(459269,1179653)]⟩
 refine Wp.exit ?_
 refine thenE ?_
 refine thenE ?_
 refine blkE ?_
 refine thenN ?_
 exact ⟨_,_,_,_,_,_,h,lo []⟩
theorem spec_CommitAll_ok {u p0 p1 p2 r} (h:spec_CommitAll u p0 p1 p2=some r):CallOK Tryz.prog 16 [V.g (Disk.enc p0),V.g (Manifest.enc p1),V.g (Build.enc p2)] (V.w [5,5,0,0,0,85] (Disk.enc r)) []:=by
 unfold spec_CommitAll at h
 refine ofb Tryz.f16 true ?_
 refine Wp.sa ?_
 refine Wp.sa ?_
 refine Wp.cl false 1 13 [.agg ((Disk.enc p0).map .t)] h (fun _=>spec_l9Copy_ok) (fun r1 h=>?_)
 refine Wp.j6 (fun x27 x28 x29 x30 x31 x32=>spec_CommitAll_j1 u x27 x28 x29 x30 x31 x32=some r) (fun x27 x28 x29 x30 x31 x32=>⟨[(6,.obj 6 0),(8,.obj 8 0)],[(6,[.nil,.nil,.i 0,.i 0,.i 0,.nil]),(8,[.own 524800,.own 524801,.i x29,.i x30,.i x31,.own 524805])],[(524800,.live 5 1 (x27.map (eInt .u8))),(524801,.live 5 1 (x28.map (eInt .u8))),(524805,.live 85 6 (x32.map Put.enc))]⟩) (fun x27 x28 x29 x30 x31 x32 h=>?_) ?_
 ·refine Wp.sa ?_
  obtain rfl:=oi h
  exact Wp.ret RetB
 refine Wp.sa ?_
 refine Wp.block ?_
 refine Wp.l10 (fun k_spec_CommitAll_l2 x10 x11 x12 x13 x14 x15 x16 x17 p1 p2=>spec_CommitAll_l2 u k_spec_CommitAll_l2 x10 x11 x12 x13 x14 x15 x16 x17 p1 p2=some r) (fun x10 x11 x12 x13 x14 x15 x16 x17 p1 p2=>⟨[(4,.obj 4 0),(5,.obj 5 0),(6,.obj 6 0),(7,.i x10),(8,.obj 8 0),(9,.i x11)],[(4,((Manifest.enc p1).map .t)),(5,[.i p2.fHave,.s p2.fBuf]),(6,[.nil,.nil,.i 0,.i 0,.i 0,.nil]),(8,[.own 524800,.own 524801,.i x14,.i x15,.i x16,.own 524805])],[(524800,.live 5 1 (x12.map (eInt .u8))),(524801,.live 5 1 (x13.map (eInt .u8))),(524805,.live 85 6 (x17.map Put.enc))]⟩) (fun k_spec_CommitAll_l2 x10 x11 x12 x13 x14 x15 x16 x17 p1 p2 h=>?_) h (lo [(524800,851968),(524801,851969),(524805,851973)]) (fun _ _ _ _ _ _ _ _ _ _  h=>nomatch h)
 rw [spec_CommitAll_l2] at h
 refine Wp.seq ?_
 refine Wp.sa ?_
 refine Wp.c2 h (fun h=>?_) (fun h=>?_)
 ·refine Wp.sk ?_
  refine Wp.seq ?_
  refine Wp.block ?_
  refine Wp.cl false 4 23 [.agg [.own 524800,.own 524801,.i x14,.i x15,.i x16,.own 524805],.agg ((Manifest.enc p1).map .t),.agg [.i p2.fHave,.s p2.fBuf],.i x10] h (fun _=>spec_NextCommit_ok) (fun r26 h=>?_)
  refine Wp.sa ?_
  refine Wp.rg [] [] ?_
  refine Runs.all kr ?_
  refine blkN ?_
  refine thenN ?_
  refine Wp.rg [] [] ?_
  refine Runs.alln ?_
  exact ⟨_,_,_,_,_,_,_,_,_,_,h,lo [(524800,1507328),(524801,1507329),(524805,1507333)]⟩
 refine Wp.exit ?_
 refine thenE ?_
 refine thenE ?_
 refine blkE ?_
 refine thenN ?_
 exact ⟨_,_,_,_,_,_,h,lo []⟩
theorem impl_Recover_ok {u p0 r} (h:impl_Recover u p0=some r):CallOK Tryz.prog 23 [V.g (Disk.enc p0)] (.tup [V.i r.1,.one (.ow 5 1 (r.2.map (eInt .u8)))]) []:=by
 unfold impl_Recover at h
 refine ofb Tryz.f23 true ?_
 refine Wp.sa ?_
 refine Wp.seq ?_
 refine Wp.cl false 1 5 [.agg ((Disk.enc p0).map .t)] h (fun _=>impl_DiskOk_ok) (fun r1 h=>?_)
 refine Wp.c2 h (fun h=>?_) (fun h=>?_)
 ·refine Wp.sa ?_
  obtain rfl:=oi h
  exact Wp.ret RetB
 refine Wp.sk ?_
 refine Wp.seq ?_
 refine Wp.le (Le.frzOb 1 (Disk.enc p0) kr kr) ?_
 refine Wp.regionA (pOf []) (rhoOf [(1,.frz),(7,.frz),(8,.frz),(9,.frz),(10,.frz),(11,.frz),(12,.frz),(13,.frz),(14,.frz),(15,.frz),(16,.frz),(17,.frz),(18,.frz),(19,.frz),(20,.own 20)]) kr kr ?_
 refine Runs.cl false 6 13 [.fadr (Disk.enc p0),.i p0.fR.fSlot] h (fun _=>impl_Disk__slot__frz0_ok) (fun r2 h=>?_)
 refine Runs.batch 5 kr ?_
 obtain ⟨_,e_3,h⟩:=bind_some h
 refine Runs.subsl (e:=5) (ax:=.s r2) (alo:=none) (ahi:=(some (.i p0.fR.fLen))) (eInt .u8) r2 1 0 p0.fR.fLen rfl kr kr kr kr kr kr kr kr kr kr kr (chk_some e_3) ?_
 refine Runs.cl false 0 20 [.t (.sl 1 (((r2.take (Int.toNat p0.fR.fLen)).drop (Int.toNat 0)).map (eInt .u8)))] h (fun _=>impl_cloned_ok) (fun r4 h=>?_)
 refine Runs.alln ?_
 obtain rfl:=oi h
 exact Wp.ret RetB
theorem bytes_Equal_ok {u p0 p1 r} (h:bytes_Equal u p0 p1=some r):CallOK Tryz.prog 109 [.one (.s p0),.one (.s p1)] (V.b r) []:=by
 unfold bytes_Equal at h
 refine ofb Tryz.f109 false ?_
 refine Wp.sa ?_
 refine Wp.sr ?_
 refine Runs.batch 1 kr ?_
 refine Runs.bytesStr (y:=.s p0) (e:=5) p0 1 rfl kr kr kr kr kr kr kr ?_
 refine Runs.batch 1 kr ?_
 refine Runs.bytesStr (y:=.s p1) (e:=5) p1 1 rfl kr kr kr kr kr kr kr ?_
 refine Runs.alln ?_
 obtain rfl:=oi h
 exact Wp.ret RetB
theorem impl_SameBytes_ok {u p0 p1 r} (h:impl_SameBytes u p0 p1=some r):CallOK Tryz.prog 66 [.one (.s p0),.one (.s p1)] (V.b r) []:=by
 unfold impl_SameBytes at h
 refine ofb Tryz.f66 false ?_
 refine Wp.sa ?_
 refine Wp.cl false 2 7 [.s p0,.s p1] h (fun _=>bytes_Equal_ok) (fun r1 h=>?_)
 obtain rfl:=oi h
 exact Wp.ret RetB
theorem impl_Holds_ok {u p0 p1 p2 r} (h:impl_Holds u p0 p1 p2=some r):CallOK Tryz.prog 24 [V.g (Disk.enc p0),V.i p1,.one (.s p2)] (V.b r) []:=by
 unfold impl_Holds at h
 refine ofb Tryz.f24 false ?_
 refine Wp.sa ?_
 refine Wp.cl false 1 11 [.agg ((Disk.enc p0).map .t)] h (fun _=>impl_Recover_ok) (fun r1 h=>?_)
 refine Wp.sr ?_
 refine Runs.c2 4 17 h (fun h=>?_) (fun h=>?_)
 ·refine Runs.cb 2 20 [.own 721920,.s p2] h (fun _=>impl_SameBytes_ok) (fun r2 h=>?_)
  refine Runs.alln ?_
  obtain rfl:=oi h
  exact Wp.ret RetB
 refine Runs.alln ?_
 obtain rfl:=oi h
 exact Wp.ret RetB
theorem impl_SumsOf_ok {u p0 p1 r} (h:impl_SumsOf u p0 p1=some r):CallOK Tryz.prog 104 [.one (.s p0),V.i p1] (.one (.ow 117 2 (r.map Sum.enc))) []:=by
 unfold impl_SumsOf at h
 refine ofb Tryz.f104 true ?_
 refine Wp.sa ?_
 refine Wp.sa ?_
 refine Wp.j1 (fun x10=>impl_SumsOf_j1 u x10=some r) (fun x10=>⟨[(4,.nil),(5,.own 327681)],[],[(327681,.live 117 2 (x10.map Sum.enc))]⟩) (fun x10 h=>?_) ?_
 ·refine Wp.sa ?_
  obtain rfl:=oi h
  exact Wp.ret RetB
 refine Wp.sr ?_
 refine Runs.ln 2 5 (eInt .u8) p0 ?_
 refine Runs.cl false 0 13 [.i p1,.i ((p0.length:Int))] h (fun _=>impl_Blocks_ok) (fun r1 h=>?_)
 refine Runs.alln ?_
 refine Wp.block ?_
 refine Wp.l5 (fun k_impl_SumsOf_l2 p0 p1 x4 r1 x5=>impl_SumsOf_l2 u k_impl_SumsOf_l2 p0 p1 x4 r1 x5=some r) (fun p0 p1 x4 r1 x5=>⟨[(0,.s p0),(1,.i p1),(4,.nil),(5,.own 327681),(13,.i r1),(14,.i x5)],[],[(327681,.live 117 2 (x4.map Sum.enc))]⟩) (fun k_impl_SumsOf_l2 p0 p1 x4 r1 x5 h=>?_) h (lo [(327681,589824)]) (fun _ _ _ _ _  h=>nomatch h)
 rw [impl_SumsOf_l2] at h
 refine Wp.sa ?_
 refine Wp.seq ?_
 refine Wp.c2 h (fun h=>?_) (fun h=>?_)
 ·refine Wp.sk ?_
  refine Wp.seq ?_
  refine Wp.block ?_
  refine Wp.sa ?_
  refine Wp.cl false 3 21 [.s p0,.i p1,.i x5] h (fun _=>impl_BlockAt_ok) (fun r8 h=>?_)
  refine Wp.rg [] [] ?_
  refine Runs.cb 2 26 [.own 1376256] h (fun _=>impl_SumOf_ok) (fun r9 h=>?_)
  refine Runs.ap (ys:=[r9]) 1 28 117 2 327681 Sum.enc h (fun h=>?_)
  refine Runs.all kr ?_
  refine blkN ?_
  refine thenN ?_
  refine Wp.rg [] [] ?_
  refine Runs.alln ?_
  exact ⟨_,_,_,_,_,h,lo [(327681,1835008)]⟩
 refine Wp.exit ?_
 refine thenE ?_
 refine thenE ?_
 refine blkE ?_
 refine thenN ?_
 exact ⟨_,h,lo []⟩
theorem slices_Equal___impl_Sum_impl_Sum_ok {u p0 p1 r} (h:slices_Equal___impl_Sum_impl_Sum u p0 p1=some r):CallOK Tryz.prog 103 [.one (.t (.sl 2 (p0.map Sum.enc))),.one (.t (.sl 2 (p1.map Sum.enc)))] (V.b r) []:=by
 unfold slices_Equal___impl_Sum_impl_Sum at h
 refine ofb Tryz.f103 false ?_
 refine Wp.sa ?_
 refine Wp.seq ?_
 refine Wp.sr ?_
 refine Runs.ln 1 117 Sum.enc p0 ?_
 refine Runs.ln 1 117 Sum.enc p1 ?_
 refine Runs.alln ?_
 refine Wp.c2 h (fun h=>?_) (fun h=>?_)
 ·refine Wp.sa ?_
  obtain rfl:=oi h
  exact Wp.ret RetB
 refine Wp.sk ?_
 refine Wp.j0 (slices_Equal___impl_Sum_impl_Sum_j1 u=some r) ⟨[(4,.b false)],[],[]⟩ (fun h=>?_) ?_
 ·refine Wp.sa ?_
  obtain rfl:=oi h
  exact Wp.ret RetB
 refine Wp.sr ?_
 refine Runs.ln 1 117 Sum.enc p0 ?_
 refine Runs.alln ?_
 refine Wp.block ?_
 refine Wp.l3 (fun k_slices_Equal___impl_Sum_impl_Sum_l2 p0 p1 x2=>slices_Equal___impl_Sum_impl_Sum_l2 u k_slices_Equal___impl_Sum_impl_Sum_l2 p0 p1 x2=some r) (fun p0 p1 x2=>⟨[(0,.t (.sl 2 (p0.map Sum.enc))),(1,.t (.sl 2 (p1.map Sum.enc))),(4,.b false),(12,.i ((p0.length:Int))),(13,.i x2)],[],[]⟩) (fun k_slices_Equal___impl_Sum_impl_Sum_l2 p0 p1 x2 h=>?_) h (lo []) (fun _ _ _  h=>nomatch h)
 rw [slices_Equal___impl_Sum_impl_Sum_l2] at h
 refine Wp.sa ?_
 refine Wp.seq ?_
 refine Wp.c2 h (fun h=>?_) (fun h=>?_)
 ·refine Wp.sk ?_
  refine Wp.seq ?_
  refine Wp.block ?_
  refine Wp.sa ?_
  refine Wp.seq ?_
  refine Wp.regionA (pOf []) (rhoOf [(0,.frz),(1,.frz),(5,.frz),(16,.frz),(17,.frz),(18,.frz),(19,.frz),(20,.frz),(21,.frz),(22,.frz),(23,.frz)]) kr kr ?_
  refine Runs.ix 2 117 2 Sum.enc h (fun y4 h _=>?_)
  refine Runs.ix 3 117 2 Sum.enc h (fun y5 h _=>?_)
  refine Runs.alln ?_
  refine Wp.c2 h (fun h=>?_) (fun h=>?_)
  ·refine Wp.sa ?_
   obtain rfl:=oi h
   exact Wp.ret RetB
  refine Wp.skip ?_
  refine blkN ?_
  refine thenN ?_
  refine Wp.rg [] [] ?_
  refine Runs.alln ?_
  exact ⟨_,_,_,h,lo []⟩
 refine Wp.exit ?_
 refine thenE ?_
 refine thenE ?_
 refine blkE ?_
 refine thenN ?_
 exact ⟨h,lo []⟩
theorem impl_Tells_ok {u p0 p1 r} (h:impl_Tells u p0 p1=some r):CallOK Tryz.prog 59 [V.g (Manifest.enc p0),.one (.s p1)] (V.b r) []:=by
 unfold impl_Tells at h
 refine ofb Tryz.f59 false ?_
 refine Wp.sa ?_
 refine Wp.seq ?_
 refine Wp.regionA (pOf []) (rhoOf [(1,.frz),(2,.obj 2),(5,.frz),(6,.frz),(7,.obj 2),(8,.frz),(9,.frz),(10,.frz),(11,.frz),(12,.obj 2),(13,.frz),(14,.own 14),(15,.obj 2),(16,.frz),(18,.frz)]) kr kr ?_
 refine Runs.ln 1 5 (eInt .u8) p1 ?_
 refine Runs.c2 4 10 h (fun h=>?_) (fun h=>?_)
 ·refine Runs.cl false 3 14 [.s p1,.i p0.fSize] h (fun _=>impl_SumsOf_ok) (fun r1 h=>?_)
  refine Runs.cb 2 17 [.own 917504,.t (.sl 2 (p0.fSums.map Sum.enc))] h (fun _=>slices_Equal___impl_Sum_impl_Sum_ok) (fun r2 h=>?_)
  refine Runs.alln ?_
  obtain rfl:=oi h
  exact Wp.ret RetB
 refine Runs.alln ?_
 obtain rfl:=oi h
 exact Wp.ret RetB
theorem impl_Committed_ok {u p0 p1 p2 r} (h:impl_Committed u p0 p1 p2=some r):CallOK Tryz.prog 17 [V.g (Disk.enc p0),V.g (Manifest.enc p1),.one (.s p2)] (V.b r) []:=by
 unfold impl_Committed at h
 refine ofb Tryz.f17 false ?_
 refine Wp.sa ?_
 refine Wp.sr ?_
 refine Runs.cl false 4 11 [.agg ((Disk.enc p0).map .t),.i p1.fGen,.s p2] h (fun _=>impl_Holds_ok) (fun r1 h=>?_)
 refine Runs.c2 1 12 h (fun h=>?_) (fun h=>?_)
 ·refine Runs.cl false 2 15 [.agg ((Manifest.enc p1).map .t),.s p2] h (fun _=>impl_Tells_ok) (fun r2 h=>?_)
  refine Runs.alln ?_
  obtain rfl:=oi h
  exact Wp.ret RetB
 refine Runs.alln ?_
 obtain rfl:=oi h
 exact Wp.ret RetB
theorem spec_Recover_ok {u p0 r} (h:spec_Recover u p0=some r):CallOK Tryz.prog 105 [V.g (Disk.enc p0)] (.tup [V.i r.1,.one (.ow 5 1 (r.2.map (eInt .u8)))]) []:=by
 unfold spec_Recover at h
 refine ofb Tryz.f105 true ?_
 refine Wp.sa ?_
 refine Wp.seq ?_
 refine Wp.cl false 1 5 [.agg ((Disk.enc p0).map .t)] h (fun _=>spec_DiskOk_ok) (fun r1 h=>?_)
 refine Wp.c2 h (fun h=>?_) (fun h=>?_)
 ·refine Wp.sa ?_
  obtain rfl:=oi h
  exact Wp.ret RetB
 refine Wp.sk ?_
 refine Wp.seq ?_
 refine Wp.regionA (pOf []) (rhoOf [(1,.obj 1),(8,.obj 1),(9,.obj 1),(10,.frz),(11,.own 11),(12,.frz),(13,.obj 1),(14,.obj 1),(15,.frz),(16,.frz),(17,.obj 1),(18,.obj 1),(19,.frz),(20,.frz),(21,.own 21)]) kr kr ?_
 refine Runs.cl false 8 16 [.agg ((Disk.enc p0).map .t),.i p0.fR.fSlot] h (fun _=>spec_l9Slot_ok) (fun r2 h=>?_)
 refine Runs.batch 3 kr ?_
 obtain ⟨_,e_3,h⟩:=bind_some h
 refine Runs.subsl (e:=5) (ax:=.s r2) (alo:=none) (ahi:=(some (.i p0.fR.fLen))) (eInt .u8) r2 1 0 p0.fR.fLen rfl kr kr kr kr kr kr kr kr kr kr kr (chk_some e_3) ?_
 refine Runs.ap 0 21 5 1 720896 (eInt .u8) h (fun h=>?_)
 refine Runs.alln ?_
 obtain rfl:=oi h
 exact Wp.ret RetB
theorem spec_SameBytes_ok {u p0 p1 r} (h:spec_SameBytes u p0 p1=some r):CallOK Tryz.prog 106 [.one (.s p0),.one (.s p1)] (V.b r) []:=by
 unfold spec_SameBytes at h
 refine ofb Tryz.f106 false ?_
 refine Wp.sa ?_
 refine Wp.sr ?_
 refine Runs.batch 1 kr ?_
 refine Runs.bytesStr (y:=.s p0) (e:=5) p0 1 rfl kr kr kr kr kr kr kr ?_
 refine Runs.batch 1 kr ?_
 refine Runs.bytesStr (y:=.s p1) (e:=5) p1 1 rfl kr kr kr kr kr kr kr ?_
 refine Runs.alln ?_
 obtain rfl:=oi h
 exact Wp.ret RetB
theorem spec_Holds_ok {u p0 p1 p2 r} (h:spec_Holds u p0 p1 p2=some r):CallOK Tryz.prog 60 [V.g (Disk.enc p0),V.i p1,.one (.s p2)] (V.b r) []:=by
 unfold spec_Holds at h
 refine ofb Tryz.f60 false ?_
 refine Wp.sa ?_
 refine Wp.cl false 1 11 [.agg ((Disk.enc p0).map .t)] h (fun _=>spec_Recover_ok) (fun r1 h=>?_)
 refine Wp.sr ?_
 refine Runs.c2 4 17 h (fun h=>?_) (fun h=>?_)
 ·refine Runs.cb 2 20 [.own 721920,.s p2] h (fun _=>spec_SameBytes_ok) (fun r2 h=>?_)
  refine Runs.alln ?_
  obtain rfl:=oi h
  exact Wp.ret RetB
 refine Runs.alln ?_
 obtain rfl:=oi h
 exact Wp.ret RetB
theorem spec_SumsOf_ok {u p0 p1 r} (h:spec_SumsOf u p0 p1=some r):CallOK Tryz.prog 108 [.one (.s p0),V.i p1] (.one (.ow 117 2 (r.map Sum.enc))) []:=by
 unfold spec_SumsOf at h
 refine ofb Tryz.f108 true ?_
 refine Wp.sa ?_
 refine Wp.sa ?_
 refine Wp.j1 (fun x10=>spec_SumsOf_j1 u x10=some r) (fun x10=>⟨[(4,.nil),(5,.own 327681)],[],[(327681,.live 117 2 (x10.map Sum.enc))]⟩) (fun x10 h=>?_) ?_
 ·refine Wp.sa ?_
  obtain rfl:=oi h
  exact Wp.ret RetB
 refine Wp.sa ?_
 refine Wp.block ?_
 refine Wp.l4 (fun k_spec_SumsOf_l2 p0 p1 x3 x4=>spec_SumsOf_l2 u k_spec_SumsOf_l2 p0 p1 x3 x4=some r) (fun p0 p1 x3 x4=>⟨[(0,.s p0),(1,.i p1),(4,.nil),(5,.own 327681),(6,.i x4)],[],[(327681,.live 117 2 (x3.map Sum.enc))]⟩) (fun k_spec_SumsOf_l2 p0 p1 x3 x4 h=>?_) h (lo [(327681,589824)]) (fun _ _ _ _  h=>nomatch h)
 rw [spec_SumsOf_l2] at h
 refine Wp.seq ?_
 refine Wp.sr ?_
 refine Runs.ln 3 5 (eInt .u8) p0 ?_
 refine Runs.cl false 0 14 [.i p1,.i ((p0.length:Int))] h (fun _=>spec_Blocks_ok) (fun r7 h=>?_)
 refine Runs.alln ?_
 refine Wp.c2 h (fun h=>?_) (fun h=>?_)
 ·refine Wp.sk ?_
  refine Wp.seq ?_
  refine Wp.block ?_
  refine Wp.cl false 3 22 [.s p0,.i p1,.i x4] h (fun _=>spec_BlockAt_ok) (fun r8 h=>?_)
  refine Wp.rg [] [] ?_
  refine Runs.cb 2 27 [.own 1441792] h (fun _=>spec_SumOf_ok) (fun r9 h=>?_)
  refine Runs.ap (ys:=[r9]) 1 29 117 2 327681 Sum.enc h (fun h=>?_)
  refine Runs.all kr ?_
  refine blkN ?_
  refine thenN ?_
  refine Wp.rg [] [] ?_
  refine Runs.alln ?_
  exact ⟨_,_,_,_,h,lo [(327681,1900544)]⟩
 refine Wp.exit ?_
 refine thenE ?_
 refine thenE ?_
 refine blkE ?_
 refine thenN ?_
 exact ⟨_,h,lo []⟩
theorem spec_l6SameSums_ok {u p0 p1 r} (h:spec_l6SameSums u p0 p1=some r):CallOK Tryz.prog 107 [.one (.t (.sl 2 (p0.map Sum.enc))),.one (.t (.sl 2 (p1.map Sum.enc)))] (V.b r) []:=by
 unfold spec_l6SameSums at h
 refine ofb Tryz.f107 false ?_
 refine Wp.sa ?_
 refine Wp.seq ?_
 refine Wp.sr ?_
 refine Runs.ln 1 117 Sum.enc p0 ?_
 refine Runs.ln 1 117 Sum.enc p1 ?_
 refine Runs.alln ?_
 refine Wp.c2 h (fun h=>?_) (fun h=>?_)
 ·refine Wp.sa ?_
  obtain rfl:=oi h
  exact Wp.ret RetB
 refine Wp.sk ?_
 refine Wp.j0 (spec_l6SameSums_j1 u=some r) ⟨[(4,.b false)],[],[]⟩ (fun h=>?_) ?_
 ·refine Wp.sa ?_
  obtain rfl:=oi h
  exact Wp.ret RetB
 refine Wp.sa ?_
 refine Wp.block ?_
 refine Wp.l3 (fun k_spec_l6SameSums_l2 p0 p1 x2=>spec_l6SameSums_l2 u k_spec_l6SameSums_l2 p0 p1 x2=some r) (fun p0 p1 x2=>⟨[(0,.t (.sl 2 (p0.map Sum.enc))),(1,.t (.sl 2 (p1.map Sum.enc))),(4,.b false),(5,.i x2)],[],[]⟩) (fun k_spec_l6SameSums_l2 p0 p1 x2 h=>?_) h (lo []) (fun _ _ _  h=>nomatch h)
 rw [spec_l6SameSums_l2] at h
 refine Wp.seq ?_
 refine Wp.sr ?_
 refine Runs.ln 2 117 Sum.enc p0 ?_
 refine Runs.alln ?_
 refine Wp.c2 h (fun h=>?_) (fun h=>?_)
 ·refine Wp.sk ?_
  refine Wp.seq ?_
  refine Wp.block ?_
  refine Wp.seq ?_
  refine Wp.regionA (pOf []) (rhoOf [(0,.frz),(1,.frz),(5,.frz),(17,.frz),(18,.frz),(19,.frz),(20,.frz),(21,.frz),(22,.frz),(23,.frz),(24,.frz)]) kr kr ?_
  refine Runs.ix 2 117 2 Sum.enc h (fun y4 h _=>?_)
  refine Runs.ix 3 117 2 Sum.enc h (fun y5 h _=>?_)
  refine Runs.alln ?_
  refine Wp.c2 h (fun h=>?_) (fun h=>?_)
  ·refine Wp.sa ?_
   obtain rfl:=oi h
   exact Wp.ret RetB
  refine Wp.skip ?_
  refine blkN ?_
  refine thenN ?_
  refine Wp.rg [] [] ?_
  refine Runs.alln ?_
  exact ⟨_,_,_,h,lo []⟩
 refine Wp.exit ?_
 refine thenE ?_
 refine thenE ?_
 refine blkE ?_
 refine thenN ?_
 exact ⟨h,lo []⟩
theorem spec_Tells_ok {u p0 p1 r} (h:spec_Tells u p0 p1=some r):CallOK Tryz.prog 61 [V.g (Manifest.enc p0),.one (.s p1)] (V.b r) []:=by
 unfold spec_Tells at h
 refine ofb Tryz.f61 false ?_
 refine Wp.sa ?_
 refine Wp.seq ?_
 refine Wp.regionA (pOf []) (rhoOf [(1,.frz),(2,.obj 2),(5,.frz),(6,.frz),(7,.obj 2),(8,.frz),(9,.frz),(10,.frz),(11,.frz),(12,.obj 2),(13,.frz),(14,.own 14),(15,.obj 2),(16,.frz),(18,.frz)]) kr kr ?_
 refine Runs.ln 1 5 (eInt .u8) p1 ?_
 refine Runs.c2 4 10 h (fun h=>?_) (fun h=>?_)
 ·refine Runs.cl false 3 14 [.s p1,.i p0.fSize] h (fun _=>spec_SumsOf_ok) (fun r1 h=>?_)
  refine Runs.cb 2 17 [.own 917504,.t (.sl 2 (p0.fSums.map Sum.enc))] h (fun _=>spec_l6SameSums_ok) (fun r2 h=>?_)
  refine Runs.alln ?_
  obtain rfl:=oi h
  exact Wp.ret RetB
 refine Runs.alln ?_
 obtain rfl:=oi h
 exact Wp.ret RetB
theorem spec_Committed_ok {u p0 p1 p2 r} (h:spec_Committed u p0 p1 p2=some r):CallOK Tryz.prog 18 [V.g (Disk.enc p0),V.g (Manifest.enc p1),.one (.s p2)] (V.b r) []:=by
 unfold spec_Committed at h
 refine ofb Tryz.f18 false ?_
 refine Wp.sa ?_
 refine Wp.sr ?_
 refine Runs.cl false 4 11 [.agg ((Disk.enc p0).map .t),.i p1.fGen,.s p2] h (fun _=>spec_Holds_ok) (fun r1 h=>?_)
 refine Runs.c2 1 12 h (fun h=>?_) (fun h=>?_)
 ·refine Runs.cl false 2 15 [.agg ((Manifest.enc p1).map .t),.s p2] h (fun _=>spec_Tells_ok) (fun r2 h=>?_)
  refine Runs.alln ?_
  obtain rfl:=oi h
  exact Wp.ret RetB
 refine Runs.alln ?_
 obtain rfl:=oi h
 exact Wp.ret RetB
theorem impl_PhName_ok {u p0 r} (h:impl_PhName u p0=some r):CallOK Tryz.prog 19 [V.i p0] (.one (.t (.str r))) []:=by
 unfold impl_PhName at h
 refine ofb Tryz.f19 false ?_
 refine Wp.sa ?_
 refine Wp.seq ?_
 refine Wp.cl false 1 4 [.i p0,.i 0,.i 6] h (fun _=>impl_within_ok) (fun r1 h=>?_)
 refine Wp.c2 h (fun h=>?_) (fun h=>?_)
 ·refine Wp.sa ?_
  obtain rfl:=oi h
  exact Wp.ret RetB
 refine Wp.sk ?_
 refine Wp.sr ?_
 refine Runs.ixo 2 9 1 393216 9 eStr h (fun y2 h e_y2=>?_)
 refine Runs.ld 0 1 1 393216 0 9 false eStr ((idx_some e_y2).2) ?_
 refine Runs.alln ?_
 obtain rfl:=oi h
 exact Wp.ret RetB
theorem spec_PhName_ok {u p0 r} (h:spec_PhName u p0=some r):CallOK Tryz.prog 20 [V.i p0] (.one (.t (.str r))) []:=by
 unfold spec_PhName at h
 refine ofb Tryz.f20 false ?_
 refine Wp.sa ?_
 refine Wp.sa ?_
 refine Wp.seq ?_
 refine Wp.sr ?_
 refine Runs.ln 2 9 eStr ([(ByteArray.mk #[105,100,108,101]),(ByteArray.mk #[103,97,116,104,101,114]),(ByteArray.mk #[115,116,97,103,101,100]),(ByteArray.mk #[115,117,114,101]),(ByteArray.mk #[109,101,97,110,116]),(ByteArray.mk #[100,111,110,101]),(ByteArray.mk #[114,111,111,116])]) ?_
 refine Runs.cl false 1 9 [.i p0,.i 0,.i (bSub .i64 ((([(ByteArray.mk #[105,100,108,101]),(ByteArray.mk #[103,97,116,104,101,114]),(ByteArray.mk #[115,116,97,103,101,100]),(ByteArray.mk #[115,117,114,101]),(ByteArray.mk #[109,101,97,110,116]),(ByteArray.mk #[100,111,110,101]),(ByteArray.mk #[114,111,111,116])]).length:Int)) 1)] h (fun _=>spec_l1In_ok) (fun r1 h=>?_)
 refine Runs.alln ?_
 refine Wp.c2 h (fun h=>?_) (fun h=>?_)
 ·refine Wp.sa ?_
  obtain rfl:=oi h
  exact Wp.ret RetB
 refine Wp.sk ?_
 refine Wp.sr ?_
 refine Runs.ixo 2 9 1 262144 9 eStr h (fun y2 h e_y2=>?_)
 refine Runs.ld 0 1 1 262144 0 9 false eStr ((idx_some e_y2).2) ?_
 refine Runs.alln ?_
 obtain rfl:=oi h
 exact Wp.ret RetB
theorem impl_StepsLeft_ok {u p0 r} (h:impl_StepsLeft u p0=some r):CallOK Tryz.prog 21 [V.i p0] (V.i r) []:=by
 unfold impl_StepsLeft at h
 refine ofb Tryz.f21 false ?_
 refine Wp.sa ?_
 refine Wp.seq ?_
 refine Wp.cl false 1 4 [.i p0,.i 1,.i 4] h (fun _=>impl_within_ok) (fun r1 h=>?_)
 refine Wp.c2 h (fun h=>?_) (fun h=>?_)
 ·refine Wp.sa ?_
  obtain rfl:=oi h
  exact Wp.ret RetB
 refine Wp.sk ?_
 refine Wp.sa ?_
 obtain rfl:=oi h
 exact Wp.ret RetB
theorem spec_StepsLeft_ok {u p0 r} (h:spec_StepsLeft u p0=some r):CallOK Tryz.prog 22 [V.i p0] (V.i r) []:=by
 unfold spec_StepsLeft at h
 refine ofb Tryz.f22 false ?_
 refine Wp.sa ?_
 refine Wp.seq ?_
 refine Wp.cl false 1 4 [.i p0,.i 1,.i 4] h (fun _=>spec_l1In_ok) (fun r1 h=>?_)
 refine Wp.c2 h (fun h=>?_) (fun h=>?_)
 ·refine Wp.sa ?_
  obtain rfl:=oi h
  exact Wp.ret RetB
 refine Wp.sk ?_
 refine Wp.sa ?_
 obtain rfl:=oi h
 exact Wp.ret RetB
theorem laws_FnCommitsBent_ok {u p0 r} (h:laws_FnCommitsBent u p0=some r):CallOK Tryz.prog 3 [.one (.s p0)] (V.b r) []:=by
 unfold laws_FnCommitsBent at h
 refine ofb Tryz.f3 false ?_
 refine Wp.sa ?_
 refine Wp.seq ?_
 refine Wp.cl false 1 28 [.s p0] h (fun _=>laws_big_ok) (fun r1 h=>?_)
 refine Wp.c2 h (fun h=>?_) (fun h=>?_)
 ·refine Wp.sa ?_
  obtain rfl:=oi h
  exact Wp.ret RetB
 refine Wp.sk ?_
 refine Wp.cl false 1 31 [.s p0] h (fun _=>spec_DrawNextCommit_ok) (fun r2 h=>?_)
 refine Wp.cl false 4 41 [.agg [.own 2031616,.own 2031617,.i r2.1.fR.fGen,.i r2.1.fR.fSlot,.i r2.1.fR.fLen,.own 2031621],.agg ((Manifest.enc r2.2.1).map .t),.agg [.i r2.2.2.1.fHave,.s r2.2.2.1.fBuf],.i r2.2.2.2] h (fun _=>impl_NextCommit_ok) (fun r3 h=>?_)
 refine Wp.cl false 4 49 [.agg [.own 2031616,.own 2031617,.i r2.1.fR.fGen,.i r2.1.fR.fSlot,.i r2.1.fR.fLen,.own 2031621],.agg ((Manifest.enc r2.2.1).map .t),.agg [.i r2.2.2.1.fHave,.s r2.2.2.1.fBuf],.i r2.2.2.2] h (fun _=>spec_NextCommit_ok) (fun r4 h=>?_)
 refine Wp.cl false 1 54 [.s p0] h (fun _=>spec_DrawStageAll_ok) (fun r5 h=>?_)
 refine Wp.sr ?_
 refine Runs.batch 3 kr ?_
 obtain ⟨r6,e_r6,h⟩:=bind_some h
 refine Runs.callDK 62 9 [] [.agg ((Disk.enc r5.1).map .t),.own 3539968,.i r5.2.2] [.agg ((Disk.enc r5.1).map .t),.one (.s r5.2.1),.one (.i r5.2.2)] (.tup [V.w [5,5,0,0,0,85] (Disk.enc r6.1),V.b r6.2]) rfl rfl kr kr kr kr kr (impl_StageAll_okd e_r6) kr ?_
 refine Runs.alln ?_
 refine Wp.fg ⟨[(0,.s p0),(2,.b false),(7,.obj 7 0),(8,.i r3.2),(9,.obj 9 0),(10,.i r4.2),(11,.obj 11 0),(12,.own 3539968),(13,.i r5.2.2),(14,.obj 14 0),(15,.b r6.2)],[(7,[.own 2686976,.own 2686977,.i r3.1.fR.fGen,.i r3.1.fR.fSlot,.i r3.1.fR.fLen,.own 2686981]),(9,[.own 3211264,.own 3211265,.i r4.1.fR.fGen,.i r4.1.fR.fSlot,.i r4.1.fR.fLen,.own 3211269]),(11,((Disk.enc r5.1).map .t)),(14,[.own 4063232,.own 4063233,.i r6.1.fR.fGen,.i r6.1.fR.fSlot,.i r6.1.fR.fLen,.own 4063237])],[(2686976,.live 5 1 (r3.1.fA.map (eInt .u8))),(2686977,.live 5 1 (r3.1.fB.map (eInt .u8))),(2686981,.live 85 6 (r3.1.fP.map Put.enc)),(3211264,.live 5 1 (r4.1.fA.map (eInt .u8))),(3211265,.live 5 1 (r4.1.fB.map (eInt .u8))),(3211269,.live 85 6 (r4.1.fP.map Put.enc)),(3539968,.live 5 1 (r5.2.1.map (eInt .u8))),(4063232,.live 5 1 (r6.1.fA.map (eInt .u8))),(4063233,.live 5 1 (r6.1.fB.map (eInt .u8))),(4063237,.live 85 6 (r6.1.fP.map Put.enc))]⟩ ?_
 refine Wp.sr ?_
 refine Runs.batch 3 kr ?_
 obtain ⟨r7,e_r7,h⟩:=bind_some h
 refine Runs.callDK 69 10 [] [.agg ((Disk.enc r5.1).map .t),.own 3539968,.i r5.2.2] [.agg ((Disk.enc r5.1).map .t),.one (.s r5.2.1),.one (.i r5.2.2)] (.tup [V.w [5,5,0,0,0,85] (Disk.enc r7.1),V.b r7.2]) rfl rfl kr kr kr kr kr (spec_StageAll_okd e_r7) kr ?_
 refine Runs.alln ?_
 refine Wp.cl false 1 74 [.s p0] h (fun _=>spec_DrawCommitAll_ok) (fun r8 h=>?_)
 refine Wp.cl false 1 80 [.s p0] h (fun _=>spec_DrawCommitted_ok) (fun r9 h=>?_)
 refine Wp.cl false 1 85 [.s p0] h (fun _=>spec_DrawPhName_ok) (fun r10 h=>?_)
 refine Wp.seq ?_
 refine Wp.j3 (fun r5 r6 x22=>laws_FnCommitsBent_j1 u r5 r6 x22=some r) (fun r5 r6 x22=>⟨[(2,.b false),(11,.obj 11 0),(12,.own 786433),(13,.i r5.2.2),(14,.obj 14 0),(15,.b r6.2),(142,.b x22)],[(11,((Disk.enc r5.1).map .t)),(14,((Disk.enc r6.1).map .t))],[(786433,.live 5 1 (r5.2.1.map (eInt .u8)))]⟩) (fun r5 r6 x22 h=>?_) ?_
 ·refine Wp.c2 h (fun h=>?_) (fun h=>?_)
  ·refine Wp.sa ?_
   obtain rfl:=oi h
   exact Wp.ret RetB
  refine Wp.sk ?_
  refine Wp.seq ?_
  refine Wp.sa ?_
  refine Wp.c2 h (fun h=>?_) (fun h=>?_)
  ·refine Wp.cl false 2 147 [.agg ((Disk.enc r6.1).map .t),.agg ((Disk.enc r5.1).map .t)] h (fun _=>laws_sameDisk_ok) (fun r23 h=>?_)
   obtain rfl:=oi h
   exact Wp.ret RetB
  refine Wp.sk ?_
  refine Wp.cl false 1 150 [.agg ((Disk.enc r5.1).map .t)] h (fun _=>impl_Recover_ok) (fun r24 h=>?_)
  refine Wp.seq ?_
  refine Wp.regionA (pOf []) (rhoOf [(12,.own 12),(13,.frz),(14,.obj 14),(25,.frz),(26,.own 150),(153,.frz),(154,.frz),(155,.own 150),(156,.frz),(157,.frz),(158,.obj 14),(159,.frz),(160,.frz),(161,.frz),(162,.own 12),(163,.frz),(164,.frz),(166,.frz)]) kr kr ?_
  refine Runs.cb 3 156 [.agg ((Disk.enc r6.1).map .t),.i r24.1,.own 9831424] h (fun _=>impl_Holds_ok) (fun r25 h=>?_)
  refine Runs.c2 1 157 h (fun h=>?_) (fun h=>?_)
  ·refine Runs.ln 2 85 Put.enc r6.1.fP ?_
   refine Runs.ln 2 5 (eInt .u8) r5.2.1 ?_
   refine Runs.cl false 0 164 [.i r5.2.2,.i ((r5.2.1.length:Int))] h (fun _=>impl_Blocks_ok) (fun r26 h=>?_)
   refine Runs.alln ?_
   obtain rfl:=oi h
   exact Wp.ret RetB
  refine Runs.alln ?_
  obtain rfl:=oi h
  exact Wp.ret RetB
 refine Wp.le (Le.trans (Le.frzO 7 0 2686976 5 1 [.own 2686976,.own 2686977,.i r3.1.fR.fGen,.i r3.1.fR.fSlot,.i r3.1.fR.fLen,.own 2686981] (r3.1.fA.map (eInt .u8)) kr kr kr) (Le.trans (Le.frzO 7 1 2686977 5 1 [.s r3.1.fA,.own 2686977,.i r3.1.fR.fGen,.i r3.1.fR.fSlot,.i r3.1.fR.fLen,.own 2686981] (r3.1.fB.map (eInt .u8)) kr kr kr) (Le.trans (Le.frzO 7 5 2686981 85 6 [.s r3.1.fA,.s r3.1.fB,.i r3.1.fR.fGen,.i r3.1.fR.fSlot,.i r3.1.fR.fLen,.own 2686981] (r3.1.fP.map Put.enc) kr kr kr) (Le.trans (Le.frzO 9 0 3211264 5 1 [.own 3211264,.own 3211265,.i r4.1.fR.fGen,.i r4.1.fR.fSlot,.i r4.1.fR.fLen,.own 3211269] (r4.1.fA.map (eInt .u8)) kr kr kr) (Le.trans (Le.frzO 9 1 3211265 5 1 [.s r4.1.fA,.own 3211265,.i r4.1.fR.fGen,.i r4.1.fR.fSlot,.i r4.1.fR.fLen,.own 3211269] (r4.1.fB.map (eInt .u8)) kr kr kr) (Le.trans (Le.frzO 9 5 3211269 85 6 [.s r4.1.fA,.s r4.1.fB,.i r4.1.fR.fGen,.i r4.1.fR.fSlot,.i r4.1.fR.fLen,.own 3211269] (r4.1.fP.map Put.enc) kr kr kr) (Le.trans (Le.frzO 14 0 4063232 5 1 [.own 4063232,.own 4063233,.i r6.1.fR.fGen,.i r6.1.fR.fSlot,.i r6.1.fR.fLen,.own 4063237] (r6.1.fA.map (eInt .u8)) kr kr kr) (Le.trans (Le.frzO 14 1 4063233 5 1 [.s r6.1.fA,.own 4063233,.i r6.1.fR.fGen,.i r6.1.fR.fSlot,.i r6.1.fR.fLen,.own 4063237] (r6.1.fB.map (eInt .u8)) kr kr kr) (Le.trans (Le.frzO 14 5 4063237 85 6 [.s r6.1.fA,.s r6.1.fB,.i r6.1.fR.fGen,.i r6.1.fR.fSlot,.i r6.1.fR.fLen,.own 4063237] (r6.1.fP.map Put.enc) kr kr kr) (Le.trans (Le.frzO 16 0 4521984 5 1 [.own 4521984,.own 4521985,.i r7.1.fR.fGen,.i r7.1.fR.fSlot,.i r7.1.fR.fLen,.own 4521989] (r7.1.fA.map (eInt .u8)) kr kr kr) (Le.trans (Le.frzO 16 1 4521985 5 1 [.s r7.1.fA,.own 4521985,.i r7.1.fR.fGen,.i r7.1.fR.fSlot,.i r7.1.fR.fLen,.own 4521989] (r7.1.fB.map (eInt .u8)) kr kr kr) (Le.trans (Le.frzO 16 5 4521989 85 6 [.s r7.1.fA,.s r7.1.fB,.i r7.1.fR.fGen,.i r7.1.fR.fSlot,.i r7.1.fR.fLen,.own 4521989] (r7.1.fP.map Put.enc) kr kr kr) (Le.trans (Le.frzO 18 0 4849664 5 1 [.own 4849664,.own 4849665,.i r8.1.fR.fGen,.i r8.1.fR.fSlot,.i r8.1.fR.fLen,.own 4849669] (r8.1.fA.map (eInt .u8)) kr kr kr) (Le.trans (Le.frzO 18 1 4849665 5 1 [.s r8.1.fA,.own 4849665,.i r8.1.fR.fGen,.i r8.1.fR.fSlot,.i r8.1.fR.fLen,.own 4849669] (r8.1.fB.map (eInt .u8)) kr kr kr) (Le.trans (Le.frzO 18 5 4849669 85 6 [.s r8.1.fA,.s r8.1.fB,.i r8.1.fR.fGen,.i r8.1.fR.fSlot,.i r8.1.fR.fLen,.own 4849669] (r8.1.fP.map Put.enc) kr kr kr) (Le.trans (Le.frzO 21 0 5242880 5 1 [.own 5242880,.own 5242881,.i r9.1.fR.fGen,.i r9.1.fR.fSlot,.i r9.1.fR.fLen,.own 5242885] (r9.1.fA.map (eInt .u8)) kr kr kr) (Le.trans (Le.frzO 21 1 5242881 5 1 [.s r9.1.fA,.own 5242881,.i r9.1.fR.fGen,.i r9.1.fR.fSlot,.i r9.1.fR.fLen,.own 5242885] (r9.1.fB.map (eInt .u8)) kr kr kr) (Le.frzO 21 5 5242885 85 6 [.s r9.1.fA,.s r9.1.fB,.i r9.1.fR.fGen,.i r9.1.fR.fSlot,.i r9.1.fR.fLen,.own 5242885] (r9.1.fP.map Put.enc) kr kr kr)))))))))))))))))) ?_
 refine Wp.regionA (pOf []) (rhoOf [(7,.obj 7),(8,.frz),(9,.obj 9),(10,.frz),(14,.obj 14),(15,.frz),(16,.obj 16),(17,.frz),(18,.obj 18),(19,.obj 19),(20,.obj 20),(21,.obj 21),(22,.obj 22),(23,.frz),(24,.frz),(86,.frz),(87,.frz),(88,.frz),(89,.frz),(90,.frz),(91,.frz),(92,.frz),(94,.frz),(95,.frz),(96,.frz),(97,.frz),(98,.frz),(100,.frz),(101,.frz),(102,.frz),(103,.frz),(105,.frz),(106,.frz),(107,.frz),(108,.frz),(109,.frz),(110,.own 110),(111,.frz),(112,.frz),(113,.frz),(114,.own 114),(115,.frz),(117,.frz),(118,.frz),(119,.frz),(120,.frz),(121,.frz),(122,.frz),(123,.frz),(124,.frz),(125,.frz),(126,.frz),(128,.frz),(129,.frz),(130,.frz),(131,.frz),(132,.frz),(133,.frz),(135,.frz),(136,.frz),(137,.frz),(138,.frz),(139,.frz),(140,.frz)]) kr kr ?_
 refine Runs.cl false 2 88 [.agg ((Disk.enc r3.1).map .t),.agg ((Disk.enc r4.1).map .t)] h (fun _=>laws_sameDisk_ok) (fun r11 h=>?_)
 refine Runs.c2 2 90 h (fun h=>?_) (fun h=>?_)
 ·refine Runs.alln ?_
  exact ⟨_,_,_,h,lo [(786433,3539968)]⟩
 refine Runs.c2 5 95 h (fun h=>?_) (fun h=>?_)
 ·refine Runs.alln ?_
  exact ⟨_,_,_,h,lo [(786433,3539968)]⟩
 refine Runs.cl false 2 98 [.agg ((Disk.enc r6.1).map .t),.agg ((Disk.enc r7.1).map .t)] h (fun _=>laws_sameDisk_ok) (fun r12 h=>?_)
 refine Runs.c2 3 101 h (fun h=>?_) (fun h=>?_)
 ·refine Runs.alln ?_
  exact ⟨_,_,_,h,lo [(786433,3539968)]⟩
 refine Runs.c2 5 106 h (fun h=>?_) (fun h=>?_)
 ·refine Runs.alln ?_
  exact ⟨_,_,_,h,lo [(786433,3539968)]⟩
 refine Runs.cl false 3 110 [.agg ((Disk.enc r8.1).map .t),.agg ((Manifest.enc r8.2.1).map .t),.agg [.i r8.2.2.fHave,.s r8.2.2.fBuf]] h (fun _=>impl_CommitAll_ok) (fun r13 h=>?_)
 refine Runs.cl false 3 114 [.agg ((Disk.enc r8.1).map .t),.agg ((Manifest.enc r8.2.1).map .t),.agg [.i r8.2.2.fHave,.s r8.2.2.fBuf]] h (fun _=>spec_CommitAll_ok) (fun r14 h=>?_)
 refine Runs.cb 0 115 [.agg [.own 7208960,.own 7208961,.i r13.fR.fGen,.i r13.fR.fSlot,.i r13.fR.fLen,.own 7208965],.agg [.own 7471104,.own 7471105,.i r14.fR.fGen,.i r14.fR.fSlot,.i r14.fR.fLen,.own 7471109]] h (fun _=>laws_sameDisk_ok) (fun r15 h=>?_)
 refine Runs.c2 3 118 h (fun h=>?_) (fun h=>?_)
 ·refine Runs.alln ?_
  exact ⟨_,_,_,h,lo [(786433,3539968)]⟩
 refine Runs.cl false 3 122 [.agg ((Disk.enc r9.1).map .t),.agg ((Manifest.enc r9.2.1).map .t),.s r9.2.2] h (fun _=>impl_Committed_ok) (fun r16 h=>?_)
 refine Runs.cl false 3 126 [.agg ((Disk.enc r9.1).map .t),.agg ((Manifest.enc r9.2.1).map .t),.s r9.2.2] h (fun _=>spec_Committed_ok) (fun r17 h=>?_)
 refine Runs.c2 3 129 h (fun h=>?_) (fun h=>?_)
 ·refine Runs.alln ?_
  exact ⟨_,_,_,h,lo [(786433,3539968)]⟩
 refine Runs.cl false 1 131 [.i r10] h (fun _=>impl_PhName_ok) (fun r18 h=>?_)
 refine Runs.cl false 1 133 [.i r10] h (fun _=>spec_PhName_ok) (fun r19 h=>?_)
 refine Runs.c2 3 136 h (fun h=>?_) (fun h=>?_)
 ·refine Runs.alln ?_
  exact ⟨_,_,_,h,lo [(786433,3539968)]⟩
 refine Runs.cl false 1 138 [.i r10] h (fun _=>impl_StepsLeft_ok) (fun r20 h=>?_)
 refine Runs.cl false 1 140 [.i r10] h (fun _=>spec_StepsLeft_ok) (fun r21 h=>?_)
 refine Runs.alln ?_
 exact ⟨_,_,_,h,lo [(786433,3539968)]⟩
end Go.Tm
