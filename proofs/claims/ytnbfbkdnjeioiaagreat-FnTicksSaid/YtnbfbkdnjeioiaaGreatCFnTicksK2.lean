/- The functions as they are translated do what the pure functions say (printed). -/
import Derived.Test.YtnbfbkdnjeioiaaGreatCFnTicksK1
import Derived.Test.YtnbfbkdnjeioiaaGreatProg
set_option maxRecDepth 100000
set_option maxHeartbeats 20000000
set_option linter.unusedVariables false
set_option linter.unusedSimpArgs false
namespace Go.Tm
open Go.Proofs
theorem impl_Missing_ok {u p0 p1 r} (h:impl_Missing u p0 p1=some r):CallOK Tryz.prog 266 [V.g (Manifest.enc p0),V.g (Build.enc p1)] (V.i r) []:=by
 unfold impl_Missing at h
 refine ofb Tryz.f266 false ?_
 refine Wp.sa ?_
 refine Wp.seq ?_
 refine Wp.regionA (pOf []) (rhoOf [(2,.obj 2),(3,.obj 3),(5,.frz),(6,.frz),(7,.obj 3),(8,.frz),(9,.frz)]) kr kr ?_
 refine Runs.cl false 1 6 [.agg ((Manifest.enc p0).map .t)] h (fun _=>impl_AllParts_ok) (fun r1 h=>?_)
 refine Runs.cl false 2 9 [.i r1,.i p1.fHave] h (fun _=>impl_Without_ok) (fun r2 h=>?_)
 refine Runs.alln ?_
 obtain rfl:=oi h
 exact Wp.ret RetB
theorem impl_Whole_ok {u p0 p1 r} (h:impl_Whole u p0 p1=some r):CallOK Tryz.prog 188 [V.g (Manifest.enc p0),V.g (Build.enc p1)] (V.b r) []:=by
 unfold impl_Whole at h
 refine ofb Tryz.f188 false ?_
 refine Wp.sa ?_
 refine Wp.sr ?_
 refine Runs.c2 4 8 h (fun h=>?_) (fun h=>?_)
 ·refine Runs.cl false 2 11 [.agg ((Manifest.enc p0).map .t),.agg [.i p1.fHave,.s p1.fBuf]] h (fun _=>impl_BuildOk_ok) (fun r1 h=>?_)
  refine Runs.c2 2 13 h (fun h=>?_) (fun h=>?_)
  ·refine Runs.cl false 2 16 [.agg ((Manifest.enc p0).map .t),.agg [.i p1.fHave,.s p1.fBuf]] h (fun _=>impl_Missing_ok) (fun r2 h=>?_)
   refine Runs.alln ?_
   obtain rfl:=oi h
   exact Wp.ret RetB
  refine Runs.alln ?_
  obtain rfl:=oi h
  exact Wp.ret RetB
 refine Runs.alln ?_
 obtain rfl:=oi h
 exact Wp.ret RetB
theorem impl_isGen_ok {u p0 r} (h:impl_isGen u p0=some r):CallOK Tryz.prog 105 [V.i p0] (V.b r) []:=by
 unfold impl_isGen at h
 refine ofb Tryz.f105 false ?_
 refine Wp.sa ?_
 refine Wp.cl false 1 4 [.i p0,.i 0,.i 1000000] h (fun _=>impl_within_ok) (fun r1 h=>?_)
 obtain rfl:=oi h
 exact Wp.ret RetB
theorem impl_isSlot_ok {u p0 r} (h:impl_isSlot u p0=some r):CallOK Tryz.prog 312 [V.i p0] (V.b r) []:=by
 unfold impl_isSlot at h
 refine ofb Tryz.f312 false ?_
 refine Wp.sa ?_
 refine Wp.sr ?_
 refine Runs.c2 3 5 h (fun h=>?_) (fun h=>?_)
 ·refine Runs.alln ?_
  obtain rfl:=oi h
  exact Wp.ret RetB
 refine Runs.alln ?_
 obtain rfl:=oi h
 exact Wp.ret RetB
theorem impl_isRecord_ok {u p0 r} (h:impl_isRecord u p0=some r):CallOK Tryz.prog 252 [V.g (Record.enc p0)] (V.b r) []:=by
 unfold impl_isRecord at h
 refine ofb Tryz.f252 false ?_
 refine Wp.sa ?_
 refine Wp.sr ?_
 refine Runs.cl false 2 5 [.i p0.fGen] h (fun _=>impl_isGen_ok) (fun r1 h=>?_)
 refine Runs.c2 1 6 h (fun h=>?_) (fun h=>?_)
 ·refine Runs.cl false 2 9 [.i p0.fSlot] h (fun _=>impl_isSlot_ok) (fun r2 h=>?_)
  refine Runs.c2 2 11 h (fun h=>?_) (fun h=>?_)
  ·refine Runs.cl false 2 14 [.i p0.fLen,.i 0,.i 240] h (fun _=>impl_within_ok) (fun r3 h=>?_)
   refine Runs.alln ?_
   obtain rfl:=oi h
   exact Wp.ret RetB
  refine Runs.alln ?_
  obtain rfl:=oi h
  exact Wp.ret RetB
 refine Runs.alln ?_
 obtain rfl:=oi h
 exact Wp.ret RetB
theorem impl_Disk__slot__frz0_ok {u p0 p1 r} (h:impl_Disk__slot__frz0 u p0 p1=some r):CallOK Tryz.prog 176 [.fptr [.sl 1 (p0.fA.map (eInt .u8)),.sl 1 (p0.fB.map (eInt .u8)),.int .i64 p0.fR.fGen,.int .i64 p0.fR.fSlot,.int .i64 p0.fR.fLen,.sl 6 (p0.fP.map Put.enc)],V.i p1] (.fptr [.sl 1 (r.map (eInt .u8))]) []:=by
 unfold impl_Disk__slot__frz0 at h
 refine ofb Tryz.f176 false ?_
 refine Wp.sa ?_
 refine Wp.seq ?_
 refine Wp.sa ?_
 refine Wp.c2 h (fun h=>?_) (fun h=>?_)
 ·refine Wp.sa ?_
  refine Wp.ret ?_
  refine thenR ?_
  obtain rfl:=Option.some.inj h
  exact RetK [.fadr (Disk.enc p0)] (.fptr ([.sl 1 (p0.fA.map (eInt .u8))]++[.sl 1 (p0.fB.map (eInt .u8)),.int .i64 p0.fR.fGen,.int .i64 p0.fR.fSlot,.int .i64 p0.fR.fLen,.sl 6 (p0.fP.map Put.enc)])) [] kr kr (.cut _ _) .nil
 refine Wp.sk ?_
 refine Wp.sa ?_
 refine Wp.ret ?_
 obtain rfl:=Option.some.inj h
 exact RetK [.fadr [.sl 1 (p0.fB.map (eInt .u8)),.int .i64 p0.fR.fGen,.int .i64 p0.fR.fSlot,.int .i64 p0.fR.fLen,.sl 6 (p0.fP.map Put.enc)]] (.fptr ([.sl 1 (p0.fB.map (eInt .u8))]++[.int .i64 p0.fR.fGen,.int .i64 p0.fR.fSlot,.int .i64 p0.fR.fLen,.sl 6 (p0.fP.map Put.enc)])) [] kr kr (.cut _ _) .nil
theorem impl_isPut_ok {u p0 r} (h:impl_isPut u p0=some r):CallOK Tryz.prog 255 [V.g (Put.enc p0)] (V.b r) []:=by
 unfold impl_isPut at h
 refine ofb Tryz.f255 false ?_
 refine Wp.sa ?_
 refine Wp.seq ?_
 refine Wp.sa ?_
 refine Wp.c2 h (fun h=>?_) (fun h=>?_)
 ·refine Wp.sr ?_
  refine Runs.c2 4 9 h (fun h=>?_) (fun h=>?_)
  ·refine Runs.ln 2 5 (eInt .u8) p0.fB ?_
   refine Runs.c2 3 15 h (fun h=>?_) (fun h=>?_)
   ·refine Runs.cl false 2 18 [.agg ((Record.enc p0.fR).map .t)] h (fun _=>impl_isRecord_ok) (fun r1 h=>?_)
    refine Runs.alln ?_
    obtain rfl:=oi h
    exact Wp.ret RetB
   refine Runs.alln ?_
   obtain rfl:=oi h
   exact Wp.ret RetB
  refine Runs.alln ?_
  obtain rfl:=oi h
  exact Wp.ret RetB
 refine Wp.sk ?_
 refine Wp.sr ?_
 refine Runs.cl false 2 22 [.i p0.fWhat] h (fun _=>impl_isSlot_ok) (fun r2 h=>?_)
 refine Runs.c2 1 23 h (fun h=>?_) (fun h=>?_)
 ·refine Runs.c2 6 29 h (fun h=>?_) (fun h=>?_)
  ·refine Runs.ln 4 5 (eInt .u8) p0.fB ?_
   refine Runs.cl false 1 36 [.i p0.fAt,.i 0,.i (bSub .i64 240 ((p0.fB.length:Int)))] h (fun _=>impl_within_ok) (fun r3 h=>?_)
   refine Runs.alln ?_
   obtain rfl:=oi h
   exact Wp.ret RetB
  refine Runs.alln ?_
  obtain rfl:=oi h
  exact Wp.ret RetB
 refine Runs.alln ?_
 obtain rfl:=oi h
 exact Wp.ret RetB
theorem impl_DiskOk_1_ok {u p0 r} (h:impl_DiskOk_1 u p0=some r):CallOK Tryz.prog 254 [V.g (Put.enc p0)] (V.b r) []:=by
 unfold impl_DiskOk_1 at h
 refine ofb Tryz.f254 false ?_
 refine Wp.sa ?_
 refine Wp.cl false 1 4 [.agg ((Put.enc p0).map .t)] h (fun _=>impl_isPut_ok) (fun r1 h=>?_)
 obtain rfl:=oi h
 exact Wp.ret RetB
theorem slices_IndexFunc___impl_Put_impl_Put__impl_DiskOk_1_ok {u p0 r} (h:slices_IndexFunc___impl_Put_impl_Put__impl_DiskOk_1 u p0=some r):CallOK Tryz.prog 313 [.one (.t (.sl 6 (p0.map Put.enc))),.clo 254 []] (V.i r) []:=by
 unfold slices_IndexFunc___impl_Put_impl_Put__impl_DiskOk_1 at h
 refine ofb Tryz.f313 false ?_
 refine Wp.sa ?_
 refine Wp.j0 (slices_IndexFunc___impl_Put_impl_Put__impl_DiskOk_1_j1 u=some r) ⟨[(4,.i 0)],[],[]⟩ (fun h=>?_) ?_
 ·refine Wp.sa ?_
  obtain rfl:=oi h
  exact Wp.ret RetB
 refine Wp.sr ?_
 refine Runs.ln 1 124 Put.enc p0 ?_
 refine Runs.alln ?_
 refine Wp.block ?_
 refine Wp.l2 (fun k_slices_IndexFunc___impl_Put_impl_Put__impl_DiskOk_1_l2 p0 x2=>slices_IndexFunc___impl_Put_impl_Put__impl_DiskOk_1_l2 u k_slices_IndexFunc___impl_Put_impl_Put__impl_DiskOk_1_l2 p0 x2=some r) (fun p0 x2=>⟨[(0,.t (.sl 6 (p0.map Put.enc))),(1,.clo 254 []),(4,.i 0),(7,.i ((p0.length:Int))),(8,.i x2)],[],[]⟩) (fun k_slices_IndexFunc___impl_Put_impl_Put__impl_DiskOk_1_l2 p0 x2 h=>?_) h (lo []) (fun _ _  h=>nomatch h)
 rw [slices_IndexFunc___impl_Put_impl_Put__impl_DiskOk_1_l2] at h
 refine Wp.sa ?_
 refine Wp.seq ?_
 refine Wp.c2 h (fun h=>?_) (fun h=>?_)
 ·refine Wp.sk ?_
  refine Wp.seq ?_
  refine Wp.block ?_
  refine Wp.sa ?_
  refine Wp.sr ?_
  refine Runs.ix 3 124 6 Put.enc h (fun y4 h _=>?_)
  refine Runs.cl false 1 16 [.agg ((Put.enc y4).map .t)] h (fun _=>impl_DiskOk_1_ok) (fun r5 h=>?_)
  refine Runs.alln ?_
  refine Wp.c2 h (fun h=>?_) (fun h=>?_)
  ·refine Wp.sa ?_
   obtain rfl:=oi h
   exact Wp.ret RetB
  refine Wp.skip ?_
  refine blkN ?_
  refine thenN ?_
  refine Wp.rg [] [] ?_
  refine Runs.alln ?_
  exact ⟨_,_,h,lo []⟩
 refine Wp.exit ?_
 refine thenE ?_
 refine thenE ?_
 refine blkE ?_
 refine thenN ?_
 exact ⟨h,lo []⟩
theorem slices_ContainsFunc___impl_Put_impl_Put__impl_DiskOk_1_ok {u p0 r} (h:slices_ContainsFunc___impl_Put_impl_Put__impl_DiskOk_1 u p0=some r):CallOK Tryz.prog 253 [.one (.t (.sl 6 (p0.map Put.enc))),.clo 254 []] (V.b r) []:=by
 unfold slices_ContainsFunc___impl_Put_impl_Put__impl_DiskOk_1 at h
 refine ofb Tryz.f253 false ?_
 refine Wp.sa ?_
 refine Wp.cl false 2 7 [.t (.sl 6 (p0.map Put.enc)),.clo 254 []] h (fun _=>slices_IndexFunc___impl_Put_impl_Put__impl_DiskOk_1_ok) (fun r1 h=>?_)
 obtain rfl:=oi h
 exact Wp.ret RetB
theorem impl_DiskOk_ok {u p0 r} (h:impl_DiskOk u p0=some r):CallOK Tryz.prog 175 [V.g (Disk.enc p0)] (V.b r) []:=by
 unfold impl_DiskOk at h
 refine ofb Tryz.f175 false ?_
 refine Wp.sa ?_
 refine Wp.seq ?_
 refine Wp.j2 (fun p0 x3=>impl_DiskOk_j1 u p0 x3=some r) (fun p0 x3=>⟨[(1,.fadr (Disk.enc p0)),(2,.b false),(31,.b x3)],[],[]⟩) (fun p0 x3 h=>?_) ?_
 ·refine Wp.c2 h (fun h=>?_) (fun h=>?_)
  ·refine Wp.sa ?_
   obtain rfl:=oi h
   exact Wp.ret RetB
  refine Wp.sk ?_
  refine Wp.sr ?_
  refine Runs.ln 2 124 Put.enc p0.fP ?_
  refine Runs.c2 2 36 h (fun h=>?_) (fun h=>?_)
  ·refine Runs.cl false 2 39 [.t (.sl 6 (p0.fP.map Put.enc)),.clo 254 []] h (fun _=>slices_ContainsFunc___impl_Put_impl_Put__impl_DiskOk_1_ok) (fun r4 h=>?_)
   refine Runs.alln ?_
   obtain rfl:=oi h
   exact Wp.ret RetB
  refine Runs.alln ?_
  obtain rfl:=oi h
  exact Wp.ret RetB
 refine Wp.le (Le.frzOb 1 (Disk.enc p0) kr kr) ?_
 refine Wp.regionA (pOf []) (rhoOf [(1,.frz),(3,.frz),(4,.frz),(5,.frz),(6,.frz),(7,.frz),(8,.frz),(9,.frz),(10,.frz),(12,.frz),(13,.frz),(14,.frz),(15,.frz),(16,.frz),(18,.frz),(19,.frz),(20,.frz),(21,.frz),(22,.frz),(23,.frz),(24,.frz),(25,.frz),(26,.frz),(27,.frz),(28,.frz),(29,.frz)]) kr kr ?_
 refine Runs.ln 2 5 (eInt .u8) p0.fA ?_
 refine Runs.c2 2 7 h (fun h=>?_) (fun h=>?_)
 ·refine Runs.alln ?_
  exact ⟨_,_,h,lo []⟩
 refine Runs.ln 2 5 (eInt .u8) p0.fB ?_
 refine Runs.c2 3 13 h (fun h=>?_) (fun h=>?_)
 ·refine Runs.alln ?_
  exact ⟨_,_,h,lo []⟩
 refine Runs.cl false 2 16 [.agg ((Record.enc p0.fR).map .t)] h (fun _=>impl_isRecord_ok) (fun r1 h=>?_)
 refine Runs.c2 3 19 h (fun h=>?_) (fun h=>?_)
 ·refine Runs.alln ?_
  exact ⟨_,_,h,lo []⟩
 refine Runs.cl false 6 26 [.fadr (Disk.enc p0),.i p0.fR.fSlot] h (fun _=>impl_Disk__slot__frz0_ok) (fun r2 h=>?_)
 refine Runs.ln 2 5 (eInt .u8) r2 ?_
 refine Runs.alln ?_
 exact ⟨_,_,h,lo []⟩
theorem impl_Slice_ok {u p0 p1 p2 r} (h:impl_Slice u p0 p1 p2=some r):CallOK Tryz.prog 244 [.one (.s p0),V.i p1,V.i p2] (.tup [.one (.ow 5 1 (r.1.map (eInt .u8))),V.b r.2]) []:=by
 unfold impl_Slice at h
 refine ofb Tryz.f244 true ?_
 refine Wp.sa ?_
 refine Wp.seq ?_
 refine Wp.j4 (fun p0 p1 p2 x3=>impl_Slice_j1 u p0 p1 p2 x3=some r) (fun p0 p1 p2 x3=>⟨[(0,.s p0),(1,.i p1),(2,.i p2),(6,.nil),(7,.b false),(21,.b x3)],[],[]⟩) (fun p0 p1 p2 x3 h=>?_) ?_
 ·refine Wp.c2 h (fun h=>?_) (fun h=>?_)
  ·refine Wp.sa ?_
   obtain rfl:=oi h
   exact Wp.ret RetB
  refine Wp.sk ?_
  refine Wp.sr ?_
  refine Runs.batch 5 kr ?_
  obtain ⟨_,e_4,h⟩:=bind_some h
  refine Runs.subsl (e:=5) (ax:=.s p0) (alo:=(some (.i p1))) (ahi:=(some (.i (bAdd .i64 p1 p2)))) (eInt .u8) p0 1 p1 (bAdd .i64 p1 p2) rfl kr kr kr kr kr kr kr kr kr kr kr (chk_some e_4) ?_
  refine Runs.cl false 0 28 [.t (.sl 1 (((p0.take (Int.toNat (bAdd .i64 p1 p2))).drop (Int.toNat p1)).map (eInt .u8)))] h (fun _=>impl_cloned_ok) (fun r5 h=>?_)
  refine Runs.alln ?_
  obtain rfl:=oi h
  exact Wp.ret RetB
 refine Wp.rg [] [] ?_
 refine Runs.ln 2 5 (eInt .u8) p0 ?_
 refine Runs.cl false 0 11 [.i p1,.i 0,.i ((p0.length:Int))] h (fun _=>impl_within_ok) (fun r1 h=>?_)
 refine Runs.c2 2 13 h (fun h=>?_) (fun h=>?_)
 ·refine Runs.alln ?_
  exact ⟨_,_,_,_,h,lo []⟩
 refine Runs.ln 2 5 (eInt .u8) p0 ?_
 refine Runs.cl false 2 19 [.i p2,.i 0,.i (bSub .i64 ((p0.length:Int)) p1)] h (fun _=>impl_within_ok) (fun r2 h=>?_)
 refine Runs.alln ?_
 exact ⟨_,_,_,_,h,lo []⟩
theorem impl_BlockAt_ok {u p0 p1 p2 r} (h:impl_BlockAt u p0 p1 p2=some r):CallOK Tryz.prog 163 [.one (.s p0),V.i p1,V.i p2] (.tup [.one (.ow 5 1 (r.1.map (eInt .u8))),V.b r.2]) []:=by
 unfold impl_BlockAt at h
 refine ofb Tryz.f163 true ?_
 refine Wp.sa ?_
 refine Wp.sr ?_
 refine Runs.ln 2 5 (eInt .u8) p0 ?_
 refine Runs.cl false 1 15 [.i p1,.i ((p0.length:Int)),.i p2] h (fun _=>impl_SpanOf_ok) (fun r1 h=>?_)
 refine Runs.alln ?_
 refine Wp.seq ?_
 refine Wp.sa ?_
 refine Wp.c2 h (fun h=>?_) (fun h=>?_)
 ·refine Wp.sa ?_
  obtain rfl:=oi h
  exact Wp.ret RetB
 refine Wp.sk ?_
 refine Wp.cl false 3 23 [.s p0,.i r1.1,.i r1.2] h (fun _=>impl_Slice_ok) (fun r2 h=>?_)
 obtain rfl:=oi h
 exact Wp.ret RetB
theorem impl_Spare_ok {u p0 r} (h:impl_Spare u p0=some r):CallOK Tryz.prog 192 [V.g (Disk.enc p0)] (V.i r) []:=by
 unfold impl_Spare at h
 refine ofb Tryz.f192 false ?_
 refine Wp.sa ?_
 refine Wp.sa ?_
 obtain rfl:=oi h
 exact Wp.ret RetB
theorem impl_cloned_okd {u p0 r} (h:impl_cloned u p0=some r):DOK Tryz.prog 106 [.one (.s p0)] (.one (.ow 5 1 (r.map (eInt .u8)))):=by
 unfold impl_cloned at h
 refine DOK.of_bodyK (fn:=Tryz.f106) (m:=true) kr rfl kr kr kr ?_
 refine Wp.sa ?_
 refine Wp.sr ?_
 refine Runs.batch 1 kr ?_
 refine Runs.lenX (e:=5) (eInt .u8) p0 false 1 rfl rfl rfl kr kr kr kr ?_
 obtain ⟨_,e_1,h⟩:=bind_some h
 obtain ⟨_,e_2,h⟩:=bind_some h
 refine Runs.mkS (eInt .u8) (0:Int) 5 5 1 1 0 ((p0.length:Int)) rfl rfl kr kr kr kr kr kr (chk_some e_1) (of_decide_eq_true (chk_some e_2)) kr ?_
 refine Runs.batch 1 kr ?_
 obtain ⟨_,e_3,h⟩:=bind_some h
 refine Runs.appT (y:=.ext false (.sl 1 (p0.map (eInt .u8)))) (eInt .u8) 7 1 5 1 1 327680 (List.replicate (Int.toNat 0) (0:Int)) p0 rfl rfl rfl rfl kr kr kr kr kr (rows_extI _ _ _) (.inl rfl) kr (of_decide_eq_true (chk_some e_3)) kr kr ?_
 refine Runs.alln ?_
 obtain rfl:=oi h
 exact Wp.ret RetB
theorem impl_copyPut_okd {u p0 r} (h:impl_copyPut u p0=some r):DOK Tryz.prog 186 [V.g (Put.enc p0)] (V.w [0,0,5,0,0,0] (Put.enc r)):=by
 unfold impl_copyPut at h
 refine DOK.of_bodyK (fn:=Tryz.f186) (m:=true) kr rfl kr kr kr ?_
 refine Wp.sa ?_
 refine Wp.sr ?_
 refine Runs.batch 2 kr ?_
 obtain ⟨r1,e_r1,h⟩:=bind_some h
 refine Runs.callDK 5 106 [] [.ext false (.sl 1 (p0.fB.map (eInt .u8)))] [.one (.s p0.fB)] (.one (.ow 5 1 (r1.map (eInt .u8)))) rfl rfl kr kr kr kr kr (impl_cloned_okd e_r1) kr ?_
 refine Runs.alln ?_
 refine Wp.sa ?_
 obtain rfl:=oi h
 exact Wp.ret RetB
theorem impl_copyDisk_okd {u p0 r} (h:impl_copyDisk u p0=some r):DOK Tryz.prog 110 [V.g (Disk.enc p0)] (V.w [5,5,0,0,0,124] (Disk.enc r)):=by
 unfold impl_copyDisk at h
 refine DOK.of_bodyK (fn:=Tryz.f110) (m:=true) kr rfl kr kr kr ?_
 refine Wp.sa ?_
 refine Wp.seq ?_
 refine Wp.regionA (pOf []) (rhoOf [(1,.obj 1),(3,.obj 3),(6,.obj 1),(7,.frz),(8,.own 8),(9,.obj 1),(10,.frz),(11,.own 11),(12,.obj 1),(13,.frz)]) kr kr ?_
 refine Runs.batch 2 kr ?_
 obtain ⟨r1,e_r1,h⟩:=bind_some h
 refine Runs.callDK 8 106 [] [.ext false (.sl 1 (p0.fA.map (eInt .u8)))] [.one (.s p0.fA)] (.one (.ow 5 1 (r1.map (eInt .u8)))) rfl rfl kr kr kr kr kr (impl_cloned_okd e_r1) kr ?_
 refine Runs.batch 2 kr ?_
 obtain ⟨r2,e_r2,h⟩:=bind_some h
 refine Runs.callDK 11 106 [] [.ext false (.sl 1 (p0.fB.map (eInt .u8)))] [.one (.s p0.fB)] (.one (.ow 5 1 (r2.map (eInt .u8)))) rfl rfl kr kr kr kr kr (impl_cloned_okd e_r2) kr ?_
 refine Runs.alln ?_
 refine Wp.j4 (fun r1 r2 p0 x11=>impl_copyDisk_j1 u r1 r2 p0 x11=some r) (fun r1 r2 p0 x11=>⟨[(2,.obj 2 0),(3,.obj 3 0)],[(2,[.nil,.nil,.i 0,.i 0,.i 0,.nil]),(3,[.own 197120,.own 197121,.i p0.fR.fGen,.i p0.fR.fSlot,.i p0.fR.fLen,.own 197125])],[(197120,.live 5 1 (r1.map (eInt .u8))),(197121,.live 5 1 (r2.map (eInt .u8))),(197125,.live 124 6 (x11.map Put.enc))]⟩) (fun r1 r2 p0 x11 h=>?_) ?_
 ·refine Wp.sa ?_
  obtain rfl:=oi h
  exact Wp.ret RetB
 refine Wp.sr ?_
 refine Runs.batch 2 kr ?_
 refine Runs.lenX (e:=124) Put.enc p0.fP false 6 rfl rfl rfl kr kr kr kr ?_
 refine Runs.alln ?_
 refine Wp.block ?_
 refine Wp.l5 (fun k_impl_copyDisk_l2 p0 x5 r1 r2 x6=>impl_copyDisk_l2 u k_impl_copyDisk_l2 p0 x5 r1 r2 x6=some r) (fun p0 x5 r1 r2 x6=>⟨[(2,.obj 2 0),(3,.obj 3 0),(16,.ext false (.sl 6 (p0.fP.map Put.enc))),(17,.i ((p0.fP.length:Int))),(18,.i x5)],[(2,[.nil,.nil,.i 0,.i 0,.i 0,.nil]),(3,[.own 197120,.own 197121,.i p0.fR.fGen,.i p0.fR.fSlot,.i p0.fR.fLen,.own 197125])],[(197120,.live 5 1 (r1.map (eInt .u8))),(197121,.live 5 1 (r2.map (eInt .u8))),(197125,.live 124 6 (x6.map Put.enc))]⟩) (fun k_impl_copyDisk_l2 p0 x5 r1 r2 x6 h=>?_) h (Le.trans (Le.emptyO 3 5 197125 124 6 [.own 524288,.own 720896,.i p0.fR.fGen,.i p0.fR.fSlot,.i p0.fR.fLen,.nil] kr kr kr) (lo [(197120,524288),(197121,720896)])) (fun _ _ _ _ _  h=>nomatch h)
 rw [impl_copyDisk_l2] at h
 refine Wp.sa ?_
 refine Wp.seq ?_
 refine Wp.c2 h (fun h=>?_) (fun h=>?_)
 ·refine Wp.sk ?_
  refine Wp.seq ?_
  refine Wp.block ?_
  refine Wp.sr ?_
  obtain ⟨y9,e_y9,h⟩:=bind_some h
  refine Runs.idxX (e:=124) (kk:=.i64) (sz:=6) Put.enc p0.fP x5 false rfl kr kr kr kr kr kr e_y9 ?_
  refine Runs.alln ?_
  refine Wp.regionA (pOf []) (rhoOf [(3,.obj 3),(5,.obj 5),(22,.obj 3),(23,.own 3),(24,.frz),(25,.own 25),(26,.own 26),(27,.own 27),(28,.obj 3)]) kr kr ?_
  refine Runs.batch 3 kr ?_
  obtain ⟨r10,e_r10,h⟩:=bind_some h
  refine Runs.callDK 25 186 [] [.agg [.i y9.fWhat,.i y9.fAt,.ext false (.sl 1 (y9.fB.map (eInt .u8))),.i y9.fR.fGen,.i y9.fR.fSlot,.i y9.fR.fLen]] [.agg ((Put.enc y9).map .t)] (V.w [0,0,5,0,0,0] (Put.enc r10)) rfl rfl kr kr kr kr kr (impl_copyPut_okd e_r10) kr ?_
  refine Runs.ap (ys:=[r10]) 1 27 124 6 197125 Put.enc h (fun h=>?_)
  refine Runs.all kr ?_
  refine blkN ?_
  refine thenN ?_
  refine Wp.rg [] [] ?_
  refine Runs.alln ?_
  exact ⟨_,_,_,_,_,h,lo [(197125,1769472)]⟩
 refine Wp.exit ?_
 refine thenE ?_
 refine thenE ?_
 refine blkE ?_
 refine thenN ?_
 exact ⟨_,_,_,_,h,lo []⟩
theorem impl_Disk__with_okd {u p0 p1 r} (h:impl_Disk__with u p0 p1=some r):DOK Tryz.prog 269 [V.g (Disk.enc p0),V.g (Put.enc p1)] (.tup [V.w [5,5,0,0,0,124] (Disk.enc r.1),V.b r.2]):=by
 unfold impl_Disk__with at h
 refine DOK.of_bodyK (fn:=Tryz.f269) (m:=true) kr rfl kr kr kr ?_
 refine Wp.sa ?_
 refine Wp.sr ?_
 refine Runs.batch 1 kr ?_
 obtain ⟨r1,e_r1,h⟩:=bind_some h
 refine Runs.callDK 8 110 [] [.agg [.ext false (.sl 1 (p0.fA.map (eInt .u8))),.ext false (.sl 1 (p0.fB.map (eInt .u8))),.i p0.fR.fGen,.i p0.fR.fSlot,.i p0.fR.fLen,.ext false (.sl 6 (p0.fP.map Put.enc))]] [.agg ((Disk.enc p0).map .t)] (V.w [5,5,0,0,0,124] (Disk.enc r1)) rfl rfl kr kr kr kr kr (impl_copyDisk_okd e_r1) kr ?_
 refine Runs.alln ?_
 refine Wp.seq ?_
 refine Wp.regionA (pOf []) (rhoOf [(3,.obj 3),(6,.obj 6),(9,.obj 6),(10,.own 8),(11,.frz),(12,.own 12),(13,.own 13),(14,.own 14),(15,.obj 6)]) kr kr ?_
 refine Runs.batch 3 kr ?_
 obtain ⟨r2,e_r2,h⟩:=bind_some h
 refine Runs.callDK 12 186 [] [.agg [.i p1.fWhat,.i p1.fAt,.ext false (.sl 1 (p1.fB.map (eInt .u8))),.i p1.fR.fGen,.i p1.fR.fSlot,.i p1.fR.fLen]] [.agg ((Put.enc p1).map .t)] (V.w [0,0,5,0,0,0] (Put.enc r2)) rfl rfl kr kr kr kr kr (impl_copyPut_okd e_r2) kr ?_
 refine Runs.ap (ys:=[r2]) 1 14 124 6 524293 Put.enc h (fun h=>?_)
 refine Runs.alln ?_
 refine Wp.seq ?_
 refine Wp.sr ?_
 refine Runs.cb 1 17 [.agg [.own 524288,.own 524289,.i r1.fR.fGen,.i r1.fR.fSlot,.i r1.fR.fLen,.own 917504]] h (fun _=>impl_DiskOk_ok) (fun r4 h=>?_)
 refine Runs.alln ?_
 refine Wp.c2 h (fun h=>?_) (fun h=>?_)
 ·refine Wp.sr ?_
  refine Runs.batch 1 kr ?_
  obtain ⟨r5,e_r5,h⟩:=bind_some h
  refine Runs.callDK 20 110 [] [.agg [.ext false (.sl 1 (p0.fA.map (eInt .u8))),.ext false (.sl 1 (p0.fB.map (eInt .u8))),.i p0.fR.fGen,.i p0.fR.fSlot,.i p0.fR.fLen,.ext false (.sl 6 (p0.fP.map Put.enc))]] [.agg ((Disk.enc p0).map .t)] (V.w [5,5,0,0,0,124] (Disk.enc r5)) rfl rfl kr kr kr kr kr (impl_copyDisk_okd e_r5) kr ?_
  refine Runs.alln ?_
  obtain rfl:=oi h
  exact Wp.ret RetB
 refine Wp.sk ?_
 refine Wp.sa ?_
 obtain rfl:=oi h
 exact Wp.ret RetB
theorem impl_PutBytes_okd {u p0 p1 p2 p3 r} (h:impl_PutBytes u p0 p1 p2 p3=some r):DOK Tryz.prog 267 [V.g (Disk.enc p0),V.i p1,V.i p2,.one (.s p3)] (.tup [V.w [5,5,0,0,0,124] (Disk.enc r.1),V.b r.2]):=by
 unfold impl_PutBytes at h
 refine DOK.of_bodyK (fn:=Tryz.f267) (m:=true) kr rfl kr kr kr ?_
 refine Wp.sa ?_
 refine Wp.seq ?_
 refine Wp.cl false 1 11 [.i p1] h (fun _=>impl_isSlot_ok) (fun r1 h=>?_)
 refine Wp.c2 h (fun h=>?_) (fun h=>?_)
 ·refine Wp.sr ?_
  refine Runs.batch 1 kr ?_
  obtain ⟨r2,e_r2,h⟩:=bind_some h
  refine Runs.callDK 14 110 [] [.agg [.ext false (.sl 1 (p0.fA.map (eInt .u8))),.ext false (.sl 1 (p0.fB.map (eInt .u8))),.i p0.fR.fGen,.i p0.fR.fSlot,.i p0.fR.fLen,.ext false (.sl 6 (p0.fP.map Put.enc))]] [.agg ((Disk.enc p0).map .t)] (V.w [5,5,0,0,0,124] (Disk.enc r2)) rfl rfl kr kr kr kr kr (impl_copyDisk_okd e_r2) kr ?_
  refine Runs.alln ?_
  obtain rfl:=oi h
  exact Wp.ret RetB
 refine Wp.sk ?_
 refine Wp.sr ?_
 refine Runs.batch 5 kr ?_
 obtain ⟨r3,e_r3,h⟩:=bind_some h
 refine Runs.callDK 20 269 [] [.agg [.ext false (.sl 1 (p0.fA.map (eInt .u8))),.ext false (.sl 1 (p0.fB.map (eInt .u8))),.i p0.fR.fGen,.i p0.fR.fSlot,.i p0.fR.fLen,.ext false (.sl 6 (p0.fP.map Put.enc))],.agg [.i p1,.i p2,.ext false (.sl 1 (p3.map (eInt .u8))),.i 0,.i 0,.i 0]] [.agg ((Disk.enc p0).map .t),.agg [.i p1,.i p2,.s p3,.i 0,.i 0,.i 0]] (.tup [V.w [5,5,0,0,0,124] (Disk.enc r3.1),V.b r3.2]) rfl rfl kr kr kr kr kr (impl_Disk__with_okd e_r3) kr ?_
 refine Runs.alln ?_
 obtain rfl:=oi h
 exact Wp.ret RetB
theorem impl_StageAll_ok {u p0 p1 p2 r} (h:impl_StageAll u p0 p1 p2=some r):CallOK Tryz.prog 189 [V.g (Disk.enc p0),.one (.s p1),V.i p2] (.tup [V.w [5,5,0,0,0,124] (Disk.enc r.1),V.b r.2]) []:=by
 unfold impl_StageAll at h
 refine ofb Tryz.f189 true ?_
 refine Wp.sa ?_
 refine Wp.seq ?_
 refine Wp.j4 (fun p1 p2 x3 p0=>impl_StageAll_j1 u p1 p2 x3 p0=some r) (fun p1 p2 x3 p0=>⟨[(1,.s p1),(2,.i p2),(3,.obj 3 0),(6,.obj 6 0),(7,.b false),(29,.b x3)],[(3,((Disk.enc p0).map .t)),(6,[.nil,.nil,.i 0,.i 0,.i 0,.nil])],[]⟩) (fun p1 p2 x3 p0 h=>?_) ?_
 ·refine Wp.c2 h (fun h=>?_) (fun h=>?_)
  ·refine Wp.cl false 1 31 [.agg ((Disk.enc p0).map .t)] h (fun _=>impl_copyDisk_ok) (fun r4 h=>?_)
   obtain rfl:=oi h
   exact Wp.ret RetB
  refine Wp.sk ?_
  refine Wp.cl false 1 33 [.agg ((Disk.enc p0).map .t)] h (fun _=>impl_copyDisk_ok) (fun r5 h=>?_)
  refine Wp.j6 (fun x32 x33 x34 x35 x36 x37=>impl_StageAll_j2 u x32 x33 x34 x35 x36 x37=some r) (fun x32 x33 x34 x35 x36 x37=>⟨[(6,.obj 6 0),(7,.b false),(8,.obj 8 0)],[(6,[.nil,.nil,.i 0,.i 0,.i 0,.nil]),(8,[.own 524800,.own 524801,.i x34,.i x35,.i x36,.own 524805])],[(524800,.live 5 1 (x32.map (eInt .u8))),(524801,.live 5 1 (x33.map (eInt .u8))),(524805,.live 124 6 (x37.map Put.enc))]⟩) (fun x32 x33 x34 x35 x36 x37 h=>?_) ?_
  ·refine Wp.sa ?_
   obtain rfl:=oi h
   exact Wp.ret RetB
  refine Wp.sr ?_
  refine Runs.ln 2 5 (eInt .u8) p1 ?_
  refine Runs.cl false 0 37 [.i p2,.i ((p1.length:Int))] h (fun _=>impl_Blocks_ok) (fun r6 h=>?_)
  refine Runs.alln ?_
  refine Wp.block ?_
  refine Wp.l11 (fun k_impl_StageAll_l3 p1 p2 r6 x14 x15 x16 x17 x18 x19 x20 p0=>impl_StageAll_l3 u k_impl_StageAll_l3 p1 p2 r6 x14 x15 x16 x17 x18 x19 x20 p0=some r) (fun p1 p2 r6 x14 x15 x16 x17 x18 x19 x20 p0=>⟨[(1,.s p1),(2,.i p2),(3,.obj 3 0),(6,.obj 6 0),(7,.b false),(8,.obj 8 0),(37,.i r6),(38,.i x14)],[(3,((Disk.enc p0).map .t)),(6,[.nil,.nil,.i 0,.i 0,.i 0,.nil]),(8,[.own 524800,.own 524801,.i x17,.i x18,.i x19,.own 524805])],[(524800,.live 5 1 (x15.map (eInt .u8))),(524801,.live 5 1 (x16.map (eInt .u8))),(524805,.live 124 6 (x20.map Put.enc))]⟩) (fun k_impl_StageAll_l3 p1 p2 r6 x14 x15 x16 x17 x18 x19 x20 p0 h=>?_) h (lo [(524800,2162688),(524801,2162689),(524805,2162693)]) (fun _ _ _ _ _ _ _ _ _ _ _  h=>nomatch h)
  rw [impl_StageAll_l3] at h
  refine Wp.sa ?_
  refine Wp.seq ?_
  refine Wp.c2 h (fun h=>?_) (fun h=>?_)
  ·refine Wp.sk ?_
   refine Wp.seq ?_
   refine Wp.block ?_
   refine Wp.sa ?_
   refine Wp.cl false 3 45 [.s p1,.i p2,.i x14] h (fun _=>impl_BlockAt_ok) (fun r28 h=>?_)
   refine Wp.seq ?_
   refine Wp.le (Le.trans (Le.frzO 8 0 524800 5 1 [.own 524800,.own 524801,.i x17,.i x18,.i x19,.own 524805] (x15.map (eInt .u8)) kr kr kr) (Le.trans (Le.frzO 8 1 524801 5 1 [.s x15,.own 524801,.i x17,.i x18,.i x19,.own 524805] (x16.map (eInt .u8)) kr kr kr) (Le.frzO 8 5 524805 124 6 [.s x15,.s x16,.i x17,.i x18,.i x19,.own 524805] (x20.map Put.enc) kr kr kr))) ?_
   refine Wp.regionA (pOf []) (rhoOf [(2,.frz),(3,.obj 3),(8,.obj 8),(9,.frz),(10,.own 45),(12,.obj 12),(49,.frz),(50,.frz),(51,.frz),(52,.frz),(53,.frz),(54,.frz),(55,.own 45),(57,.own 56),(58,.frz)]) kr kr ?_
   refine Runs.cl false 2 51 [.agg ((Disk.enc p0).map .t)] h (fun _=>impl_Spare_ok) (fun r29 h=>?_)
   refine Runs.batch 4 kr ?_
   obtain ⟨r30,e_r30,h⟩:=bind_some h
   refine Runs.callDK 56 267 [] [.agg [.s x15,.s x16,.i x17,.i x18,.i x19,.t (.sl 6 (x20.map Put.enc))],.i r29,.i (bMul .i64 x14 p2),.own 2949120] [.agg [.s x15,.s x16,.i x17,.i x18,.i x19,.t (.sl 6 (x20.map Put.enc))],.one (.i r29),.one (.i (bMul .i64 x14 p2)),.one (.s r28.1)] (.tup [V.w [5,5,0,0,0,124] (Disk.enc r30.1),V.b r30.2]) rfl rfl kr kr kr kr kr (impl_PutBytes_okd e_r30) kr ?_
   refine Runs.alln ?_
   refine Wp.seq ?_
   refine Wp.sa ?_
   refine Wp.c2 h (fun h=>?_) (fun h=>?_)
   ·refine Wp.cl false 1 62 [.agg ((Disk.enc p0).map .t)] h (fun _=>impl_copyDisk_ok) (fun r31 h=>?_)
    obtain rfl:=oi h
    exact Wp.ret RetB
   refine Wp.sk ?_
   refine Wp.rg [] [] ?_
   refine Runs.all kr ?_
   refine blkN ?_
   refine thenN ?_
   refine Wp.rg [] [] ?_
   refine Runs.alln ?_
   exact ⟨_,_,_,_,_,_,_,_,_,_,_,h,lo [(524800,3670016),(524801,3670017),(524805,3670021)]⟩
  refine Wp.exit ?_
  refine thenE ?_
  refine thenE ?_
  refine blkE ?_
  refine thenN ?_
  exact ⟨_,_,_,_,_,_,h,lo []⟩
 refine Wp.rg [] [] ?_
 refine Runs.cl false 1 15 [.agg ((Disk.enc p0).map .t)] h (fun _=>impl_DiskOk_ok) (fun r1 h=>?_)
 refine Runs.c2 2 17 h (fun h=>?_) (fun h=>?_)
 ·refine Runs.alln ?_
  exact ⟨_,_,_,_,h,lo []⟩
 refine Runs.ln 2 124 Put.enc p0.fP ?_
 refine Runs.c2 3 23 h (fun h=>?_) (fun h=>?_)
 ·refine Runs.alln ?_
  exact ⟨_,_,_,_,h,lo []⟩
 refine Runs.ln 2 5 (eInt .u8) p1 ?_
 refine Runs.cl false 0 27 [.i p2,.i ((p1.length:Int))] h (fun _=>impl_SizeOk_ok) (fun r2 h=>?_)
 refine Runs.alln ?_
 exact ⟨_,_,_,_,h,lo []⟩
theorem impl_Sure_1_ok {u p0 r} (h:impl_Sure_1 u p0=some r):CallOK Tryz.prog 268 [V.i p0] (V.b r) []:=by
 unfold impl_Sure_1 at h
 refine ofb Tryz.f268 false ?_
 refine Wp.sa ?_
 refine Wp.sa ?_
 obtain rfl:=oi h
 exact Wp.ret RetB
theorem impl_Disk__slot__own_p0_fA_p0_fB_p0_fP_ok {u p0 p1 r} (h:impl_Disk__slot u p0 p1=some r):IntoOK Tryz.prog 176 [.ptr (cw [5,5,0,0,0,124] (Disk.enc p0)),V.i p1] r.1 [cw [5,5,0,0,0,124] (Disk.enc r.2)]:=by
 unfold impl_Disk__slot at h
 refine IntoOK.of_bodyK (fn:=Tryz.f176) [.obj 900 0,.i p1] kr rfl kr kr kr kr kr rfl ?_
 refine Wp.sa ?_
 refine Wp.seq ?_
 refine Wp.sa ?_
 refine Wp.c2 h (fun h=>?_) (fun h=>?_)
 ·refine Wp.sa ?_
  refine Wp.ret ?_
  refine thenR ?_
  obtain rfl:=Option.some.inj h
  exact RetIK [[.ow 5 1 (p0.fA.map (eInt .u8)),.ow 5 1 (p0.fB.map (eInt .u8)),.i p0.fR.fGen,.i p0.fR.fSlot,.i p0.fR.fLen,.ow 124 6 (p0.fP.map Put.enc)]] kr kr (.cons ((.cons (.refl _) (.cons (.refl _) (.cons (.refl _) (.cons (.refl _) (.cons (.refl _) (.cons (.refl _) .nil))))))) .nil)
 refine Wp.sk ?_
 refine Wp.sa ?_
 refine Wp.ret ?_
 obtain rfl:=Option.some.inj h
 exact RetIK [[.ow 5 1 (p0.fA.map (eInt .u8)),.ow 5 1 (p0.fB.map (eInt .u8)),.i p0.fR.fGen,.i p0.fR.fSlot,.i p0.fR.fLen,.ow 124 6 (p0.fP.map Put.enc)]] kr kr (.cons ((.cons (.refl _) (.cons (.refl _) (.cons (.refl _) (.cons (.refl _) (.cons (.refl _) (.cons (.refl _) .nil))))))) .nil)
theorem impl_Disk__perform__own_p0_fP_ok {u p0 p1 r} (h:impl_Disk__perform u p0 p1=some r):CallOK Tryz.prog 246 [.ptr (cw [5,5,0,0,0,124] (Disk.enc p0)),V.g (Put.enc p1)] (.tup []) [cw [5,5,0,0,0,124] (Disk.enc r)]:=by
 unfold impl_Disk__perform at h
 refine ofb Tryz.f246 false ?_
 refine Wp.sa ?_
 refine Wp.seq ?_
 refine Wp.sa ?_
 refine Wp.c2 h (fun h=>?_) (fun h=>?_)
 ·refine Wp.sa ?_
  obtain rfl:=oi h
  exact Wp.ret RetB
 refine Wp.sk ?_
 refine Wp.sr ?_
 refine Runs.batch 3 kr ?_
 obtain ⟨r1,e_r1,h⟩:=bind_some h
 rcases tf (Nat.beq r1.1 0) with hc_r1 | hc_r1
 ·have h:=cond_t h hc_r1
  refine Runs.callIK true 16 176 [] [.obj 900 0,.i p1.fWhat] [.ptr [.ow 5 1 (p0.fA.map (eInt .u8)),.ow 5 1 (p0.fB.map (eInt .u8)),.i p0.fR.fGen,.i p0.fR.fSlot,.i p0.fR.fLen,.ow 124 6 (p0.fP.map Put.enc)],.one (.i p1.fWhat)] 900 0 ([cw [5,5,0,0,0,124] (Disk.enc r1.2)]) rfl rfl kr kr kr kr kr (IntoOK.to hc_r1 (impl_Disk__slot__own_p0_fA_p0_fB_p0_fP_ok e_r1)) kr kr ?_
  refine Runs.alln ?_
  refine Wp.j3 (fun p1 x9 r1=>impl_Disk__perform_j3 u p1 x9 r1=some r) (fun p1 x9 r1=>⟨[(3,.obj 3 0),(4,.obj 900 0)],[(3,((Put.enc p1).map .t)),(900,[.own 58982912,.own 58982913,.i r1.2.fR.fGen,.i r1.2.fR.fSlot,.i r1.2.fR.fLen,.own 58982917])],[(58982912,.live 5 1 (x9.map (eInt .u8))),(58982913,.live 5 1 (r1.2.fB.map (eInt .u8))),(58982917,.live 124 6 (r1.2.fP.map Put.enc))]⟩) (fun p1 x9 r1 h=>?_) ?_
  ·refine Wp.regionA (pOf []) (rhoOf [(3,.obj 3),(4,.obj 900),(35,.obj 900),(36,.obj 900),(37,.own 900),(38,.obj 3),(39,.frz),(40,.win 900),(41,.obj 3),(42,.frz)]) kr kr ?_
   refine Runs.batch 5 kr ?_
   obtain ⟨_,e_10,h⟩:=bind_some h
   refine Runs.subO (e:=5) (e':=5) (alo:=(some (.i p1.fAt))) (eInt .u8) x9 58982912 1 p1.fAt rfl kr kr kr kr kr kr kr kr kr (chk_some e_10) ?_
   refine Runs.batch 2 kr ?_
   refine Runs.copyO (y:=.s p1.fB) (e:=5) (e':=5) (eInt .u8) x9 p1.fB 58982912 (Int.toNat p1.fAt) 1 rfl rfl rfl kr kr kr kr kr (.inl rfl) kr kr kr (sub_le (chk_some e_10)) ?_
   refine Runs.all kr ?_
   obtain rfl:=oi h
   exact RetBn
  refine Wp.block ?_
  refine Wp.l3 (fun k_impl_Disk__perform_l4 p1 x7 r1=>impl_Disk__perform_l4 u k_impl_Disk__perform_l4 p1 x7 r1=some r) (fun p1 x7 r1=>⟨[(3,.obj 3 0),(4,.obj 900 0)],[(3,((Put.enc p1).map .t)),(900,[.own 58982912,.own 58982913,.i r1.2.fR.fGen,.i r1.2.fR.fSlot,.i r1.2.fR.fLen,.own 58982917])],[(58982912,.live 5 1 (x7.map (eInt .u8))),(58982913,.live 5 1 (r1.2.fB.map (eInt .u8))),(58982917,.live 124 6 (r1.2.fP.map Put.enc))]⟩) (fun k_impl_Disk__perform_l4 p1 x7 r1 h=>?_) h (lo [(58982912,1107200),(58982913,1107201),(58982917,1107205)]) (fun _ _ _  h=>nomatch h)
  rw [impl_Disk__perform_l4] at h
  refine Wp.seq ?_
  refine Wp.seq ?_
  refine Wp.regionA (pOf []) (rhoOf [(3,.obj 3),(4,.obj 900),(17,.obj 900),(18,.obj 900),(19,.own 900),(20,.frz),(21,.obj 3),(22,.frz),(23,.obj 3),(24,.frz),(25,.frz),(26,.frz)]) kr kr ?_
  refine Runs.ln 3 5 (eInt .u8) x7 ?_
  refine Runs.ln 4 5 (eInt .u8) p1.fB ?_
  refine Runs.alln ?_
  refine Wp.c2 h (fun h=>?_) (fun h=>?_)
  ·refine Wp.sk ?_
   refine Wp.block ?_
   refine Wp.rg [] [] ?_
   refine Runs.ap 5 33 5 1 58982912 (eInt .u8) h (fun h=>?_)
   refine Runs.all kr ?_
   refine blkN ?_
   refine thenN ?_
   exact ⟨_,_,_,h,lo [(58982912,2162688)]⟩
  refine Wp.exit ?_
  refine thenE ?_
  refine thenE ?_
  refine blkE ?_
  refine thenN ?_
  exact ⟨_,_,_,h,lo []⟩
 have h:=cond_f h hc_r1
 rcases tf (Nat.beq r1.1 1) with hc_r1 | hc_r1
 ·have h:=cond_t h hc_r1
  refine Runs.callIK true 16 176 [] [.obj 900 0,.i p1.fWhat] [.ptr [.ow 5 1 (p0.fA.map (eInt .u8)),.ow 5 1 (p0.fB.map (eInt .u8)),.i p0.fR.fGen,.i p0.fR.fSlot,.i p0.fR.fLen,.ow 124 6 (p0.fP.map Put.enc)],.one (.i p1.fWhat)] 900 1 ([cw [5,5,0,0,0,124] (Disk.enc r1.2)]) rfl rfl kr kr kr kr kr (IntoOK.to hc_r1 (impl_Disk__slot__own_p0_fA_p0_fB_p0_fP_ok e_r1)) kr kr ?_
  refine Runs.alln ?_
  refine Wp.j3 (fun p1 r1 x5=>impl_Disk__perform_j1 u p1 r1 x5=some r) (fun p1 r1 x5=>⟨[(3,.obj 3 0),(4,.obj 900 1)],[(3,((Put.enc p1).map .t)),(900,[.own 58982912,.own 58982913,.i r1.2.fR.fGen,.i r1.2.fR.fSlot,.i r1.2.fR.fLen,.own 58982917])],[(58982912,.live 5 1 (r1.2.fA.map (eInt .u8))),(58982913,.live 5 1 (x5.map (eInt .u8))),(58982917,.live 124 6 (r1.2.fP.map Put.enc))]⟩) (fun p1 r1 x5 h=>?_) ?_
  ·refine Wp.regionA (pOf []) (rhoOf [(3,.obj 3),(4,.obj 900),(35,.obj 900),(36,.obj 900),(37,.own 900),(38,.obj 3),(39,.frz),(40,.win 900),(41,.obj 3),(42,.frz)]) kr kr ?_
   refine Runs.batch 5 kr ?_
   obtain ⟨_,e_6,h⟩:=bind_some h
   refine Runs.subO (e:=5) (e':=5) (alo:=(some (.i p1.fAt))) (eInt .u8) x5 58982913 1 p1.fAt rfl kr kr kr kr kr kr kr kr kr (chk_some e_6) ?_
   refine Runs.batch 2 kr ?_
   refine Runs.copyO (y:=.s p1.fB) (e:=5) (e':=5) (eInt .u8) x5 p1.fB 58982913 (Int.toNat p1.fAt) 1 rfl rfl rfl kr kr kr kr kr (.inl rfl) kr kr kr (sub_le (chk_some e_6)) ?_
   refine Runs.all kr ?_
   obtain rfl:=oi h
   exact RetBn
  refine Wp.block ?_
  refine Wp.l3 (fun k_impl_Disk__perform_l2 p1 r1 x3=>impl_Disk__perform_l2 u k_impl_Disk__perform_l2 p1 r1 x3=some r) (fun p1 r1 x3=>⟨[(3,.obj 3 0),(4,.obj 900 1)],[(3,((Put.enc p1).map .t)),(900,[.own 58982912,.own 58982913,.i r1.2.fR.fGen,.i r1.2.fR.fSlot,.i r1.2.fR.fLen,.own 58982917])],[(58982912,.live 5 1 (r1.2.fA.map (eInt .u8))),(58982913,.live 5 1 (x3.map (eInt .u8))),(58982917,.live 124 6 (r1.2.fP.map Put.enc))]⟩) (fun k_impl_Disk__perform_l2 p1 r1 x3 h=>?_) h (lo [(58982912,1107200),(58982913,1107201),(58982917,1107205)]) (fun _ _ _  h=>nomatch h)
  rw [impl_Disk__perform_l2] at h
  refine Wp.seq ?_
  refine Wp.seq ?_
  refine Wp.regionA (pOf []) (rhoOf [(3,.obj 3),(4,.obj 900),(17,.obj 900),(18,.obj 900),(19,.own 900),(20,.frz),(21,.obj 3),(22,.frz),(23,.obj 3),(24,.frz),(25,.frz),(26,.frz)]) kr kr ?_
  refine Runs.ln 3 5 (eInt .u8) x3 ?_
  refine Runs.ln 4 5 (eInt .u8) p1.fB ?_
  refine Runs.alln ?_
  refine Wp.c2 h (fun h=>?_) (fun h=>?_)
  ·refine Wp.sk ?_
   refine Wp.block ?_
   refine Wp.rg [] [] ?_
   refine Runs.ap 5 33 5 1 58982913 (eInt .u8) h (fun h=>?_)
   refine Runs.all kr ?_
   refine blkN ?_
   refine thenN ?_
   exact ⟨_,_,_,h,lo [(58982913,2162688)]⟩
  refine Wp.exit ?_
  refine thenE ?_
  refine thenE ?_
  refine blkE ?_
  refine thenN ?_
  exact ⟨_,_,_,h,lo []⟩
 have h:=cond_f h hc_r1
 cases h
theorem impl_Disk__settled__impl_Sure_1_ok {u p0 r} (h:impl_Disk__settled__impl_Sure_1 u p0=some r):CallOK Tryz.prog 166 [V.g (Disk.enc p0),.clo 268 []] (V.w [5,5,0,0,0,124] (Disk.enc r)) []:=by
 unfold impl_Disk__settled__impl_Sure_1 at h
 refine ofb Tryz.f166 true ?_
 refine Wp.sa ?_
 refine Wp.cl false 1 9 [.agg ((Disk.enc p0).map .t)] h (fun _=>impl_copyDisk_ok) (fun r1 h=>?_)
 refine Wp.seq ?_
 refine Wp.cl false 1 11 [.agg ((Disk.enc p0).map .t)] h (fun _=>impl_DiskOk_ok) (fun r2 h=>?_)
 refine Wp.c2 h (fun h=>?_) (fun h=>?_)
 ·refine Wp.sa ?_
  obtain rfl:=oi h
  exact Wp.ret RetB
 refine Wp.sk ?_
 refine Wp.j6 (fun x33 x34 x35 x36 x37 x38=>impl_Disk__settled__impl_Sure_1_j1 u x33 x34 x35 x36 x37 x38=some r) (fun x33 x34 x35 x36 x37 x38=>⟨[(4,.obj 4 0),(5,.obj 5 0)],[(4,[.nil,.nil,.i 0,.i 0,.i 0,.nil]),(5,[.own 328192,.own 328193,.i x35,.i x36,.i x37,.own 328197])],[(328192,.live 5 1 (x33.map (eInt .u8))),(328193,.live 5 1 (x34.map (eInt .u8))),(328197,.live 124 6 (x38.map Put.enc))]⟩) (fun x33 x34 x35 x36 x37 x38 h=>?_) ?_
 ·refine Wp.sa ?_
  refine Wp.sa ?_
  obtain rfl:=oi h
  exact Wp.ret RetB
 refine Wp.sr ?_
 refine Runs.ln 2 124 Put.enc p0.fP ?_
 refine Runs.alln ?_
 refine Wp.block ?_
 refine Wp.l8 (fun k_impl_Disk__settled__impl_Sure_1_l2 p0 x10 x11 x12 x13 x14 x15 x16=>impl_Disk__settled__impl_Sure_1_l2 u k_impl_Disk__settled__impl_Sure_1_l2 p0 x10 x11 x12 x13 x14 x15 x16=some r) (fun p0 x10 x11 x12 x13 x14 x15 x16=>⟨[(1,.clo 268 []),(4,.obj 4 0),(5,.obj 5 0),(15,.t (.sl 6 (p0.fP.map Put.enc))),(16,.i ((p0.fP.length:Int))),(17,.i x10)],[(4,[.nil,.nil,.i 0,.i 0,.i 0,.nil]),(5,[.own 328192,.own 328193,.i x13,.i x14,.i x15,.own 328197])],[(328192,.live 5 1 (x11.map (eInt .u8))),(328193,.live 5 1 (x12.map (eInt .u8))),(328197,.live 124 6 (x16.map Put.enc))]⟩) (fun k_impl_Disk__settled__impl_Sure_1_l2 p0 x10 x11 x12 x13 x14 x15 x16 h=>?_) h (lo [(328192,589824),(328193,589825),(328197,589829)]) (fun _ _ _ _ _ _ _ _  h=>nomatch h)
 rw [impl_Disk__settled__impl_Sure_1_l2] at h
 refine Wp.sa ?_
 refine Wp.seq ?_
 refine Wp.c2 h (fun h=>?_) (fun h=>?_)
 ·refine Wp.sk ?_
  refine Wp.j8 (fun p0 x10 x27 x28 x29 x30 x31 x32=>impl_Disk__settled__impl_Sure_1_j3 u (fun z0 z1 z2 z3 z4 z5 z6 z7=>impl_Disk__settled__impl_Sure_1_l2 u k_impl_Disk__settled__impl_Sure_1_l2 z0 z1 z2 z3 z4 z5 z6 z7) p0 x10 x27 x28 x29 x30 x31 x32=some r) (fun p0 x10 x27 x28 x29 x30 x31 x32=>⟨[(1,.clo 268 []),(4,.obj 4 0),(5,.obj 5 0),(15,.t (.sl 6 (p0.fP.map Put.enc))),(16,.i ((p0.fP.length:Int))),(17,.i x10)],[(4,[.nil,.nil,.i 0,.i 0,.i 0,.nil]),(5,[.own 328192,.own 328193,.i x29,.i x30,.i x31,.own 328197])],[(328192,.live 5 1 (x27.map (eInt .u8))),(328193,.live 5 1 (x28.map (eInt .u8))),(328197,.live 124 6 (x32.map Put.enc))]⟩) (fun p0 x10 x27 x28 x29 x30 x31 x32 h=>?_) ?_
  ·refine Wp.rg [] [] ?_
   refine Runs.alln ?_
   exact ⟨_,_,_,_,_,_,_,_,h,lo []⟩
  refine Wp.block ?_
  refine Wp.sr ?_
  refine Runs.ix 1 124 6 Put.enc h (fun y24 h _=>?_)
  refine Runs.alln ?_
  refine Wp.cl false 2 24 [.i x10] h (fun _=>impl_Sure_1_ok) (fun r25 h=>?_)
  refine Wp.c2 h (fun h=>?_) (fun h=>?_)
  ·refine Wp.rg [] [] ?_
   refine Runs.cl true 1 26 [.obj 5 0,.agg ((Put.enc y24).map .t)] h (fun _=>impl_Disk__perform__own_p0_fP_ok) (fun r26 h=>?_)
   refine Runs.all kr ?_
   refine blkN ?_
   refine thenN ?_
   exact ⟨_,_,_,_,_,_,_,_,h,lo [(328192,1705280),(328193,1705281),(328197,1705285)]⟩
  refine Wp.skip ?_
  refine blkN ?_
  refine thenN ?_
  exact ⟨_,_,_,_,_,_,_,_,h,lo []⟩
 refine Wp.exit ?_
 refine thenE ?_
 refine thenE ?_
 refine blkE ?_
 refine thenN ?_
 exact ⟨_,_,_,_,_,_,h,lo []⟩
theorem impl_Sure_ok {u p0 r} (h:impl_Sure u p0=some r):CallOK Tryz.prog 190 [V.g (Disk.enc p0)] (V.w [5,5,0,0,0,124] (Disk.enc r)) []:=by
 unfold impl_Sure at h
 refine ofb Tryz.f190 true ?_
 refine Wp.sa ?_
 refine Wp.cl false 1 4 [.agg ((Disk.enc p0).map .t),.clo 268 []] h (fun _=>impl_Disk__settled__impl_Sure_1_ok) (fun r1 h=>?_)
 obtain rfl:=oi h
 exact Wp.ret RetB
theorem impl_Disk__with_ok {u p0 p1 r} (h:impl_Disk__with u p0 p1=some r):CallOK Tryz.prog 269 [V.g (Disk.enc p0),V.g (Put.enc p1)] (.tup [V.w [5,5,0,0,0,124] (Disk.enc r.1),V.b r.2]) []:=by
 unfold impl_Disk__with at h
 refine ofb Tryz.f269 true ?_
 refine Wp.sa ?_
 refine Wp.cl false 1 8 [.agg ((Disk.enc p0).map .t)] h (fun _=>impl_copyDisk_ok) (fun r1 h=>?_)
 refine Wp.seq ?_
 refine Wp.regionA (pOf []) (rhoOf [(3,.obj 3),(6,.obj 6),(9,.obj 6),(10,.own 8),(11,.frz),(12,.own 12),(13,.own 13),(14,.own 14),(15,.obj 6)]) kr kr ?_
 refine Runs.cl false 3 12 [.agg ((Put.enc p1).map .t)] h (fun _=>impl_copyPut_ok) (fun r2 h=>?_)
 refine Runs.ap (ys:=[r2]) 1 14 124 6 524293 Put.enc h (fun h=>?_)
 refine Runs.alln ?_
 refine Wp.seq ?_
 refine Wp.sr ?_
 refine Runs.cb 1 17 [.agg [.own 524288,.own 524289,.i r1.fR.fGen,.i r1.fR.fSlot,.i r1.fR.fLen,.own 917504]] h (fun _=>impl_DiskOk_ok) (fun r4 h=>?_)
 refine Runs.alln ?_
 refine Wp.c2 h (fun h=>?_) (fun h=>?_)
 ·refine Wp.cl false 1 20 [.agg ((Disk.enc p0).map .t)] h (fun _=>impl_copyDisk_ok) (fun r5 h=>?_)
  obtain rfl:=oi h
  exact Wp.ret RetB
 refine Wp.sk ?_
 refine Wp.sa ?_
 obtain rfl:=oi h
 exact Wp.ret RetB
theorem impl_PutRecord_ok {u p0 p1 r} (h:impl_PutRecord u p0 p1=some r):CallOK Tryz.prog 191 [V.g (Disk.enc p0),V.g (Record.enc p1)] (.tup [V.w [5,5,0,0,0,124] (Disk.enc r.1),V.b r.2]) []:=by
 unfold impl_PutRecord at h
 refine ofb Tryz.f191 true ?_
 refine Wp.sa ?_
 refine Wp.cl false 3 9 [.agg ((Disk.enc p0).map .t),.agg [.i 2,.i 0,.nil,.i p1.fGen,.i p1.fSlot,.i p1.fLen]] h (fun _=>impl_Disk__with_ok) (fun r1 h=>?_)
 obtain rfl:=oi h
 exact Wp.ret RetB
theorem impl_NextCommit_ok {u p0 p1 p2 p3 r} (h:impl_NextCommit u p0 p1 p2 p3=some r):CallOK Tryz.prog 113 [V.g (Disk.enc p0),V.g (Manifest.enc p1),V.g (Build.enc p2),V.i p3] (.tup [V.w [5,5,0,0,0,124] (Disk.enc r.1),V.i r.2]) []:=by
 unfold impl_NextCommit at h
 refine ofb Tryz.f113 true ?_
 refine Wp.sa ?_
 refine Wp.j2 (fun p3 p0=>impl_NextCommit_j1 u p3 p0=some r) (fun p3 p0=>⟨[(3,.i p3),(4,.obj 4 0),(8,.obj 8 0),(9,.i 0)],[(4,((Disk.enc p0).map .t)),(8,[.nil,.nil,.i 0,.i 0,.i 0,.nil])],[]⟩) (fun p3 p0 h=>?_) ?_
 ·refine Wp.cl false 1 57 [.agg ((Disk.enc p0).map .t)] h (fun _=>impl_copyDisk_ok) (fun r7 h=>?_)
  obtain rfl:=oi h
  exact Wp.ret RetB
 refine Wp.sa ?_
 refine Wp.block ?_
 refine Wp.sa ?_
 refine Wp.c2 h (fun h=>?_) (fun h=>?_)
 ·refine Wp.seq ?_
  refine Wp.cl false 2 19 [.agg ((Manifest.enc p1).map .t),.agg [.i p2.fHave,.s p2.fBuf]] h (fun _=>impl_Whole_ok) (fun r1 h=>?_)
  refine Wp.c2 h (fun h=>?_) (fun h=>?_)
  ·refine Wp.exit ?_
   refine thenE ?_
   refine blkE ?_
   refine thenN ?_
   exact ⟨_,_,h,lo []⟩
  refine Wp.sk ?_
  refine Wp.cl false 5 27 [.agg ((Disk.enc p0).map .t),.s p2.fBuf,.i p1.fSize] h (fun _=>impl_StageAll_ok) (fun r2 h=>?_)
  refine Wp.sa ?_
  refine Wp.c2 h (fun h=>?_) (fun h=>?_)
  ·refine Wp.sa ?_
   obtain rfl:=oi h
   exact Wp.ret RetB
  refine Wp.skip ?_
  refine blkN ?_
  refine thenN ?_
  exact ⟨_,_,h,lo []⟩
 refine Wp.sa ?_
 refine Wp.c2 h (fun h=>?_) (fun h=>?_)
 ·refine Wp.cl false 1 35 [.agg ((Disk.enc p0).map .t)] h (fun _=>impl_Sure_ok) (fun r3 h=>?_)
  obtain rfl:=oi h
  exact Wp.ret RetB
 refine Wp.sa ?_
 refine Wp.c2 h (fun h=>?_) (fun h=>?_)
 ·refine Wp.seq ?_
  refine Wp.regionA (pOf []) (rhoOf [(4,.obj 4),(5,.obj 5),(12,.obj 12),(39,.frz),(40,.obj 5),(41,.frz),(42,.frz),(43,.frz),(44,.obj 5),(45,.frz),(46,.frz),(48,.own 47),(49,.frz)]) kr kr ?_
  refine Runs.cl false 4 43 [.agg ((Disk.enc p0).map .t)] h (fun _=>impl_Spare_ok) (fun r4 h=>?_)
  refine Runs.cl false 3 47 [.agg ((Disk.enc p0).map .t),.agg [.i p1.fGen,.i r4,.i p1.fLen]] h (fun _=>impl_PutRecord_ok) (fun r5 h=>?_)
  refine Runs.alln ?_
  refine Wp.sa ?_
  refine Wp.c2 h (fun h=>?_) (fun h=>?_)
  ·refine Wp.sa ?_
   obtain rfl:=oi h
   exact Wp.ret RetB
  refine Wp.skip ?_
  refine blkN ?_
  refine thenN ?_
  exact ⟨_,_,h,lo []⟩
 refine Wp.sa ?_
 refine Wp.c2 h (fun h=>?_) (fun h=>?_)
 ·refine Wp.cl false 1 55 [.agg ((Disk.enc p0).map .t)] h (fun _=>impl_Sure_ok) (fun r6 h=>?_)
  obtain rfl:=oi h
  exact Wp.ret RetB
 refine Wp.skip ?_
 refine blkN ?_
 refine thenN ?_
 exact ⟨_,_,h,lo []⟩
theorem impl_LackOf_ok {u p0 r} (h:impl_LackOf u p0=some r):CallOK Tryz.prog 194 [V.g (Node.enc p0)] (V.i r) []:=by
 unfold impl_LackOf at h
 refine ofb Tryz.f194 false ?_
 refine Wp.sa ?_
 refine Wp.seq ?_
 refine Wp.sa ?_
 refine Wp.c2 h (fun h=>?_) (fun h=>?_)
 ·refine Wp.sa ?_
  obtain rfl:=oi h
  exact Wp.ret RetB
 refine Wp.sk ?_
 refine Wp.cl false 4 10 [.agg ((Manifest.enc p0.fMan).map .t),.agg [.i p0.fBld.fHave,.s p0.fBld.fBuf]] h (fun _=>impl_Missing_ok) (fun r1 h=>?_)
 obtain rfl:=oi h
 exact Wp.ret RetB
theorem impl_PartsIn_ok {u p0 r} (h:impl_PartsIn u p0=some r):CallOK Tryz.prog 139 [V.i p0] (.one (.ow 3 1 (r.map (eInt .i64)))) []:=by
 unfold impl_PartsIn at h
 refine ofb Tryz.f139 true ?_
 refine Wp.sa ?_
 refine Wp.sa ?_
 refine Wp.j1 (fun x9=>impl_PartsIn_j1 u x9=some r) (fun x9=>⟨[(2,.nil),(3,.own 196609)],[],[(196609,.live 3 1 (x9.map (eInt .i64)))]⟩) (fun x9 h=>?_) ?_
 ·refine Wp.sa ?_
  obtain rfl:=oi h
  exact Wp.ret RetB
 refine Wp.sa ?_
 refine Wp.block ?_
 refine Wp.l3 (fun k_impl_PartsIn_l2 p0 x3 x4=>impl_PartsIn_l2 u k_impl_PartsIn_l2 p0 x3 x4=some r) (fun p0 x3 x4=>⟨[(0,.i p0),(2,.nil),(3,.own 196609),(6,.i x4)],[],[(196609,.live 3 1 (x3.map (eInt .i64)))]⟩) (fun k_impl_PartsIn_l2 p0 x3 x4 h=>?_) h (lo [(196609,327680)]) (fun _ _ _  h=>nomatch h)
 rw [impl_PartsIn_l2] at h
 refine Wp.sa ?_
 refine Wp.seq ?_
 refine Wp.c2 h (fun h=>?_) (fun h=>?_)
 ·refine Wp.sk ?_
  refine Wp.j3 (fun p0 x8 x4=>impl_PartsIn_j3 u (fun z0 z1 z2=>impl_PartsIn_l2 u k_impl_PartsIn_l2 z0 z1 z2) p0 x8 x4=some r) (fun p0 x8 x4=>⟨[(0,.i p0),(2,.nil),(3,.own 196609),(6,.i x4)],[],[(196609,.live 3 1 (x8.map (eInt .i64)))]⟩) (fun p0 x8 x4 h=>?_) ?_
  ·refine Wp.rg [] [] ?_
   refine Runs.alln ?_
   exact ⟨_,_,_,h,lo []⟩
  refine Wp.block ?_
  refine Wp.sa ?_
  refine Wp.cl false 2 11 [.i p0,.i x4] h (fun _=>impl_InSet_ok) (fun r7 h=>?_)
  refine Wp.c2 h (fun h=>?_) (fun h=>?_)
  ·refine Wp.rg [] [] ?_
   refine Runs.ap 3 15 3 1 196609 (eInt .i64) h (fun h=>?_)
   refine Runs.all kr ?_
   refine blkN ?_
   refine thenN ?_
   exact ⟨_,_,_,h,lo [(196609,983040)]⟩
  refine Wp.skip ?_
  refine blkN ?_
  refine thenN ?_
  exact ⟨_,_,_,h,lo []⟩
 refine Wp.exit ?_
 refine thenE ?_
 refine thenE ?_
 refine blkE ?_
 refine thenN ?_
 exact ⟨_,h,lo []⟩
theorem impl_FirstOf_ok {u p0 p1 r} (h:impl_FirstOf u p0 p1=some r):CallOK Tryz.prog 193 [V.i p0,V.i p1] (V.i r) []:=by
 unfold impl_FirstOf at h
 refine ofb Tryz.f193 false ?_
 refine Wp.sa ?_
 refine Wp.sa ?_
 refine Wp.j1 (fun x12=>impl_FirstOf_j1 u x12=some r) (fun x12=>⟨[(4,.i 0),(5,.i x12)],[],[]⟩) (fun x12 h=>?_) ?_
 ·refine Wp.sa ?_
  obtain rfl:=oi h
  exact Wp.ret RetB
 refine Wp.sr ?_
 refine Runs.cl false 1 9 [.i p0] h (fun _=>impl_PartsIn_ok) (fun r1 h=>?_)
 refine Runs.ln 0 3 (eInt .i64) r1 ?_
 refine Runs.alln ?_
 refine Wp.block ?_
 refine Wp.l4 (fun k_impl_FirstOf_l2 x5 x6 r1 x7=>impl_FirstOf_l2 u k_impl_FirstOf_l2 x5 x6 r1 x7=some r) (fun x5 x6 r1 x7=>⟨[(1,.i x5),(4,.i 0),(5,.i x6),(9,.own 589825),(10,.i ((r1.length:Int))),(11,.i x7)],[],[(589825,.live 3 1 (r1.map (eInt .i64)))]⟩) (fun k_impl_FirstOf_l2 x5 x6 r1 x7 h=>?_) h (lo [(589825,589824)]) (fun _ _ _ _  h=>nomatch h)
 rw [impl_FirstOf_l2] at h
 refine Wp.sa ?_
 refine Wp.seq ?_
 refine Wp.c2 h (fun h=>?_) (fun h=>?_)
 ·refine Wp.sk ?_
  refine Wp.seq ?_
  refine Wp.block ?_
  refine Wp.sr ?_
  refine Runs.ixo 0 3 1 589825 3 (eInt .i64) h (fun y11 h e_y11=>?_)
  refine Runs.ld 0 1 1 589825 0 3 false (eInt .i64) ((idx_some e_y11).2) ?_
  refine Runs.alln ?_
  refine Wp.seq ?_
  refine Wp.sa ?_
  refine Wp.c2 h (fun h=>?_) (fun h=>?_)
  ·refine Wp.exit ?_
   refine thenE ?_
   refine blkX kr ?_
   refine thenE ?_
   refine thenE ?_
   refine blkE ?_
   refine thenN ?_
   exact ⟨_,h,lo []⟩
  refine Wp.sk ?_
  refine Wp.sr ?_
  refine Runs.batch 2 kr ?_
  obtain ⟨_,e_12,h⟩:=bind_some h
  refine Runs.num .shl (.int .i64 1) (.int .i64 y11) (.int .i64 (bShl .i64 1 y11)) rfl kr kr kr kr (bin_shl _ _ _ _ _ (chk_some e_12)) ?_
  refine Runs.alln ?_
  refine Wp.rg [] [] ?_
  refine Runs.all kr ?_
  refine blkN ?_
  refine thenN ?_
  refine Wp.rg [] [] ?_
  refine Runs.alln ?_
  exact ⟨_,_,_,_,h,lo []⟩
 refine Wp.exit ?_
 refine thenE ?_
 refine thenE ?_
 refine blkE ?_
 refine thenN ?_
 exact ⟨_,h,lo []⟩
theorem impl_WantOf_ok {u p0 p1 r} (h:impl_WantOf u p0 p1=some r):CallOK Tryz.prog 115 [V.g (Node.enc p0),V.i p1] (V.i r) []:=by
 unfold impl_WantOf at h
 refine ofb Tryz.f115 false ?_
 refine Wp.sa ?_
 refine Wp.sr ?_
 refine Runs.cl false 1 6 [.agg ((Node.enc p0).map .t)] h (fun _=>impl_LackOf_ok) (fun r1 h=>?_)
 refine Runs.cl false 1 8 [.i r1,.i p1] h (fun _=>impl_FirstOf_ok) (fun r2 h=>?_)
 refine Runs.alln ?_
 obtain rfl:=oi h
 exact Wp.ret RetB
theorem impl_DoneOf_1_ok {u p0 r} (h:impl_DoneOf_1 u p0=some r):CallOK Tryz.prog 215 [V.g (Kid.enc p0)] (V.i r) []:=by
 unfold impl_DoneOf_1 at h
 refine ofb Tryz.f215 false ?_
 refine Wp.sa ?_
 refine Wp.sa ?_
 obtain rfl:=oi h
 exact Wp.ret RetB
theorem impl_unionOf__impl_DoneOf_1_ok {u p0 r} (h:impl_unionOf__impl_DoneOf_1 u p0=some r):CallOK Tryz.prog 214 [.one (.t (.sl 5 (p0.map Kid.enc))),.clo 215 []] (V.i r) []:=by
 unfold impl_unionOf__impl_DoneOf_1 at h
 refine ofb Tryz.f214 false ?_
 refine Wp.sa ?_
 refine Wp.sa ?_
 refine Wp.j1 (fun x11=>impl_unionOf__impl_DoneOf_1_j1 u x11=some r) (fun x11=>⟨[(4,.i 0),(5,.i x11)],[],[]⟩) (fun x11 h=>?_) ?_
 ·refine Wp.sa ?_
  obtain rfl:=oi h
  exact Wp.ret RetB
 refine Wp.sr ?_
 refine Runs.ln 1 188 Kid.enc p0 ?_
 refine Runs.alln ?_
 refine Wp.block ?_
 refine Wp.l3 (fun k_impl_unionOf__impl_DoneOf_1_l2 x3 p0 x4=>impl_unionOf__impl_DoneOf_1_l2 u k_impl_unionOf__impl_DoneOf_1_l2 x3 p0 x4=some r) (fun x3 p0 x4=>⟨[(1,.clo 215 []),(4,.i 0),(5,.i x3),(9,.t (.sl 5 (p0.map Kid.enc))),(10,.i ((p0.length:Int))),(11,.i x4)],[],[]⟩) (fun k_impl_unionOf__impl_DoneOf_1_l2 x3 p0 x4 h=>?_) h (lo []) (fun _ _ _  h=>nomatch h)
 rw [impl_unionOf__impl_DoneOf_1_l2] at h
 refine Wp.sa ?_
 refine Wp.seq ?_
 refine Wp.c2 h (fun h=>?_) (fun h=>?_)
 ·refine Wp.sk ?_
  refine Wp.j3 (fun x10 p0 x4=>impl_unionOf__impl_DoneOf_1_j3 u (fun z0 z1 z2=>impl_unionOf__impl_DoneOf_1_l2 u k_impl_unionOf__impl_DoneOf_1_l2 z0 z1 z2) x10 p0 x4=some r) (fun x10 p0 x4=>⟨[(1,.clo 215 []),(4,.i 0),(5,.i x10),(9,.t (.sl 5 (p0.map Kid.enc))),(10,.i ((p0.length:Int))),(11,.i x4)],[],[]⟩) (fun x10 p0 x4 h=>?_) ?_
  ·refine Wp.rg [] [] ?_
   refine Runs.alln ?_
   exact ⟨_,_,_,h,lo []⟩
  refine Wp.block ?_
  refine Wp.sr ?_
  refine Runs.ix 0 188 5 Kid.enc h (fun y7 h _=>?_)
  refine Runs.alln ?_
  refine Wp.cl false 2 17 [.agg ((Kid.enc y7).map .t)] h (fun _=>impl_DoneOf_1_ok) (fun r8 h=>?_)
  refine Wp.cl false 1 19 [.i r8] h (fun _=>impl_SetOk_ok) (fun r9 h=>?_)
  refine Wp.c2 h (fun h=>?_) (fun h=>?_)
  ·refine Wp.rg [] [] ?_
   refine Runs.all kr ?_
   refine blkN ?_
   refine thenN ?_
   exact ⟨_,_,_,h,lo []⟩
  refine Wp.skip ?_
  refine blkN ?_
  refine thenN ?_
  exact ⟨_,_,_,h,lo []⟩
 refine Wp.exit ?_
 refine thenE ?_
 refine thenE ?_
 refine blkE ?_
 refine thenN ?_
 exact ⟨_,h,lo []⟩
theorem impl_DoneOf_ok {u p0 r} (h:impl_DoneOf u p0=some r):CallOK Tryz.prog 140 [.one (.t (.sl 5 (p0.map Kid.enc)))] (V.i r) []:=by
 unfold impl_DoneOf at h
 refine ofb Tryz.f140 false ?_
 refine Wp.sa ?_
 refine Wp.cl false 1 4 [.t (.sl 5 (p0.map Kid.enc)),.clo 215 []] h (fun _=>impl_unionOf__impl_DoneOf_1_ok) (fun r1 h=>?_)
 obtain rfl:=oi h
 exact Wp.ret RetB
theorem impl_WithPart_ok {u p0 p1 r} (h:impl_WithPart u p0 p1=some r):CallOK Tryz.prog 195 [V.i p0,V.i p1] (V.i r) []:=by
 unfold impl_WithPart at h
 refine ofb Tryz.f195 false ?_
 refine Wp.sa ?_
 refine Wp.seq ?_
 refine Wp.j3 (fun p0 p1 x3=>impl_WithPart_j1 u p0 p1 x3=some r) (fun p0 p1 x3=>⟨[(0,.i p0),(1,.i p1),(4,.i 0),(12,.b x3)],[],[]⟩) (fun p0 p1 x3 h=>?_) ?_
 ·refine Wp.c2 h (fun h=>?_) (fun h=>?_)
  ·refine Wp.sa ?_
   obtain rfl:=oi h
   exact Wp.ret RetB
  refine Wp.sk ?_
  refine Wp.sr ?_
  refine Runs.batch 2 kr ?_
  obtain ⟨_,e_4,h⟩:=bind_some h
  refine Runs.num .shl (.int .i64 1) (.int .i64 p1) (.int .i64 (bShl .i64 1 p1)) rfl kr kr kr kr (bin_shl _ _ _ _ _ (chk_some e_4)) ?_
  refine Runs.alln ?_
  obtain rfl:=oi h
  exact Wp.ret RetB
 refine Wp.rg [] [] ?_
 refine Runs.cl false 1 6 [.i p0] h (fun _=>impl_SetOk_ok) (fun r1 h=>?_)
 refine Runs.c2 2 8 h (fun h=>?_) (fun h=>?_)
 ·refine Runs.alln ?_
  exact ⟨_,_,_,h,lo []⟩
 refine Runs.cl false 1 10 [.i p1] h (fun _=>impl_isPlace_ok) (fun r2 h=>?_)
 refine Runs.alln ?_
 exact ⟨_,_,_,h,lo []⟩
theorem impl_DoneSet_ok {u p0 p1 r} (h:impl_DoneSet u p0 p1=some r):CallOK Tryz.prog 116 [V.g (Node.enc p0),V.i p1] (V.i r) []:=by
 unfold impl_DoneSet at h
 refine ofb Tryz.f116 false ?_
 refine Wp.sa ?_
 refine Wp.cl false 2 8 [.t (.sl 5 (p0.fKids.map Kid.enc))] h (fun _=>impl_DoneOf_ok) (fun r1 h=>?_)
 refine Wp.j1 (fun x3=>impl_DoneSet_j1 u x3=some r) (fun x3=>⟨[(4,.i 0),(5,.i x3)],[],[]⟩) (fun x3 h=>?_) ?_
 ·refine Wp.sa ?_
  obtain rfl:=oi h
  exact Wp.ret RetB
 refine Wp.sa ?_
 refine Wp.c2 h (fun h=>?_) (fun h=>?_)
 ·refine Wp.rg [] [] ?_
  refine Runs.cl false 2 14 [.i r1,.i p1] h (fun _=>impl_WithPart_ok) (fun r2 h=>?_)
  refine Runs.alln ?_
  exact ⟨_,h,lo []⟩
 refine Wp.sk ?_
 exact ⟨_,h,lo []⟩
theorem impl_WantMsg_ok {u p0 p1 p2 r} (h:impl_WantMsg u p0 p1 p2=some r):CallOK Tryz.prog 114 [V.i p0,V.i p1,V.i p2] (V.w [0,0,0,0,0,177,0,0,0,5] (Msg.enc r)) []:=by
 unfold impl_WantMsg at h
 refine ofb Tryz.f114 true ?_
 refine Wp.sa ?_
 refine Wp.sa ?_
 obtain rfl:=oi h
 exact Wp.ret RetB
theorem impl_Msg__isBare_ok {u p0 p1 p2 p3 r} (h:impl_Msg__isBare u p0 p1 p2 p3=some r):CallOK Tryz.prog 302 [V.g (Msg.enc p0),V.b p1,V.b p2,V.b p3] (V.b r) []:=by
 unfold impl_Msg__isBare at h
 refine ofb Tryz.f302 false ?_
 refine Wp.sa ?_
 refine Wp.sr ?_
 refine Runs.c2 2 10 h (fun h=>?_) (fun h=>?_)
 ·refine Runs.c2 7 17 h (fun h=>?_) (fun h=>?_)
  ·refine Runs.c2 13 30 h (fun h=>?_) (fun h=>?_)
   ·refine Runs.alln ?_
    obtain rfl:=oi h
    exact Wp.ret RetB
   refine Runs.c2 4 34 h (fun h=>?_) (fun h=>?_)
   ·refine Runs.ln 2 5 (eInt .u8) p0.fB ?_
    refine Runs.alln ?_
    obtain rfl:=oi h
    exact Wp.ret RetB
   refine Runs.alln ?_
   obtain rfl:=oi h
   exact Wp.ret RetB
  refine Runs.c2 4 21 h (fun h=>?_) (fun h=>?_)
  ·refine Runs.c2 7 28 h (fun h=>?_) (fun h=>?_)
   ·refine Runs.c2 2 30 h (fun h=>?_) (fun h=>?_)
    ·refine Runs.alln ?_
     obtain rfl:=oi h
     exact Wp.ret RetB
    refine Runs.c2 4 34 h (fun h=>?_) (fun h=>?_)
    ·refine Runs.ln 2 5 (eInt .u8) p0.fB ?_
     refine Runs.alln ?_
     obtain rfl:=oi h
     exact Wp.ret RetB
    refine Runs.alln ?_
    obtain rfl:=oi h
    exact Wp.ret RetB
   refine Runs.alln ?_
   obtain rfl:=oi h
   exact Wp.ret RetB
  refine Runs.alln ?_
  obtain rfl:=oi h
  exact Wp.ret RetB
 refine Runs.cl false 2 13 [.agg ((Manifest.enc p0.fMan).map .t)] h (fun _=>impl_isZeroMan_ok) (fun r1 h=>?_)
 refine Runs.c2 2 15 h (fun h=>?_) (fun h=>?_)
 ·refine Runs.c2 2 17 h (fun h=>?_) (fun h=>?_)
  ·refine Runs.c2 13 30 h (fun h=>?_) (fun h=>?_)
   ·refine Runs.alln ?_
    obtain rfl:=oi h
    exact Wp.ret RetB
   refine Runs.c2 4 34 h (fun h=>?_) (fun h=>?_)
   ·refine Runs.ln 2 5 (eInt .u8) p0.fB ?_
    refine Runs.alln ?_
    obtain rfl:=oi h
    exact Wp.ret RetB
   refine Runs.alln ?_
   obtain rfl:=oi h
   exact Wp.ret RetB
  refine Runs.c2 4 21 h (fun h=>?_) (fun h=>?_)
  ·refine Runs.c2 7 28 h (fun h=>?_) (fun h=>?_)
   ·refine Runs.c2 2 30 h (fun h=>?_) (fun h=>?_)
    ·refine Runs.alln ?_
     obtain rfl:=oi h
     exact Wp.ret RetB
    refine Runs.c2 4 34 h (fun h=>?_) (fun h=>?_)
    ·refine Runs.ln 2 5 (eInt .u8) p0.fB ?_
     refine Runs.alln ?_
     obtain rfl:=oi h
     exact Wp.ret RetB
    refine Runs.alln ?_
    obtain rfl:=oi h
    exact Wp.ret RetB
   refine Runs.alln ?_
   obtain rfl:=oi h
   exact Wp.ret RetB
  refine Runs.alln ?_
  obtain rfl:=oi h
  exact Wp.ret RetB
 refine Runs.alln ?_
 obtain rfl:=oi h
 exact Wp.ret RetB
theorem impl_MsgOk_ok {u p0 r} (h:impl_MsgOk u p0=some r):CallOK Tryz.prog 234 [V.g (Msg.enc p0)] (V.b r) []:=by
 unfold impl_MsgOk at h
 refine ofb Tryz.f234 false ?_
 refine Wp.sa ?_
 refine Wp.seq ?_
 refine Wp.sa ?_
 refine Wp.block ?_
 refine Wp.sa ?_
 refine Wp.c2 h (fun h=>?_) (fun h=>?_)
 ·refine Wp.sr ?_
  refine Runs.cl false 2 9 [.agg ((Manifest.enc p0.fMan).map .t)] h (fun _=>impl_ManOk_ok) (fun r1 h=>?_)
  refine Runs.c2 1 10 h (fun h=>?_) (fun h=>?_)
  ·refine Runs.c2 6 16 h (fun h=>?_) (fun h=>?_)
   ·refine Runs.c2 5 21 h (fun h=>?_) (fun h=>?_)
    ·refine Runs.cl false 1 23 [.agg ((Msg.enc p0).map .t),.b true,.b false,.b false] h (fun _=>impl_Msg__isBare_ok) (fun r2 h=>?_)
     refine Runs.alln ?_
     obtain rfl:=oi h
     exact Wp.ret RetB
    refine Runs.alln ?_
    obtain rfl:=oi h
    exact Wp.ret RetB
   refine Runs.alln ?_
   obtain rfl:=oi h
   exact Wp.ret RetB
  refine Runs.alln ?_
  obtain rfl:=oi h
  exact Wp.ret RetB
 refine Wp.sa ?_
 refine Wp.c2 h (fun h=>?_) (fun h=>?_)
 ·refine Wp.sr ?_
  refine Runs.cl false 2 29 [.i p0.fGen] h (fun _=>impl_isGen_ok) (fun r3 h=>?_)
  refine Runs.c2 1 30 h (fun h=>?_) (fun h=>?_)
  ·refine Runs.cl false 2 33 [.i p0.fWant] h (fun _=>impl_SetOk_ok) (fun r4 h=>?_)
   refine Runs.c2 2 35 h (fun h=>?_) (fun h=>?_)
   ·refine Runs.cl false 2 38 [.i p0.fDone] h (fun _=>impl_SetOk_ok) (fun r5 h=>?_)
    refine Runs.c2 2 40 h (fun h=>?_) (fun h=>?_)
    ·refine Runs.cl false 1 42 [.agg ((Msg.enc p0).map .t),.b false,.b true,.b false] h (fun _=>impl_Msg__isBare_ok) (fun r6 h=>?_)
     refine Runs.alln ?_
     obtain rfl:=oi h
     exact Wp.ret RetB
    refine Runs.alln ?_
    obtain rfl:=oi h
    exact Wp.ret RetB
   refine Runs.alln ?_
   obtain rfl:=oi h
   exact Wp.ret RetB
  refine Runs.alln ?_
  obtain rfl:=oi h
  exact Wp.ret RetB
 refine Wp.sa ?_
 refine Wp.c2 h (fun h=>?_) (fun h=>?_)
 ·refine Wp.sr ?_
  refine Runs.cl false 2 48 [.i p0.fGen,.i 1,.i 1000000] h (fun _=>impl_within_ok) (fun r7 h=>?_)
  refine Runs.c2 1 49 h (fun h=>?_) (fun h=>?_)
  ·refine Runs.cl false 2 52 [.i p0.fI] h (fun _=>impl_isPlace_ok) (fun r8 h=>?_)
   refine Runs.c2 2 54 h (fun h=>?_) (fun h=>?_)
   ·refine Runs.ln 2 5 (eInt .u8) p0.fB ?_
    refine Runs.cl false 0 58 [.i ((p0.fB.length:Int)),.i 1,.i 6] h (fun _=>impl_within_ok) (fun r9 h=>?_)
    refine Runs.c2 2 60 h (fun h=>?_) (fun h=>?_)
    ·refine Runs.cl false 1 62 [.agg ((Msg.enc p0).map .t),.b false,.b false,.b true] h (fun _=>impl_Msg__isBare_ok) (fun r10 h=>?_)
     refine Runs.alln ?_
     obtain rfl:=oi h
     exact Wp.ret RetB
    refine Runs.alln ?_
    obtain rfl:=oi h
    exact Wp.ret RetB
   refine Runs.alln ?_
   obtain rfl:=oi h
   exact Wp.ret RetB
  refine Runs.alln ?_
  obtain rfl:=oi h
  exact Wp.ret RetB
 refine Wp.sa ?_
 refine Wp.c2 h (fun h=>?_) (fun h=>?_)
 ·refine Wp.sr ?_
  refine Runs.cl false 2 68 [.i p0.fGen] h (fun _=>impl_isGen_ok) (fun r11 h=>?_)
  refine Runs.c2 1 69 h (fun h=>?_) (fun h=>?_)
  ·refine Runs.cl false 1 71 [.agg ((Msg.enc p0).map .t),.b false,.b false,.b false] h (fun _=>impl_Msg__isBare_ok) (fun r12 h=>?_)
   refine Runs.alln ?_
   obtain rfl:=oi h
   exact Wp.ret RetB
  refine Runs.alln ?_
  obtain rfl:=oi h
  exact Wp.ret RetB
 refine Wp.skip ?_
 refine blkN ?_
 refine thenN ?_
 refine Wp.sa ?_
 obtain rfl:=oi h
 exact Wp.ret RetB
theorem impl_appendVar_ok {u p0 p1 r} (h:impl_appendVar u p0 p1=some r):CallOK Tryz.prog 322 [.one (.ow 5 1 (p0.map (eInt .u8))),V.i p1] (.one (.ow 5 1 (r.map (eInt .u8)))) []:=by
 unfold impl_appendVar at h
 refine ofb Tryz.f322 true ?_
 refine Wp.sa ?_
 refine Wp.j2 (fun x7 x8=>impl_appendVar_j1 u x7 x8=some r) (fun x7 x8=>⟨[(0,.own 1),(1,.i x8),(4,.nil)],[],[(1,.live 5 1 (x7.map (eInt .u8)))]⟩) (fun x7 x8 h=>?_) ?_
 ·refine Wp.sr ?_
  refine Runs.ap 4 19 5 1 1 (eInt .u8) h (fun h=>?_)
  refine Runs.alln ?_
  obtain rfl:=oi h
  exact Wp.ret RetB
 refine Wp.block ?_
 refine Wp.l2 (fun k_impl_appendVar_l2 x3 x4=>impl_appendVar_l2 u k_impl_appendVar_l2 x3 x4=some r) (fun x3 x4=>⟨[(0,.own 1),(1,.i x4),(4,.nil)],[],[(1,.live 5 1 (x3.map (eInt .u8)))]⟩) (fun k_impl_appendVar_l2 x3 x4 h=>?_) h (lo [(1,58982400)]) (fun _ _  h=>nomatch h)
 rw [impl_appendVar_l2] at h
 refine Wp.seq ?_
 refine Wp.sa ?_
 refine Wp.c2 h (fun h=>?_) (fun h=>?_)
 ·refine Wp.sk ?_
  refine Wp.block ?_
  refine Wp.sr ?_
  refine Runs.ap 5 12 5 1 1 (eInt .u8) h (fun h=>?_)
  refine Runs.alln ?_
  refine Wp.rg [] [] ?_
  refine Runs.all kr ?_
  refine blkN ?_
  refine thenN ?_
  exact ⟨_,_,h,lo [(1,786432)]⟩
 refine Wp.exit ?_
 refine thenE ?_
 refine thenE ?_
 refine blkE ?_
 refine thenN ?_
 exact ⟨_,_,h,lo []⟩
theorem impl_PutVar_ok {u p0 p1 r} (h:impl_PutVar u p0 p1=some r):CallOK Tryz.prog 270 [.one (.s p0),V.i p1] (.one (.ow 5 1 (r.map (eInt .u8)))) []:=by
 unfold impl_PutVar at h
 refine ofb Tryz.f270 true ?_
 refine Wp.sa ?_
 refine Wp.cl false 1 7 [.s p0] h (fun _=>impl_cloned_ok) (fun r1 h=>?_)
 refine Wp.seq ?_
 refine Wp.cl false 1 9 [.i p1,.i 0,.i 1000000000000] h (fun _=>impl_within_ok) (fun r2 h=>?_)
 refine Wp.c2 h (fun h=>?_) (fun h=>?_)
 ·refine Wp.sa ?_
  obtain rfl:=oi h
  exact Wp.ret RetB
 refine Wp.sk ?_
 refine Wp.cl true 2 14 [.own 458752,.i p1] h (fun _=>impl_appendVar_ok) (fun r3 h=>?_)
 obtain rfl:=oi h
 exact Wp.ret RetB
theorem impl_PutVar_okd {u p0 p1 r} (h:impl_PutVar u p0 p1=some r):DOK Tryz.prog 270 [.one (.s p0),V.i p1] (.one (.ow 5 1 (r.map (eInt .u8)))):=by
 unfold impl_PutVar at h
 refine DOK.of_bodyK (fn:=Tryz.f270) (m:=true) kr rfl kr kr kr ?_
 refine Wp.sa ?_
 refine Wp.sr ?_
 refine Runs.batch 1 kr ?_
 obtain ⟨r1,e_r1,h⟩:=bind_some h
 refine Runs.callDK 7 106 [] [.ext false (.sl 1 (p0.map (eInt .u8)))] [.one (.s p0)] (.one (.ow 5 1 (r1.map (eInt .u8)))) rfl rfl kr kr kr kr kr (impl_cloned_okd e_r1) kr ?_
 refine Runs.alln ?_
 refine Wp.seq ?_
 refine Wp.cl false 1 9 [.i p1,.i 0,.i 1000000000000] h (fun _=>impl_within_ok) (fun r2 h=>?_)
 refine Wp.c2 h (fun h=>?_) (fun h=>?_)
 ·refine Wp.sa ?_
  obtain rfl:=oi h
  exact Wp.ret RetB
 refine Wp.sk ?_
 refine Wp.cl true 2 14 [.own 458752,.i p1] h (fun _=>impl_appendVar_ok) (fun r3 h=>?_)
 obtain rfl:=oi h
 exact Wp.ret RetB
theorem impl_PutMan_okd {u p0 p1 r} (h:impl_PutMan u p0 p1=some r):DOK Tryz.prog 271 [.one (.s p0),V.g (Manifest.enc p1)] (.one (.ow 5 1 (r.map (eInt .u8)))):=by
 unfold impl_PutMan at h
 refine DOK.of_bodyK (fn:=Tryz.f271) (m:=true) kr rfl kr kr kr ?_
 refine Wp.sa ?_
 refine Wp.seq ?_
 refine Wp.sr ?_
 refine Runs.cb 1 9 [.agg [.i p1.fGen,.i p1.fSize,.i p1.fLen,.ext false (.sl 2 (p1.fSums.map Sum.enc))]] h (fun _=>impl_ManOk_ok) (fun r1 h=>?_)
 refine Runs.alln ?_
 refine Wp.c2 h (fun h=>?_) (fun h=>?_)
 ·refine Wp.sr ?_
  refine Runs.batch 1 kr ?_
  obtain ⟨r2,e_r2,h⟩:=bind_some h
  refine Runs.callDK 12 106 [] [.ext false (.sl 1 (p0.map (eInt .u8)))] [.one (.s p0)] (.one (.ow 5 1 (r2.map (eInt .u8)))) rfl rfl kr kr kr kr kr (impl_cloned_okd e_r2) kr ?_
  refine Runs.alln ?_
  obtain rfl:=oi h
  exact Wp.ret RetB
 refine Wp.sk ?_
 refine Wp.seq ?_
 refine Wp.regionA (pOf []) (rhoOf [(0,.frz),(3,.obj 3),(13,.frz),(14,.obj 3),(15,.frz),(16,.own 16),(17,.obj 3),(18,.frz),(19,.own 19),(20,.obj 3),(21,.frz),(22,.own 22)]) kr kr ?_
 refine Runs.batch 3 kr ?_
 obtain ⟨r3,e_r3,h⟩:=bind_some h
 refine Runs.callDK 16 270 [] [.ext false (.sl 1 (p0.map (eInt .u8))),.i p1.fGen] [.one (.s p0),.one (.i p1.fGen)] (.one (.ow 5 1 (r3.map (eInt .u8)))) rfl rfl kr kr kr kr kr (impl_PutVar_okd e_r3) kr ?_
 refine Runs.batch 2 kr ?_
 obtain ⟨r4,e_r4,h⟩:=bind_some h
 refine Runs.callDK 19 270 [] [.own 1048576,.i p1.fSize] [.one (.s r3),.one (.i p1.fSize)] (.one (.ow 5 1 (r4.map (eInt .u8)))) rfl rfl kr kr kr kr kr (impl_PutVar_okd e_r4) kr ?_
 refine Runs.batch 2 kr ?_
 obtain ⟨r5,e_r5,h⟩:=bind_some h
 refine Runs.callDK 22 270 [] [.own 1245184,.i p1.fLen] [.one (.s r4),.one (.i p1.fLen)] (.one (.ow 5 1 (r5.map (eInt .u8)))) rfl rfl kr kr kr kr kr (impl_PutVar_okd e_r5) kr ?_
 refine Runs.alln ?_
 refine Wp.j1 (fun x14=>impl_PutMan_j1 u x14=some r) (fun x14=>⟨[(4,.nil),(5,.own 327681)],[],[(327681,.live 5 1 (x14.map (eInt .u8)))]⟩) (fun x14 h=>?_) ?_
 ·refine Wp.sa ?_
  obtain rfl:=oi h
  exact Wp.ret RetB
 refine Wp.sr ?_
 refine Runs.batch 2 kr ?_
 refine Runs.lenX (e:=177) Sum.enc p1.fSums false 2 rfl rfl rfl kr kr kr kr ?_
 refine Runs.alln ?_
 refine Wp.block ?_
 refine Wp.l3 (fun k_impl_PutMan_l2 x8 p1 x9=>impl_PutMan_l2 u k_impl_PutMan_l2 x8 p1 x9=some r) (fun x8 p1 x9=>⟨[(4,.nil),(5,.own 327681),(24,.ext false (.sl 2 (p1.fSums.map Sum.enc))),(25,.i ((p1.fSums.length:Int))),(26,.i x9)],[],[(327681,.live 5 1 (x8.map (eInt .u8)))]⟩) (fun k_impl_PutMan_l2 x8 p1 x9 h=>?_) h (lo [(327681,1441792)]) (fun _ _ _  h=>nomatch h)
 rw [impl_PutMan_l2] at h
 refine Wp.sa ?_
 refine Wp.seq ?_
 refine Wp.c2 h (fun h=>?_) (fun h=>?_)
 ·refine Wp.sk ?_
  refine Wp.seq ?_
  refine Wp.block ?_
  refine Wp.sr ?_
  obtain ⟨y12,e_y12,h⟩:=bind_some h
  refine Runs.idxX (e:=177) (kk:=.i64) (sz:=2) Sum.enc p1.fSums x9 false rfl kr kr kr kr kr kr e_y12 ?_
  refine Runs.alln ?_
  refine Wp.rg [] [] ?_
  refine Runs.cl true 3 33 [.own 327681,.i y12.fS] h (fun _=>impl_appendVar_ok) (fun r13 h=>?_)
  refine Runs.all kr ?_
  refine blkN ?_
  refine thenN ?_
  refine Wp.rg [] [] ?_
  refine Runs.alln ?_
  exact ⟨_,_,_,h,lo [(327681,2162688)]⟩
 refine Wp.exit ?_
 refine thenE ?_
 refine thenE ?_
 refine blkE ?_
 refine thenN ?_
 exact ⟨_,h,lo []⟩
theorem impl_putSet_okd {u p0 p1 r} (h:impl_putSet u p0 p1=some r):DOK Tryz.prog 272 [.one (.s p0),V.i p1] (.one (.ow 5 1 (r.map (eInt .u8)))):=by
 unfold impl_putSet at h
 refine DOK.of_bodyK (fn:=Tryz.f272) (m:=true) kr rfl kr kr kr ?_
 refine Wp.sa ?_
 refine Wp.sr ?_
 refine Runs.batch 3 kr ?_
 obtain ⟨r1,e_r1,h⟩:=bind_some h
 refine Runs.callDK 8 270 [] [.ext false (.sl 1 (p0.map (eInt .u8))),.i (bAnd .i64 p1 1048575)] [.one (.s p0),.one (.i (bAnd .i64 p1 1048575))] (.one (.ow 5 1 (r1.map (eInt .u8)))) rfl rfl kr kr kr kr kr (impl_PutVar_okd e_r1) kr ?_
 refine Runs.batch 2 kr ?_
 obtain ⟨r2,e_r2,h⟩:=bind_some h
 refine Runs.callDK 11 270 [] [.own 524288,.i (bShr .i64 p1 20)] [.one (.s r1),.one (.i (bShr .i64 p1 20))] (.one (.ow 5 1 (r2.map (eInt .u8)))) rfl rfl kr kr kr kr kr (impl_PutVar_okd e_r2) kr ?_
 refine Runs.alln ?_
 obtain rfl:=oi h
 exact Wp.ret RetB
theorem impl_PutPart_okd {u p0 p1 r} (h:impl_PutPart u p0 p1=some r):DOK Tryz.prog 273 [.one (.s p0),.one (.s p1)] (.one (.ow 5 1 (r.map (eInt .u8)))):=by
 unfold impl_PutPart at h
 refine DOK.of_bodyK (fn:=Tryz.f273) (m:=true) kr rfl kr kr kr ?_
 refine Wp.sa ?_
 refine Wp.sr ?_
 refine Runs.batch 2 kr ?_
 refine Runs.lenX (e:=5) (eInt .u8) p1 false 1 rfl rfl rfl kr kr kr kr ?_
 obtain ⟨r1,e_r1,h⟩:=bind_some h
 refine Runs.callDK 8 270 [] [.ext false (.sl 1 (p0.map (eInt .u8))),.i ((p1.length:Int))] [.one (.s p0),.one (.i ((p1.length:Int)))] (.one (.ow 5 1 (r1.map (eInt .u8)))) rfl rfl kr kr kr kr kr (impl_PutVar_okd e_r1) kr ?_
 refine Runs.batch 1 kr ?_
 obtain ⟨_,e_2,h⟩:=bind_some h
 refine Runs.appT (y:=.ext false (.sl 1 (p1.map (eInt .u8)))) (eInt .u8) 10 1 5 1 1 524288 r1 p1 rfl rfl rfl rfl kr kr kr kr kr (rows_extI _ _ _) (.inl rfl) kr (of_decide_eq_true (chk_some e_2)) kr kr ?_
 refine Runs.alln ?_
 obtain rfl:=oi h
 exact Wp.ret RetB
theorem impl_PutMsg_okd {u p0 r} (h:impl_PutMsg u p0=some r):DOK Tryz.prog 196 [V.g (Msg.enc p0)] (.one (.ow 5 1 (r.map (eInt .u8)))):=by
 unfold impl_PutMsg at h
 refine DOK.of_bodyK (fn:=Tryz.f196) (m:=true) kr rfl kr kr kr ?_
 refine Wp.sa ?_
 refine Wp.seq ?_
 refine Wp.sr ?_
 refine Runs.cb 1 5 [.agg [.i p0.fKind,.i p0.fGen,.i p0.fMan.fGen,.i p0.fMan.fSize,.i p0.fMan.fLen,.ext false (.sl 2 (p0.fMan.fSums.map Sum.enc)),.i p0.fWant,.i p0.fDone,.i p0.fI,.ext false (.sl 1 (p0.fB.map (eInt .u8)))]] h (fun _=>impl_MsgOk_ok) (fun r1 h=>?_)
 refine Runs.alln ?_
 refine Wp.c2 h (fun h=>?_) (fun h=>?_)
 ·refine Wp.sa ?_
  obtain rfl:=oi h
  exact Wp.ret RetB
 refine Wp.sk ?_
 refine Wp.cl false 2 9 [.nil,.i p0.fKind] h (fun _=>impl_PutVar_ok) (fun r2 h=>?_)
 refine Wp.j1 (fun x11=>impl_PutMsg_j1 u x11=some r) (fun x11=>⟨[(2,.nil),(3,.own 196609)],[],[(196609,.live 5 1 (x11.map (eInt .u8)))]⟩) (fun x11 h=>?_) ?_
 ·refine Wp.sr ?_
  refine Runs.cb 2 50 [.own 196609] h (fun _=>impl_WeakOf_ok) (fun r12 h=>?_)
  obtain ⟨r13,e_r13,h⟩:=bind_some h
  refine Runs.callDK 51 270 [] [.own 196609,.i r12] [.one (.s x11),.one (.i r12)] (.one (.ow 5 1 (r13.map (eInt .u8)))) rfl rfl kr kr kr kr kr (impl_PutVar_okd e_r13) kr ?_
  refine Runs.alln ?_
  obtain rfl:=oi h
  exact Wp.ret RetB
 refine Wp.sa ?_
 refine Wp.block ?_
 refine Wp.sa ?_
 refine Wp.c2 h (fun h=>?_) (fun h=>?_)
 ·refine Wp.rg [] [] ?_
  refine Runs.batch 3 kr ?_
  obtain ⟨r3,e_r3,h⟩:=bind_some h
  refine Runs.callDK 17 271 [] [.own 589824,.agg [.i p0.fMan.fGen,.i p0.fMan.fSize,.i p0.fMan.fLen,.ext false (.sl 2 (p0.fMan.fSums.map Sum.enc))]] [.one (.s r2),.agg ((Manifest.enc p0.fMan).map .t)] (.one (.ow 5 1 (r3.map (eInt .u8)))) rfl rfl kr kr kr kr kr (impl_PutMan_okd e_r3) kr ?_
  refine Runs.all kr ?_
  refine blkN ?_
  refine thenN ?_
  exact ⟨_,h,lo [(196609,1114112)]⟩
 refine Wp.sa ?_
 refine Wp.c2 h (fun h=>?_) (fun h=>?_)
 ·refine Wp.regionA (pOf []) (rhoOf [(1,.obj 1),(3,.own 9),(20,.own 9),(21,.obj 1),(22,.frz),(23,.own 23),(24,.obj 1),(25,.frz),(26,.own 26),(27,.obj 1),(28,.frz),(29,.own 29)]) kr kr ?_
  refine Runs.batch 3 kr ?_
  obtain ⟨r4,e_r4,h⟩:=bind_some h
  refine Runs.callDK 23 270 [] [.own 589824,.i p0.fGen] [.one (.s r2),.one (.i p0.fGen)] (.one (.ow 5 1 (r4.map (eInt .u8)))) rfl rfl kr kr kr kr kr (impl_PutVar_okd e_r4) kr ?_
  refine Runs.batch 2 kr ?_
  obtain ⟨r5,e_r5,h⟩:=bind_some h
  refine Runs.callDK 26 272 [] [.own 1507328,.i p0.fWant] [.one (.s r4),.one (.i p0.fWant)] (.one (.ow 5 1 (r5.map (eInt .u8)))) rfl rfl kr kr kr kr kr (impl_putSet_okd e_r5) kr ?_
  refine Runs.batch 2 kr ?_
  obtain ⟨r6,e_r6,h⟩:=bind_some h
  refine Runs.callDK 29 272 [] [.own 1703936,.i p0.fDone] [.one (.s r5),.one (.i p0.fDone)] (.one (.ow 5 1 (r6.map (eInt .u8)))) rfl rfl kr kr kr kr kr (impl_putSet_okd e_r6) kr ?_
  refine Runs.all kr ?_
  refine blkN ?_
  refine thenN ?_
  exact ⟨_,h,lo [(196609,1900544)]⟩
 refine Wp.sa ?_
 refine Wp.c2 h (fun h=>?_) (fun h=>?_)
 ·refine Wp.regionA (pOf []) (rhoOf [(1,.obj 1),(3,.own 9),(32,.own 9),(33,.obj 1),(34,.frz),(35,.own 35),(36,.obj 1),(37,.frz),(38,.own 38),(39,.obj 1),(40,.frz),(41,.own 41)]) kr kr ?_
  refine Runs.batch 3 kr ?_
  obtain ⟨r7,e_r7,h⟩:=bind_some h
  refine Runs.callDK 35 270 [] [.own 589824,.i p0.fGen] [.one (.s r2),.one (.i p0.fGen)] (.one (.ow 5 1 (r7.map (eInt .u8)))) rfl rfl kr kr kr kr kr (impl_PutVar_okd e_r7) kr ?_
  refine Runs.batch 2 kr ?_
  obtain ⟨r8,e_r8,h⟩:=bind_some h
  refine Runs.callDK 38 270 [] [.own 2293760,.i p0.fI] [.one (.s r7),.one (.i p0.fI)] (.one (.ow 5 1 (r8.map (eInt .u8)))) rfl rfl kr kr kr kr kr (impl_PutVar_okd e_r8) kr ?_
  refine Runs.batch 2 kr ?_
  obtain ⟨r9,e_r9,h⟩:=bind_some h
  refine Runs.callDK 41 273 [] [.own 2490368,.ext false (.sl 1 (p0.fB.map (eInt .u8)))] [.one (.s r8),.one (.s p0.fB)] (.one (.ow 5 1 (r9.map (eInt .u8)))) rfl rfl kr kr kr kr kr (impl_PutPart_okd e_r9) kr ?_
  refine Runs.all kr ?_
  refine blkN ?_
  refine thenN ?_
  exact ⟨_,h,lo [(196609,2686976)]⟩
 refine Wp.sa ?_
 refine Wp.c2 h (fun h=>?_) (fun h=>?_)
 ·refine Wp.rg [] [] ?_
  refine Runs.batch 3 kr ?_
  obtain ⟨r10,e_r10,h⟩:=bind_some h
  refine Runs.callDK 47 270 [] [.own 589824,.i p0.fGen] [.one (.s r2),.one (.i p0.fGen)] (.one (.ow 5 1 (r10.map (eInt .u8)))) rfl rfl kr kr kr kr kr (impl_PutVar_okd e_r10) kr ?_
  refine Runs.all kr ?_
  refine blkN ?_
  refine thenN ?_
  exact ⟨_,h,lo [(196609,3080192)]⟩
 refine Wp.skip ?_
 refine blkN ?_
 refine thenN ?_
 exact ⟨_,h,lo [(196609,589824)]⟩
theorem impl_PacketOf_okd {u p0 p1 p2 r} (h:impl_PacketOf u p0 p1 p2=some r):DOK Tryz.prog 117 [V.i p0,V.i p1,V.g (Msg.enc p2)] (V.w [0,0,5] (Packet.enc r)):=by
 unfold impl_PacketOf at h
 refine DOK.of_bodyK (fn:=Tryz.f117) (m:=true) kr rfl kr kr kr ?_
 refine Wp.sa ?_
 refine Wp.sr ?_
 refine Runs.batch 3 kr ?_
 obtain ⟨r1,e_r1,h⟩:=bind_some h
 refine Runs.callDK 10 196 [] [.agg [.i p2.fKind,.i p2.fGen,.i p2.fMan.fGen,.i p2.fMan.fSize,.i p2.fMan.fLen,.ext false (.sl 2 (p2.fMan.fSums.map Sum.enc)),.i p2.fWant,.i p2.fDone,.i p2.fI,.ext false (.sl 1 (p2.fB.map (eInt .u8)))]] [.agg ((Msg.enc p2).map .t)] (.one (.ow 5 1 (r1.map (eInt .u8)))) rfl rfl kr kr kr kr kr (impl_PutMsg_okd e_r1) kr ?_
 refine Runs.alln ?_
 obtain rfl:=oi h
 exact Wp.ret RetB
theorem impl_Tick_ok {u p0 p1 p2 p3 p4 r} (h:impl_Tick u p0 p1 p2 p3 p4=some r):CallOK Tryz.prog 32 [V.g (Tree.enc p0),V.g (Conf.enc p1),V.i p2,V.g (Node.enc p3),V.g (Disk.enc p4)] (V.w [0,0,0,0,0,0,177,0,5,0,188,0,5,5,0,0,0,124,82] (Beat.enc r)) []:=by
 unfold impl_Tick at h
 refine ofb Tryz.f32 true ?_
 refine Wp.sa ?_
 refine Wp.seq ?_
 refine Wp.regionA (pOf []) (rhoOf [(8,.obj 8),(9,.obj 9),(11,.obj 11),(13,.frz),(14,.own 14),(15,.frz),(16,.own 16)]) kr kr ?_
 refine Runs.cl false 1 14 [.agg ((Node.enc p3).map .t)] h (fun _=>impl_copyNode_ok) (fun r1 h=>?_)
 refine Runs.cl false 1 16 [.agg ((Disk.enc p4).map .t)] h (fun _=>impl_copyDisk_ok) (fun r2 h=>?_)
 refine Runs.alln ?_
 refine Wp.seq ?_
 refine Wp.sa ?_
 refine Wp.c2 h (fun h=>?_) (fun h=>?_)
 ·refine Wp.sa ?_
  refine Wp.fg ⟨[(2,.i p2),(5,.obj 5 0),(6,.obj 6 0),(8,.obj 8 0),(9,.obj 9 0),(10,.obj 10 0),(11,.obj 11 0)],[(5,[.t (.sl 1 (p0.fUp.map (eInt .i64)))]),(6,((Conf.enc p1).map .t)),(8,((Node.enc p3).map .t)),(9,((Disk.enc p4).map .t)),(10,[.b r1.fOn,.i r1.fBoss,.i r1.fQuiet,.i r1.fMan.fGen,.i r1.fMan.fSize,.i r1.fMan.fLen,.own 917510,.i r1.fBld.fHave,.own 917512,.i r1.fPhase,.own 917514,.i r1.fDrops,.own 1048576,.own 1048577,.i r2.fR.fGen,.i r2.fR.fSlot,.i r2.fR.fLen,.own 1048581,.nil]),(11,[.b r1.fOn,.i r1.fBoss,.i r1.fQuiet,.i r1.fMan.fGen,.i r1.fMan.fSize,.i r1.fMan.fLen,.own 917510,.i r1.fBld.fHave,.own 917512,.i r1.fPhase,.own 917514,.i r1.fDrops,.own 1048576,.own 1048577,.i r2.fR.fGen,.i r2.fR.fSlot,.i r2.fR.fLen,.own 1048581,.nil])],[(917510,.live 177 2 (r1.fMan.fSums.map Sum.enc)),(917512,.live 5 1 (r1.fBld.fBuf.map (eInt .u8))),(917514,.live 188 5 (r1.fKids.map Kid.enc)),(1048576,.live 5 1 (r2.fA.map (eInt .u8))),(1048577,.live 5 1 (r2.fB.map (eInt .u8))),(1048581,.live 124 6 (r2.fP.map Put.enc))]⟩ ?_
  obtain rfl:=oi h
  exact Wp.ret RetB
 refine Wp.sk ?_
 refine Wp.cl false 4 26 [.t (.sl 5 (p3.fKids.map Kid.enc)),.i p1.fForget] h (fun _=>impl_AgeAll_ok) (fun r3 h=>?_)
 refine Wp.seq ?_
 refine Wp.sa ?_
 refine Wp.c2 h (fun h=>?_) (fun h=>?_)
 ·refine Wp.sa ?_
  refine Wp.fg ⟨[(2,.i p2),(5,.obj 5 0),(6,.obj 6 0),(8,.obj 8 0),(9,.obj 9 0),(10,.obj 10 0),(11,.obj 11 0)],[(5,[.t (.sl 1 (p0.fUp.map (eInt .i64)))]),(6,((Conf.enc p1).map .t)),(8,((Node.enc p3).map .t)),(9,((Disk.enc p4).map .t)),(10,[.b r1.fOn,.i r1.fBoss,.i r1.fQuiet,.i r1.fMan.fGen,.i r1.fMan.fSize,.i r1.fMan.fLen,.own 917510,.i r1.fBld.fHave,.own 917512,.i r1.fPhase,.own 1703936,.i r1.fDrops,.own 1048576,.own 1048577,.i r2.fR.fGen,.i r2.fR.fSlot,.i r2.fR.fLen,.own 1048581,.nil]),(11,[.b r1.fOn,.i r1.fBoss,.i r1.fQuiet,.i r1.fMan.fGen,.i r1.fMan.fSize,.i r1.fMan.fLen,.own 917510,.i r1.fBld.fHave,.own 917512,.i r1.fPhase,.own 1703936,.i r1.fDrops,.own 1048576,.own 1048577,.i r2.fR.fGen,.i r2.fR.fSlot,.i r2.fR.fLen,.own 1048581,.nil])],[(917510,.live 177 2 (r1.fMan.fSums.map Sum.enc)),(917512,.live 5 1 (r1.fBld.fBuf.map (eInt .u8))),(1048576,.live 5 1 (r2.fA.map (eInt .u8))),(1048577,.live 5 1 (r2.fB.map (eInt .u8))),(1048581,.live 124 6 (r2.fP.map Put.enc)),(1703936,.live 188 5 (r3.map Kid.enc))]⟩ ?_
  obtain rfl:=oi h
  exact Wp.ret RetB
 refine Wp.sk ?_
 refine Wp.j9 (fun p2 p1 p3 p4 r1 x5 x6 r3 r2=>impl_Tick_j1 u p2 p1 p3 p4 r1 x5 x6 r3 r2=some r) (fun p2 p1 p3 p4 r1 x5 x6 r3 r2=>⟨[(2,.i p2),(6,.obj 6 0),(8,.obj 8 0),(9,.obj 9 0),(10,.obj 10 0),(11,.obj 11 0)],[(6,((Conf.enc p1).map .t)),(8,((Node.enc p3).map .t)),(9,((Disk.enc p4).map .t)),(10,[.b false,.i 0,.i 0,.i 0,.i 0,.i 0,.nil,.i 0,.nil,.i 0,.nil,.i 0,.nil,.nil,.i 0,.i 0,.i 0,.nil,.nil]),(11,[.b r1.fOn,.i x5,.i x6,.i r1.fMan.fGen,.i r1.fMan.fSize,.i r1.fMan.fLen,.own 721414,.i r1.fBld.fHave,.own 721416,.i r1.fPhase,.own 721418,.i r1.fDrops,.own 721420,.own 721421,.i r2.fR.fGen,.i r2.fR.fSlot,.i r2.fR.fLen,.own 721425,.nil])],[(721414,.live 177 2 (r1.fMan.fSums.map Sum.enc)),(721416,.live 5 1 (r1.fBld.fBuf.map (eInt .u8))),(721418,.live 188 5 (r3.map Kid.enc)),(721420,.live 5 1 (r2.fA.map (eInt .u8))),(721421,.live 5 1 (r2.fB.map (eInt .u8))),(721425,.live 124 6 (r2.fP.map Put.enc))]⟩) (fun p2 p1 p3 p4 r1 x5 x6 r3 r2 h=>?_) ?_
 ·refine Wp.cl false 7 60 [.agg ((Disk.enc p4).map .t),.agg ((Manifest.enc p3.fMan).map .t),.agg [.i p3.fBld.fHave,.s p3.fBld.fBuf],.i p3.fPhase] h (fun _=>impl_NextCommit_ok) (fun r7 h=>?_)
  refine Wp.seq ?_
  refine Wp.regionA (pOf []) (rhoOf [(2,.frz),(6,.obj 6),(8,.obj 8),(11,.obj 11),(12,.obj 12),(66,.obj 8),(67,.obj 8),(68,.frz),(69,.obj 11),(70,.own 11),(71,.obj 6),(72,.frz),(73,.frz),(74,.obj 11),(75,.own 11),(76,.frz),(77,.frz),(78,.own 78)]) kr kr ?_
  refine Runs.cb 7 73 [.agg [.b r1.fOn,.i x5,.i x6,.i r1.fMan.fGen,.i r1.fMan.fSize,.i r1.fMan.fLen,.own 721414,.i r1.fBld.fHave,.own 721416,.i r7.2,.own 721418,.i r1.fDrops],.i p1.fWindow] h (fun _=>impl_WantOf_ok) (fun r8 h=>?_)
  refine Runs.cb 3 77 [.agg [.b r1.fOn,.i x5,.i x6,.i r1.fMan.fGen,.i r1.fMan.fSize,.i r1.fMan.fLen,.own 721414,.i r1.fBld.fHave,.own 721416,.i r7.2,.own 721418,.i r1.fDrops],.i p2] h (fun _=>impl_DoneSet_ok) (fun r9 h=>?_)
  refine Runs.cl false 0 78 [.i p3.fMan.fGen,.i r8,.i r9] h (fun _=>impl_WantMsg_ok) (fun r10 h=>?_)
  refine Runs.alln ?_
  refine Wp.fg ⟨[(2,.i p2),(10,.obj 10 0),(11,.obj 11 0),(12,.obj 12 0)],[(10,[.b false,.i 0,.i 0,.i 0,.i 0,.i 0,.nil,.i 0,.nil,.i 0,.nil,.i 0,.nil,.nil,.i 0,.i 0,.i 0,.nil,.nil]),(11,[.b r1.fOn,.i x5,.i x6,.i r1.fMan.fGen,.i r1.fMan.fSize,.i r1.fMan.fLen,.own 721414,.i r1.fBld.fHave,.own 721416,.i r7.2,.own 721418,.i r1.fDrops,.own 3932160,.own 3932161,.i r7.1.fR.fGen,.i r7.1.fR.fSlot,.i r7.1.fR.fLen,.own 3932165,.nil]),(12,[.i r10.fKind,.i r10.fGen,.i r10.fMan.fGen,.i r10.fMan.fSize,.i r10.fMan.fLen,.own 5111813,.i r10.fWant,.i r10.fDone,.i r10.fI,.own 5111817])],[(721414,.live 177 2 (r1.fMan.fSums.map Sum.enc)),(721416,.live 5 1 (r1.fBld.fBuf.map (eInt .u8))),(721418,.live 188 5 (r3.map Kid.enc)),(3932160,.live 5 1 (r7.1.fA.map (eInt .u8))),(3932161,.live 5 1 (r7.1.fB.map (eInt .u8))),(3932165,.live 124 6 (r7.1.fP.map Put.enc)),(5111813,.live 177 2 (r10.fMan.fSums.map Sum.enc)),(5111817,.live 5 1 (r10.fB.map (eInt .u8)))]⟩ ?_
  refine Wp.sr ?_
  refine Runs.batch 5 kr ?_
  obtain ⟨r11,e_r11,h⟩:=bind_some h
  refine Runs.callDK 84 117 [] [.i p2,.i x5,.agg [.i r10.fKind,.i r10.fGen,.i r10.fMan.fGen,.i r10.fMan.fSize,.i r10.fMan.fLen,.own 5111813,.i r10.fWant,.i r10.fDone,.i r10.fI,.own 5111817]] [.one (.i p2),.one (.i x5),.agg ((Msg.enc r10).map .t)] (V.w [0,0,5] (Packet.enc r11)) rfl rfl kr kr kr kr kr (impl_PacketOf_okd e_r11) kr ?_
  refine Runs.alln ?_
  refine Wp.sa ?_
  obtain rfl:=oi h
  exact Wp.ret RetB
 refine Wp.sa ?_
 refine Wp.c2 h (fun h=>?_) (fun h=>?_)
 ·refine Wp.rg [] [] ?_
  refine Runs.cl false 4 41 [.agg [.t (.sl 1 (p0.fUp.map (eInt .i64)))],.i p2,.i p3.fBoss] h (fun _=>impl_NextBoss_ok) (fun r4 h=>?_)
  refine Runs.alln ?_
  exact ⟨_,_,_,_,_,_,_,_,_,h,lo [(721414,917510),(721416,917512),(721418,1703936),(721420,1048576),(721421,1048577),(721425,1048581)]⟩
 refine Wp.rg [] [] ?_
 refine Runs.alln ?_
 exact ⟨_,_,_,_,_,_,_,_,_,h,lo [(721414,917510),(721416,917512),(721418,1703936),(721420,1048576),(721421,1048577),(721425,1048581)]⟩
theorem spec_DrawTicks_ok {u p0 r} (h:spec_DrawTicks u p0=some r):CallOK Tryz.prog 33 [.one (.s p0)] (.tup [V.g (Tree.enc r.1),V.g (Conf.enc r.2.1),V.i r.2.2.1,V.g (Node.enc r.2.2.2.1),V.g (Disk.enc r.2.2.2.2.1),V.i r.2.2.2.2.2]) []:=by
 unfold spec_DrawTicks at h
 refine ofb Tryz.f33 false ?_
 refine Wp.sa ?_
 refine Wp.cl false 1 16 [.s p0] h (fun _=>spec_l19Node_ok) (fun r1 h=>?_)
 refine Wp.seq ?_
 refine Wp.regionA (pOf [16]) (rhoOf [(2,.obj 2),(3,.obj 3),(5,.obj 5),(6,.obj 6),(8,.obj 16),(9,.obj 9),(10,.obj 10),(11,.frz),(12,.obj 12),(13,.obj 13),(23,.frz),(24,.frz),(25,.frz),(26,.frz),(27,.frz),(28,.obj 16),(29,.own 29),(30,.frz)]) kr kr ?_
 refine Runs.cl false 7 30 [.obj 16 0,.own 1900544] h (fun _=>spec_l1Int_ok) (fun r2 h=>?_)
 refine Runs.alln ?_
 obtain rfl:=oi h
 exact Wp.ret RetB
theorem spec_DrawConfOk_ok {u p0 r} (h:spec_DrawConfOk u p0=some r):CallOK Tryz.prog 34 [.one (.s p0)] (V.g (Conf.enc r)) []:=by
 unfold spec_DrawConfOk at h
 refine ofb Tryz.f34 false ?_
 refine Wp.sa ?_
 refine Wp.cl false 1 5 [.s p0] h (fun _=>spec_l1New_ok) (fun r1 h=>?_)
 refine Wp.cl false 1 7 [.obj 5 0] h (fun _=>spec_l19Any_ok) (fun r2 h=>?_)
 obtain rfl:=oi h
 exact Wp.ret RetB
theorem spec_l15Node_ok {u p0 r} (h:spec_l15Node u p0=some r):CallOK Tryz.prog 72 [.one (.s p0)] (.tup [.ptr (cw [0,0,0] (l1Cur.enc r.1)),V.g (Node.enc r.2)]) []:=by
 unfold spec_l15Node at h
 refine ofb Tryz.f72 false ?_
 refine Wp.sa ?_
 refine Wp.cl false 1 9 [.s p0] h (fun _=>spec_l1New_ok) (fun r1 h=>?_)
 refine Wp.cl false 1 12 [.obj 9 0] h (fun _=>spec_l15Any_ok) (fun r2 h=>?_)
 refine Wp.seq ?_
 refine Wp.regionA (pOf []) (rhoOf [(3,.obj 3),(4,.obj 9),(7,.obj 7),(16,.obj 9),(17,.frz)]) kr kr ?_
 refine Runs.alln ?_
 obtain rfl:=oi h
 exact Wp.ret RetB
theorem spec_DrawSuspects_ok {u p0 r} (h:spec_DrawSuspects u p0=some r):CallOK Tryz.prog 35 [.one (.s p0)] (.tup [V.g (Conf.enc r.1),V.g (Node.enc r.2)]) []:=by
 unfold spec_DrawSuspects at h
 refine ofb Tryz.f35 false ?_
 refine Wp.sa ?_
 refine Wp.cl false 1 8 [.s p0] h (fun _=>spec_l15Node_ok) (fun r1 h=>?_)
 refine Wp.cl false 1 12 [.obj 8 0,.i 5] h (fun _=>spec_l1Below_ok) (fun r2 h=>?_)
 refine Wp.seq ?_
 refine Wp.regionA (pOf [8]) (rhoOf [(2,.obj 2),(3,.obj 3),(4,.obj 8),(5,.obj 5),(14,.obj 8),(15,.frz),(16,.frz)]) kr kr ?_
 refine Runs.cl false 1 15 [.obj 8 0] h (fun _=>spec_l19Any_ok) (fun r3 h=>?_)
 refine Runs.alln ?_
 obtain rfl:=oi h
 exact Wp.ret RetB
theorem spec_DrawTicksToDone_ok {u p0 r} (h:spec_DrawTicksToDone u p0=some r):CallOK Tryz.prog 36 [.one (.s p0)] (V.g (Node.enc r)) []:=by
 unfold spec_DrawTicksToDone at h
 refine ofb Tryz.f36 false ?_
 refine Wp.sa ?_
 refine Wp.cl false 1 7 [.s p0] h (fun _=>spec_l15Node_ok) (fun r1 h=>?_)
 refine Wp.sa ?_
 obtain rfl:=oi h
 exact Wp.ret RetB
theorem spec_l8Copy_ok {u p0 r} (h:spec_l8Copy u p0=some r):CallOK Tryz.prog 199 [V.g (Build.enc p0)] (V.w [0,5] (Build.enc r)) []:=by
 unfold spec_l8Copy at h
 refine ofb Tryz.f199 true ?_
 refine Wp.sa ?_
 refine Wp.seq ?_
 refine Wp.regionA (pOf []) (rhoOf [(1,.obj 1),(2,.obj 2),(3,.obj 1),(4,.frz),(5,.own 5),(6,.obj 1),(7,.frz),(8,.own 8),(9,.own 8)]) kr kr ?_
 refine Runs.ap 5 8 5 1 327680 (eInt .u8) h (fun h=>?_)
 refine Runs.alln ?_
 obtain rfl:=oi h
 exact Wp.ret RetB
theorem spec_l15Copy_ok {u p0 r} (h:spec_l15Copy u p0=some r):CallOK Tryz.prog 120 [V.g (Node.enc p0)] (V.w [0,0,0,0,0,0,177,0,5,0,188,0] (Node.enc r)) []:=by
 unfold spec_l15Copy at h
 refine ofb Tryz.f120 true ?_
 refine Wp.sa ?_
 refine Wp.sa ?_
 refine Wp.cl false 2 7 [.agg ((Manifest.enc p0.fMan).map .t)] h (fun _=>spec_l6Copy_ok) (fun r1 h=>?_)
 refine Wp.cl false 2 11 [.agg [.i p0.fBld.fHave,.s p0.fBld.fBuf]] h (fun _=>spec_l8Copy_ok) (fun r2 h=>?_)
 refine Wp.sr ?_
 refine Runs.ap 3 16 188 5 851968 Kid.enc h (fun h=>?_)
 refine Runs.alln ?_
 refine Wp.sa ?_
 obtain rfl:=oi h
 exact Wp.ret RetB
theorem spec_AgeAll_ok {u p0 p1 r} (h:spec_AgeAll u p0 p1=some r):CallOK Tryz.prog 122 [.one (.t (.sl 5 (p0.map Kid.enc))),V.i p1] (.one (.ow 188 5 (r.map Kid.enc))) []:=by
 unfold spec_AgeAll at h
 refine ofb Tryz.f122 true ?_
 refine Wp.sa ?_
 refine Wp.sa ?_
 refine Wp.j1 (fun x9=>spec_AgeAll_j1 u x9=some r) (fun x9=>⟨[(4,.nil),(5,.own 327681)],[],[(327681,.live 188 5 (x9.map Kid.enc))]⟩) (fun x9 h=>?_) ?_
 ·refine Wp.sa ?_
  obtain rfl:=oi h
  exact Wp.ret RetB
 refine Wp.sa ?_
 refine Wp.block ?_
 refine Wp.l4 (fun k_spec_AgeAll_l2 p0 p1 x3 x4=>spec_AgeAll_l2 u k_spec_AgeAll_l2 p0 p1 x3 x4=some r) (fun p0 p1 x3 x4=>⟨[(0,.t (.sl 5 (p0.map Kid.enc))),(1,.i p1),(4,.nil),(5,.own 327681),(6,.i x4)],[],[(327681,.live 188 5 (x3.map Kid.enc))]⟩) (fun k_spec_AgeAll_l2 p0 p1 x3 x4 h=>?_) h (lo [(327681,524288)]) (fun _ _ _ _  h=>nomatch h)
 rw [spec_AgeAll_l2] at h
 refine Wp.seq ?_
 refine Wp.sr ?_
 refine Runs.ln 2 188 Kid.enc p0 ?_
 refine Runs.alln ?_
 refine Wp.c2 h (fun h=>?_) (fun h=>?_)
 ·refine Wp.sk ?_
  refine Wp.j4 (fun p0 p1 x8 x4=>spec_AgeAll_j3 u (fun z0 z1 z2 z3=>spec_AgeAll_l2 u k_spec_AgeAll_l2 z0 z1 z2 z3) p0 p1 x8 x4=some r) (fun p0 p1 x8 x4=>⟨[(0,.t (.sl 5 (p0.map Kid.enc))),(1,.i p1),(4,.nil),(5,.own 327681),(6,.i x4)],[],[(327681,.live 188 5 (x8.map Kid.enc))]⟩) (fun p0 p1 x8 x4 h=>?_) ?_
  ·refine Wp.rg [] [] ?_
   refine Runs.alln ?_
   exact ⟨_,_,_,_,h,lo []⟩
  refine Wp.block ?_
  refine Wp.sr ?_
  refine Runs.ix 2 188 5 Kid.enc h (fun y7 h _=>?_)
  refine Runs.alln ?_
  refine Wp.sa ?_
  refine Wp.seq ?_
  refine Wp.sa ?_
  refine Wp.c2 h (fun h=>?_) (fun h=>?_)
  ·refine Wp.exit ?_
   refine thenE ?_
   refine blkE ?_
   refine thenN ?_
   exact ⟨_,_,_,_,h,lo []⟩
  refine Wp.sk ?_
  refine Wp.sa ?_
  refine Wp.rg [] [] ?_
  refine Runs.ap (ys:=[(Kid.mk y7.fId y7.fWant y7.fDone (bAdd .i64 y7.fAge 1) 0)]) 3 31 188 5 327681 Kid.enc h (fun h=>?_)
  refine Runs.all kr ?_
  refine blkN ?_
  refine thenN ?_
  exact ⟨_,_,_,_,h,lo [(327681,2031616)]⟩
 refine Wp.exit ?_
 refine thenE ?_
 refine thenE ?_
 refine blkE ?_
 refine thenN ?_
 exact ⟨_,h,lo []⟩
theorem spec_TreeOk_ok {u p0 r} (h:spec_TreeOk u p0=some r):CallOK Tryz.prog 92 [V.g (Tree.enc p0)] (V.b r) []:=by
 unfold spec_TreeOk at h
 refine ofb Tryz.f92 false ?_
 refine Wp.sa ?_
 refine Wp.seq ?_
 refine Wp.j2 (fun x3 p0=>spec_TreeOk_j1 u x3 p0=some r) (fun x3 p0=>⟨[(1,.obj 1 0),(2,.b false),(15,.b x3)],[(1,[.t (.sl 1 (p0.fUp.map (eInt .i64)))])],[]⟩) (fun x3 p0 h=>?_) ?_
 ·refine Wp.c2 h (fun h=>?_) (fun h=>?_)
  ·refine Wp.sa ?_
   obtain rfl:=oi h
   exact Wp.ret RetB
  refine Wp.sk ?_
  refine Wp.j0 (spec_TreeOk_j2 u=some r) ⟨[(2,.b false)],[],[]⟩ (fun h=>?_) ?_
  ·refine Wp.sa ?_
   obtain rfl:=oi h
   exact Wp.ret RetB
  refine Wp.sa ?_
  refine Wp.block ?_
  refine Wp.l2 (fun k_spec_TreeOk_l3 x5 p0=>spec_TreeOk_l3 u k_spec_TreeOk_l3 x5 p0=some r) (fun x5 p0=>⟨[(1,.obj 1 0),(2,.b false),(3,.i x5)],[(1,[.t (.sl 1 (p0.fUp.map (eInt .i64)))])],[]⟩) (fun k_spec_TreeOk_l3 x5 p0 h=>?_) h (lo []) (fun _ _  h=>nomatch h)
  rw [spec_TreeOk_l3] at h
  refine Wp.seq ?_
  refine Wp.sr ?_
  refine Runs.ln 3 3 (eInt .i64) p0.fUp ?_
  refine Runs.alln ?_
  refine Wp.c2 h (fun h=>?_) (fun h=>?_)
  ·refine Wp.sk ?_
   refine Wp.seq ?_
   refine Wp.block ?_
   refine Wp.sr ?_
   refine Runs.ix 3 3 1 (eInt .i64) h (fun y7 h _=>?_)
   refine Runs.cl false 3 30 [.i y7,.i 0,.i (bSub .i64 x5 1)] h (fun _=>spec_l1In_ok) (fun r8 h=>?_)
   refine Runs.alln ?_
   refine Wp.c2 h (fun h=>?_) (fun h=>?_)
   ·refine Wp.sa ?_
    obtain rfl:=oi h
    exact Wp.ret RetB
   refine Wp.skip ?_
   refine blkN ?_
   refine thenN ?_
   refine Wp.rg [] [] ?_
   refine Runs.alln ?_
   exact ⟨_,_,h,lo []⟩
  refine Wp.exit ?_
  refine thenE ?_
  refine thenE ?_
  refine blkE ?_
  refine thenN ?_
  exact ⟨h,lo []⟩
 refine Wp.rg [] [] ?_
 refine Runs.ln 2 3 (eInt .i64) p0.fUp ?_
 refine Runs.cl false 0 7 [.i ((p0.fUp.length:Int)),.i 1,.i 7] h (fun _=>spec_l1In_ok) (fun r1 h=>?_)
 refine Runs.c2 2 9 h (fun h=>?_) (fun h=>?_)
 ·refine Runs.alln ?_
  exact ⟨_,_,h,lo []⟩
 refine Runs.ix 2 3 1 (eInt .i64) h (fun y2 h _=>?_)
 refine Runs.alln ?_
 exact ⟨_,_,h,lo []⟩
theorem spec_PathUp_ok {u p0 p1 r} (h:spec_PathUp u p0 p1=some r):CallOK Tryz.prog 275 [V.g (Tree.enc p0),V.i p1] (.one (.ow 3 1 (r.map (eInt .i64)))) []:=by
 unfold spec_PathUp at h
 refine ofb Tryz.f275 true ?_
 refine Wp.sa ?_
 refine Wp.sa ?_
 refine Wp.j1 (fun x11=>spec_PathUp_j1 u x11=some r) (fun x11=>⟨[(4,.nil),(5,.own 327681)],[],[(327681,.live 3 1 (x11.map (eInt .i64)))]⟩) (fun x11 h=>?_) ?_
 ·refine Wp.sa ?_
  obtain rfl:=oi h
  exact Wp.ret RetB
 refine Wp.block ?_
 refine Wp.l3 (fun k_spec_PathUp_l2 x3 x4 p0=>spec_PathUp_l2 u k_spec_PathUp_l2 x3 x4 p0=some r) (fun x3 x4 p0=>⟨[(1,.i x3),(2,.obj 2 0),(4,.nil),(5,.own 327681)],[(2,[.t (.sl 1 (p0.fUp.map (eInt .i64)))])],[(327681,.live 3 1 (x4.map (eInt .i64)))]⟩) (fun k_spec_PathUp_l2 x3 x4 p0 h=>?_) h (lo [(327681,393216)]) (fun _ _ _  h=>nomatch h)
 rw [spec_PathUp_l2] at h
 refine Wp.seq ?_
 refine Wp.j4 (fun x3 x4 x8 p0=>spec_PathUp_j3 u (fun z0 z1 z2=>spec_PathUp_l2 u k_spec_PathUp_l2 z0 z1 z2) x3 x4 x8 p0=some r) (fun x3 x4 x8 p0=>⟨[(1,.i x3),(2,.obj 2 0),(4,.nil),(5,.own 327681),(20,.b x8)],[(2,[.t (.sl 1 (p0.fUp.map (eInt .i64)))])],[(327681,.live 3 1 (x4.map (eInt .i64)))]⟩) (fun x3 x4 x8 p0 h=>?_) ?_
 ·refine Wp.c2 h (fun h=>?_) (fun h=>?_)
  ·refine Wp.sk ?_
   refine Wp.block ?_
   refine Wp.sr ?_
   refine Runs.ap 3 24 3 1 327681 (eInt .i64) h (fun h=>?_)
   refine Runs.alln ?_
   refine Wp.rg [] [] ?_
   refine Runs.ix 3 3 1 (eInt .i64) h (fun y10 h _=>?_)
   refine Runs.all kr ?_
   refine blkN ?_
   refine thenN ?_
   exact ⟨_,_,_,h,lo [(327681,1572864)]⟩
  refine Wp.exit ?_
  refine thenE ?_
  refine thenE ?_
  refine blkE ?_
  refine thenN ?_
  exact ⟨_,h,lo []⟩
 refine Wp.rg [] [] ?_
 refine Runs.ln 3 3 (eInt .i64) p0.fUp ?_
 refine Runs.cl false 1 12 [.i x3,.i 0,.i (bSub .i64 ((p0.fUp.length:Int)) 1)] h (fun _=>spec_l1In_ok) (fun r7 h=>?_)
 refine Runs.c2 1 13 h (fun h=>?_) (fun h=>?_)
 ·refine Runs.ln 1 3 (eInt .i64) x4 ?_
  refine Runs.ln 2 3 (eInt .i64) p0.fUp ?_
  refine Runs.alln ?_
  exact ⟨_,_,_,_,h,lo []⟩
 refine Runs.alln ?_
 exact ⟨_,_,_,_,h,lo []⟩
theorem spec_l13Has_ok {u p0 p1 r} (h:spec_l13Has u p0 p1=some r):CallOK Tryz.prog 274 [.one (.t (.sl 1 (p0.map (eInt .i64)))),V.i p1] (V.b r) []:=by
 unfold spec_l13Has at h
 refine ofb Tryz.f274 false ?_
 refine Wp.sa ?_
 refine Wp.j0 (spec_l13Has_j1 u=some r) ⟨[(4,.b false)],[],[]⟩ (fun h=>?_) ?_
 ·refine Wp.sa ?_
  obtain rfl:=oi h
  exact Wp.ret RetB
 refine Wp.sa ?_
 refine Wp.block ?_
 refine Wp.l3 (fun k_spec_l13Has_l2 p0 p1 x2=>spec_l13Has_l2 u k_spec_l13Has_l2 p0 p1 x2=some r) (fun p0 p1 x2=>⟨[(0,.t (.sl 1 (p0.map (eInt .i64)))),(1,.i p1),(4,.b false),(5,.i x2)],[],[]⟩) (fun k_spec_l13Has_l2 p0 p1 x2 h=>?_) h (lo []) (fun _ _ _  h=>nomatch h)
 rw [spec_l13Has_l2] at h
 refine Wp.seq ?_
 refine Wp.sr ?_
 refine Runs.ln 2 3 (eInt .i64) p0 ?_
 refine Runs.alln ?_
 refine Wp.c2 h (fun h=>?_) (fun h=>?_)
 ·refine Wp.sk ?_
  refine Wp.seq ?_
  refine Wp.block ?_
  refine Wp.sr ?_
  refine Runs.ix 2 3 1 (eInt .i64) h (fun y4 h _=>?_)
  refine Runs.alln ?_
  refine Wp.c2 h (fun h=>?_) (fun h=>?_)
  ·refine Wp.sa ?_
   obtain rfl:=oi h
   exact Wp.ret RetB
  refine Wp.skip ?_
  refine blkN ?_
  refine thenN ?_
  refine Wp.rg [] [] ?_
  refine Runs.alln ?_
  exact ⟨_,_,_,h,lo []⟩
 refine Wp.exit ?_
 refine thenE ?_
 refine thenE ?_
 refine blkE ?_
 refine thenN ?_
 exact ⟨h,lo []⟩
theorem spec_Ancestor_ok {u p0 p1 p2 r} (h:spec_Ancestor u p0 p1 p2=some r):CallOK Tryz.prog 201 [V.g (Tree.enc p0),V.i p1,V.i p2] (V.b r) []:=by
 unfold spec_Ancestor at h
 refine ofb Tryz.f201 false ?_
 refine Wp.sa ?_
 refine Wp.sr ?_
 refine Runs.c2 4 10 h (fun h=>?_) (fun h=>?_)
 ·refine Runs.cl false 2 13 [.agg [.t (.sl 1 (p0.fUp.map (eInt .i64)))],.i p2] h (fun _=>spec_PathUp_ok) (fun r1 h=>?_)
  refine Runs.cb 1 15 [.own 851968,.i p1] h (fun _=>spec_l13Has_ok) (fun r2 h=>?_)
  refine Runs.alln ?_
  obtain rfl:=oi h
  exact Wp.ret RetB
 refine Runs.alln ?_
 obtain rfl:=oi h
 exact Wp.ret RetB
theorem spec_NextBoss_ok {u p0 p1 p2 r} (h:spec_NextBoss u p0 p1 p2=some r):CallOK Tryz.prog 123 [V.g (Tree.enc p0),V.i p1,V.i p2] (V.i r) []:=by
 unfold spec_NextBoss at h
 refine ofb Tryz.f123 false ?_
 refine Wp.sa ?_
 refine Wp.seq ?_
 refine Wp.j4 (fun p1 p2 x3 p0=>spec_NextBoss_j1 u p1 p2 x3 p0=some r) (fun p1 p2 x3 p0=>⟨[(1,.i p1),(2,.i p2),(3,.obj 3 0),(6,.i 0),(18,.b x3)],[(3,[.t (.sl 1 (p0.fUp.map (eInt .i64)))])],[]⟩) (fun p1 p2 x3 p0 h=>?_) ?_
 ·refine Wp.c2 h (fun h=>?_) (fun h=>?_)
  ·refine Wp.sa ?_
   obtain rfl:=oi h
   exact Wp.ret RetB
  refine Wp.sk ?_
  refine Wp.seq ?_
  refine Wp.j4 (fun p1 p2 x5 p0=>spec_NextBoss_j2 u p1 p2 x5 p0=some r) (fun p1 p2 x5 p0=>⟨[(1,.i p1),(2,.i p2),(3,.obj 3 0),(6,.i 0),(27,.b x5)],[(3,[.t (.sl 1 (p0.fUp.map (eInt .i64)))])],[]⟩) (fun p1 p2 x5 p0 h=>?_) ?_
  ·refine Wp.c2 h (fun h=>?_) (fun h=>?_)
   ·refine Wp.sr ?_
    refine Runs.ix 3 3 1 (eInt .i64) h (fun y6 h _=>?_)
    refine Runs.alln ?_
    obtain rfl:=oi h
    exact Wp.ret RetB
   refine Wp.sk ?_
   refine Wp.sr ?_
   refine Runs.ix 3 3 1 (eInt .i64) h (fun y7 h _=>?_)
   refine Runs.alln ?_
   obtain rfl:=oi h
   exact Wp.ret RetB
  refine Wp.rg [] [] ?_
  refine Runs.c2 3 21 h (fun h=>?_) (fun h=>?_)
  ·refine Runs.alln ?_
   exact ⟨_,_,_,_,h,lo []⟩
  refine Runs.cl false 3 25 [.agg [.t (.sl 1 (p0.fUp.map (eInt .i64)))],.i p2,.i p1] h (fun _=>spec_Ancestor_ok) (fun r4 h=>?_)
  refine Runs.alln ?_
  exact ⟨_,_,_,_,h,lo []⟩
 refine Wp.rg [] [] ?_
 refine Runs.cl false 1 8 [.agg [.t (.sl 1 (p0.fUp.map (eInt .i64)))]] h (fun _=>spec_TreeOk_ok) (fun r1 h=>?_)
 refine Runs.c2 2 10 h (fun h=>?_) (fun h=>?_)
 ·refine Runs.alln ?_
  exact ⟨_,_,_,_,h,lo []⟩
 refine Runs.ln 3 3 (eInt .i64) p0.fUp ?_
 refine Runs.cl false 1 16 [.i p1,.i 1,.i (bSub .i64 ((p0.fUp.length:Int)) 1)] h (fun _=>spec_l1In_ok) (fun r2 h=>?_)
 refine Runs.alln ?_
 exact ⟨_,_,_,_,h,lo []⟩
theorem spec_LackOf_ok {u p0 r} (h:spec_LackOf u p0=some r):CallOK Tryz.prog 209 [V.g (Node.enc p0)] (V.i r) []:=by
 unfold spec_LackOf at h
 refine ofb Tryz.f209 false ?_
 refine Wp.sa ?_
 refine Wp.seq ?_
 refine Wp.sa ?_
 refine Wp.c2 h (fun h=>?_) (fun h=>?_)
 ·refine Wp.sa ?_
  obtain rfl:=oi h
  exact Wp.ret RetB
 refine Wp.sk ?_
 refine Wp.cl false 4 10 [.agg ((Manifest.enc p0.fMan).map .t),.agg [.i p0.fBld.fHave,.s p0.fBld.fBuf]] h (fun _=>spec_Missing_ok) (fun r1 h=>?_)
 obtain rfl:=oi h
 exact Wp.ret RetB
theorem spec_FirstOf_ok {u p0 p1 r} (h:spec_FirstOf u p0 p1=some r):CallOK Tryz.prog 208 [V.i p0,V.i p1] (V.i r) []:=by
 unfold spec_FirstOf at h
 refine ofb Tryz.f208 false ?_
 refine Wp.sa ?_
 refine Wp.sa ?_
 refine Wp.j1 (fun x14=>spec_FirstOf_j1 u x14=some r) (fun x14=>⟨[(4,.i 0),(5,.i x14)],[],[]⟩) (fun x14 h=>?_) ?_
 ·refine Wp.sa ?_
  obtain rfl:=oi h
  exact Wp.ret RetB
 refine Wp.sa ?_
 refine Wp.block ?_
 refine Wp.l4 (fun k_spec_FirstOf_l2 p0 x4 x5 x6=>spec_FirstOf_l2 u k_spec_FirstOf_l2 p0 x4 x5 x6=some r) (fun p0 x4 x5 x6=>⟨[(0,.i p0),(1,.i x4),(4,.i 0),(5,.i x5),(6,.i x6)],[],[]⟩) (fun k_spec_FirstOf_l2 p0 x4 x5 x6 h=>?_) h (lo []) (fun _ _ _ _  h=>nomatch h)
 rw [spec_FirstOf_l2] at h
 refine Wp.seq ?_
 refine Wp.j5 (fun p0 x4 x5 x6 x10=>spec_FirstOf_j3 u (fun z0 z1 z2 z3=>spec_FirstOf_l2 u k_spec_FirstOf_l2 z0 z1 z2 z3) p0 x4 x5 x6 x10=some r) (fun p0 x4 x5 x6 x10=>⟨[(0,.i p0),(1,.i x4),(4,.i 0),(5,.i x5),(6,.i x6),(12,.b x10)],[],[]⟩) (fun p0 x4 x5 x6 x10 h=>?_) ?_
 ·refine Wp.c2 h (fun h=>?_) (fun h=>?_)
  ·refine Wp.sk ?_
   refine Wp.j4 (fun p0 x12 x13 x6=>spec_FirstOf_j4 u (fun z0 z1 z2 z3=>spec_FirstOf_l2 u k_spec_FirstOf_l2 z0 z1 z2 z3) p0 x12 x13 x6=some r) (fun p0 x12 x13 x6=>⟨[(0,.i p0),(1,.i x12),(4,.i 0),(5,.i x13),(6,.i x6)],[],[]⟩) (fun p0 x12 x13 x6 h=>?_) ?_
   ·refine Wp.rg [] [] ?_
    refine Runs.alln ?_
    exact ⟨_,_,_,_,h,lo []⟩
   refine Wp.block ?_
   refine Wp.cl false 2 17 [.i p0,.i x6] h (fun _=>spec_InSet_ok) (fun r11 h=>?_)
   refine Wp.c2 h (fun h=>?_) (fun h=>?_)
   ·refine Wp.sr ?_
    refine Runs.batch 2 kr ?_
    obtain ⟨_,e_12,h⟩:=bind_some h
    refine Runs.num .shl (.int .i64 1) (.int .i64 x6) (.int .i64 (bShl .i64 1 x6)) rfl kr kr kr kr (bin_shl _ _ _ _ _ (chk_some e_12)) ?_
    refine Runs.alln ?_
    refine Wp.rg [] [] ?_
    refine Runs.all kr ?_
    refine blkN ?_
    refine thenN ?_
    exact ⟨_,_,_,_,h,lo []⟩
   refine Wp.skip ?_
   refine blkN ?_
   refine thenN ?_
   exact ⟨_,_,_,_,h,lo []⟩
  refine Wp.exit ?_
  refine thenE ?_
  refine thenE ?_
  refine blkE ?_
  refine thenN ?_
  exact ⟨_,h,lo []⟩
 refine Wp.rg [] [] ?_
 refine Runs.c2 3 9 h (fun h=>?_) (fun h=>?_)
 ·refine Runs.alln ?_
  exact ⟨_,_,_,_,_,h,lo []⟩
 refine Runs.alln ?_
 exact ⟨_,_,_,_,_,h,lo []⟩
theorem spec_WantOf_ok {u p0 p1 r} (h:spec_WantOf u p0 p1=some r):CallOK Tryz.prog 127 [V.g (Node.enc p0),V.i p1] (V.i r) []:=by
 unfold spec_WantOf at h
 refine ofb Tryz.f127 false ?_
 refine Wp.sa ?_
 refine Wp.sr ?_
 refine Runs.cl false 1 6 [.agg ((Node.enc p0).map .t)] h (fun _=>spec_LackOf_ok) (fun r1 h=>?_)
 refine Runs.cl false 1 8 [.i r1,.i p1] h (fun _=>spec_FirstOf_ok) (fun r2 h=>?_)
 refine Runs.alln ?_
 obtain rfl:=oi h
 exact Wp.ret RetB
theorem spec_DoneOf_ok {u p0 r} (h:spec_DoneOf u p0=some r):CallOK Tryz.prog 142 [.one (.t (.sl 5 (p0.map Kid.enc)))] (V.i r) []:=by
 unfold spec_DoneOf at h
 refine ofb Tryz.f142 false ?_
 refine Wp.sa ?_
 refine Wp.sa ?_
 refine Wp.j1 (fun x11=>spec_DoneOf_j1 u x11=some r) (fun x11=>⟨[(2,.i 0),(3,.i x11)],[],[]⟩) (fun x11 h=>?_) ?_
 ·refine Wp.sa ?_
  obtain rfl:=oi h
  exact Wp.ret RetB
 refine Wp.sa ?_
 refine Wp.block ?_
 refine Wp.l3 (fun k_spec_DoneOf_l2 p0 x3 x4=>spec_DoneOf_l2 u k_spec_DoneOf_l2 p0 x3 x4=some r) (fun p0 x3 x4=>⟨[(0,.t (.sl 5 (p0.map Kid.enc))),(2,.i 0),(3,.i x3),(4,.i x4)],[],[]⟩) (fun k_spec_DoneOf_l2 p0 x3 x4 h=>?_) h (lo []) (fun _ _ _  h=>nomatch h)
 rw [spec_DoneOf_l2] at h
 refine Wp.seq ?_
 refine Wp.sr ?_
 refine Runs.ln 2 188 Kid.enc p0 ?_
 refine Runs.alln ?_
 refine Wp.c2 h (fun h=>?_) (fun h=>?_)
 ·refine Wp.sk ?_
  refine Wp.j3 (fun p0 x10 x4=>spec_DoneOf_j3 u (fun z0 z1 z2=>spec_DoneOf_l2 u k_spec_DoneOf_l2 z0 z1 z2) p0 x10 x4=some r) (fun p0 x10 x4=>⟨[(0,.t (.sl 5 (p0.map Kid.enc))),(2,.i 0),(3,.i x10),(4,.i x4)],[],[]⟩) (fun p0 x10 x4 h=>?_) ?_
  ·refine Wp.rg [] [] ?_
   refine Runs.alln ?_
   exact ⟨_,_,_,h,lo []⟩
  refine Wp.block ?_
  refine Wp.sr ?_
  refine Runs.ix 2 188 5 Kid.enc h (fun y7 h _=>?_)
  refine Runs.cl false 2 16 [.i y7.fDone] h (fun _=>spec_SetOk_ok) (fun r8 h=>?_)
  refine Runs.alln ?_
  refine Wp.c2 h (fun h=>?_) (fun h=>?_)
  ·refine Wp.rg [] [] ?_
   refine Runs.ix 3 188 5 Kid.enc h (fun y9 h _=>?_)
   refine Runs.all kr ?_
   refine blkN ?_
   refine thenN ?_
   exact ⟨_,_,_,h,lo []⟩
  refine Wp.skip ?_
  refine blkN ?_
  refine thenN ?_
  exact ⟨_,_,_,h,lo []⟩
 refine Wp.exit ?_
 refine thenE ?_
 refine thenE ?_
 refine blkE ?_
 refine thenN ?_
 exact ⟨_,h,lo []⟩
theorem spec_DoneSet_ok {u p0 p1 r} (h:spec_DoneSet u p0 p1=some r):CallOK Tryz.prog 128 [V.g (Node.enc p0),V.i p1] (V.i r) []:=by
 unfold spec_DoneSet at h
 refine ofb Tryz.f128 false ?_
 refine Wp.sa ?_
 refine Wp.cl false 2 8 [.t (.sl 5 (p0.fKids.map Kid.enc))] h (fun _=>spec_DoneOf_ok) (fun r1 h=>?_)
 refine Wp.j1 (fun x3=>spec_DoneSet_j1 u x3=some r) (fun x3=>⟨[(4,.i 0),(5,.i x3)],[],[]⟩) (fun x3 h=>?_) ?_
 ·refine Wp.sa ?_
  obtain rfl:=oi h
  exact Wp.ret RetB
 refine Wp.sa ?_
 refine Wp.c2 h (fun h=>?_) (fun h=>?_)
 ·refine Wp.rg [] [] ?_
  refine Runs.cl false 2 14 [.i r1,.i p1] h (fun _=>spec_WithPart_ok) (fun r2 h=>?_)
  refine Runs.alln ?_
  exact ⟨_,h,lo []⟩
 refine Wp.sk ?_
 exact ⟨_,h,lo []⟩
theorem spec_WantMsg_ok {u p0 p1 p2 r} (h:spec_WantMsg u p0 p1 p2=some r):CallOK Tryz.prog 126 [V.i p0,V.i p1,V.i p2] (V.w [0,0,0,0,0,177,0,0,0,5] (Msg.enc r)) []:=by
 unfold spec_WantMsg at h
 refine ofb Tryz.f126 true ?_
 refine Wp.sa ?_
 refine Wp.sa ?_
 obtain rfl:=oi h
 exact Wp.ret RetB
theorem spec_SameMan_ok {u p0 p1 r} (h:spec_SameMan u p0 p1=some r):CallOK Tryz.prog 100 [V.g (Manifest.enc p0),V.g (Manifest.enc p1)] (V.b r) []:=by
 unfold spec_SameMan at h
 refine ofb Tryz.f100 false ?_
 refine Wp.sa ?_
 refine Wp.sr ?_
 refine Runs.c2 6 10 h (fun h=>?_) (fun h=>?_)
 ·refine Runs.c2 7 17 h (fun h=>?_) (fun h=>?_)
  ·refine Runs.c2 7 24 h (fun h=>?_) (fun h=>?_)
   ·refine Runs.cl false 4 29 [.t (.sl 2 (p0.fSums.map Sum.enc)),.t (.sl 2 (p1.fSums.map Sum.enc))] h (fun _=>spec_l6SameSums_ok) (fun r1 h=>?_)
    refine Runs.alln ?_
    obtain rfl:=oi h
    exact Wp.ret RetB
   refine Runs.alln ?_
   obtain rfl:=oi h
   exact Wp.ret RetB
  refine Runs.alln ?_
  obtain rfl:=oi h
  exact Wp.ret RetB
 refine Runs.alln ?_
 obtain rfl:=oi h
 exact Wp.ret RetB
theorem spec_MsgOk_ok {u p0 r} (h:spec_MsgOk u p0=some r):CallOK Tryz.prog 281 [V.g (Msg.enc p0)] (V.b r) []:=by
 unfold spec_MsgOk at h
 refine ofb Tryz.f281 false ?_
 refine Wp.sa ?_
 refine Wp.cl false 3 8 [.agg ((Manifest.enc p0.fMan).map .t),.agg [.i 0,.i 0,.i 0,.nil]] h (fun _=>spec_SameMan_ok) (fun r1 h=>?_)
 refine Wp.j3 (fun r1 x2 p0=>spec_MsgOk_j1 u r1 x2 p0=some r) (fun r1 x2 p0=>⟨[(1,.obj 1 0),(2,.b false),(3,.b r1),(4,.b x2)],[(1,((Msg.enc p0).map .t))],[]⟩) (fun r1 x2 p0 h=>?_) ?_
 ·refine Wp.seq ?_
  refine Wp.sa ?_
  refine Wp.block ?_
  refine Wp.sa ?_
  refine Wp.c2 h (fun h=>?_) (fun h=>?_)
  ·refine Wp.sr ?_
   refine Runs.c2 4 35 h (fun h=>?_) (fun h=>?_)
   ·refine Runs.c2 6 41 h (fun h=>?_) (fun h=>?_)
    ·refine Runs.cl false 2 44 [.agg ((Manifest.enc p0.fMan).map .t)] h (fun _=>spec_ManOk_ok) (fun r3 h=>?_)
     refine Runs.c2 2 46 h (fun h=>?_) (fun h=>?_)
     ·refine Runs.alln ?_
      obtain rfl:=oi h
      exact Wp.ret RetB
     refine Runs.alln ?_
     obtain rfl:=oi h
     exact Wp.ret RetB
    refine Runs.alln ?_
    obtain rfl:=oi h
    exact Wp.ret RetB
   refine Runs.alln ?_
   obtain rfl:=oi h
   exact Wp.ret RetB
  refine Wp.sa ?_
  refine Wp.c2 h (fun h=>?_) (fun h=>?_)
  ·refine Wp.sr ?_
   refine Runs.cl false 2 53 [.i p0.fGen,.i 0,.i 1000000] h (fun _=>spec_l1In_ok) (fun r4 h=>?_)
   refine Runs.c2 1 54 h (fun h=>?_) (fun h=>?_)
   ·refine Runs.c2 3 57 h (fun h=>?_) (fun h=>?_)
    ·refine Runs.cl false 2 60 [.i p0.fWant] h (fun _=>spec_SetOk_ok) (fun r5 h=>?_)
     refine Runs.c2 2 62 h (fun h=>?_) (fun h=>?_)
     ·refine Runs.cl false 2 65 [.i p0.fDone] h (fun _=>spec_SetOk_ok) (fun r6 h=>?_)
      refine Runs.c2 2 67 h (fun h=>?_) (fun h=>?_)
      ·refine Runs.c2 5 72 h (fun h=>?_) (fun h=>?_)
       ·refine Runs.ln 2 5 (eInt .u8) p0.fB ?_
        refine Runs.alln ?_
        obtain rfl:=oi h
        exact Wp.ret RetB
       refine Runs.alln ?_
       obtain rfl:=oi h
       exact Wp.ret RetB
      refine Runs.alln ?_
      obtain rfl:=oi h
      exact Wp.ret RetB
     refine Runs.alln ?_
     obtain rfl:=oi h
     exact Wp.ret RetB
    refine Runs.alln ?_
    obtain rfl:=oi h
    exact Wp.ret RetB
   refine Runs.alln ?_
   obtain rfl:=oi h
   exact Wp.ret RetB
  refine Wp.sa ?_
  refine Wp.c2 h (fun h=>?_) (fun h=>?_)
  ·refine Wp.sr ?_
   refine Runs.cl false 2 82 [.i p0.fGen,.i 1,.i 1000000] h (fun _=>spec_l1In_ok) (fun r7 h=>?_)
   refine Runs.c2 1 83 h (fun h=>?_) (fun h=>?_)
   ·refine Runs.c2 3 86 h (fun h=>?_) (fun h=>?_)
    ·refine Runs.c2 5 91 h (fun h=>?_) (fun h=>?_)
     ·refine Runs.c2 5 96 h (fun h=>?_) (fun h=>?_)
      ·refine Runs.cl false 2 99 [.i p0.fI,.i 0,.i 39] h (fun _=>spec_l1In_ok) (fun r8 h=>?_)
       refine Runs.c2 2 101 h (fun h=>?_) (fun h=>?_)
       ·refine Runs.ln 2 5 (eInt .u8) p0.fB ?_
        refine Runs.cl false 0 105 [.i ((p0.fB.length:Int)),.i 1,.i 6] h (fun _=>spec_l1In_ok) (fun r9 h=>?_)
        refine Runs.alln ?_
        obtain rfl:=oi h
        exact Wp.ret RetB
       refine Runs.alln ?_
       obtain rfl:=oi h
       exact Wp.ret RetB
      refine Runs.alln ?_
      obtain rfl:=oi h
      exact Wp.ret RetB
     refine Runs.alln ?_
     obtain rfl:=oi h
     exact Wp.ret RetB
    refine Runs.alln ?_
    obtain rfl:=oi h
    exact Wp.ret RetB
   refine Runs.alln ?_
   obtain rfl:=oi h
   exact Wp.ret RetB
  refine Wp.skip ?_
  refine blkN ?_
  refine thenN ?_
  refine Wp.sr ?_
  refine Runs.c2 4 110 h (fun h=>?_) (fun h=>?_)
  ·refine Runs.cl false 2 113 [.i p0.fGen,.i 0,.i 1000000] h (fun _=>spec_l1In_ok) (fun r10 h=>?_)
   refine Runs.c2 2 115 h (fun h=>?_) (fun h=>?_)
   ·refine Runs.c2 3 118 h (fun h=>?_) (fun h=>?_)
    ·refine Runs.alln ?_
     obtain rfl:=oi h
     exact Wp.ret RetB
    refine Runs.alln ?_
    obtain rfl:=oi h
    exact Wp.ret RetB
   refine Runs.alln ?_
   obtain rfl:=oi h
   exact Wp.ret RetB
  refine Runs.alln ?_
  obtain rfl:=oi h
  exact Wp.ret RetB
 refine Wp.rg [] [] ?_
 refine Runs.c2 4 12 h (fun h=>?_) (fun h=>?_)
 ·refine Runs.c2 5 17 h (fun h=>?_) (fun h=>?_)
  ·refine Runs.c2 5 22 h (fun h=>?_) (fun h=>?_)
   ·refine Runs.ln 2 5 (eInt .u8) p0.fB ?_
    refine Runs.alln ?_
    exact ⟨_,_,_,h,lo []⟩
   refine Runs.alln ?_
   exact ⟨_,_,_,h,lo []⟩
  refine Runs.alln ?_
  exact ⟨_,_,_,h,lo []⟩
 refine Runs.alln ?_
 exact ⟨_,_,_,h,lo []⟩
theorem spec_PutVar_okd {u p0 p1 r} (h:spec_PutVar u p0 p1=some r):DOK Tryz.prog 282 [.one (.s p0),V.i p1] (.one (.ow 5 1 (r.map (eInt .u8)))):=by
 unfold spec_PutVar at h
 refine DOK.of_bodyK (fn:=Tryz.f282) (m:=true) kr rfl kr kr kr ?_
 refine Wp.sa ?_
 refine Wp.sr ?_
 refine Runs.batch 2 kr ?_
 obtain ⟨_,e_1,h⟩:=bind_some h
 refine Runs.appT (y:=.ext false (.sl 1 (p0.map (eInt .u8)))) (eInt .u8) 8 1 5 1 1 393216 (([]:List Int)) p0 rfl rfl rfl rfl kr kr kr kr kr (rows_extI _ _ _) (.inl rfl) kr (of_decide_eq_true (chk_some e_1)) kr kr ?_
 refine Runs.alln ?_
 refine Wp.seq ?_
 refine Wp.cl false 1 10 [.i p1,.i 0,.i 1000000000000] h (fun _=>spec_l1In_ok) (fun r2 h=>?_)
 refine Wp.c2 h (fun h=>?_) (fun h=>?_)
 ·refine Wp.sa ?_
  obtain rfl:=oi h
  exact Wp.ret RetB
 refine Wp.sk ?_
 refine Wp.j2 (fun x9 x10=>spec_PutVar_j1 u x9 x10=some r) (fun x9 x10=>⟨[(1,.i x9),(4,.nil),(5,.own 327681)],[],[(327681,.live 5 1 (x10.map (eInt .u8)))]⟩) (fun x9 x10 h=>?_) ?_
 ·refine Wp.sr ?_
  refine Runs.ap 4 28 5 1 327681 (eInt .u8) h (fun h=>?_)
  refine Runs.alln ?_
  obtain rfl:=oi h
  exact Wp.ret RetB
 refine Wp.block ?_
 refine Wp.l2 (fun k_spec_PutVar_l2 x5 x6=>spec_PutVar_l2 u k_spec_PutVar_l2 x5 x6=some r) (fun x5 x6=>⟨[(1,.i x5),(4,.nil),(5,.own 327681)],[],[(327681,.live 5 1 (x6.map (eInt .u8)))]⟩) (fun k_spec_PutVar_l2 x5 x6 h=>?_) h (lo [(327681,524288)]) (fun _ _  h=>nomatch h)
 rw [spec_PutVar_l2] at h
 refine Wp.seq ?_
 refine Wp.sa ?_
 refine Wp.c2 h (fun h=>?_) (fun h=>?_)
 ·refine Wp.sk ?_
  refine Wp.block ?_
  refine Wp.sr ?_
  refine Runs.ap 6 21 5 1 327681 (eInt .u8) h (fun h=>?_)
  refine Runs.alln ?_
  refine Wp.rg [] [] ?_
  refine Runs.all kr ?_
  refine blkN ?_
  refine thenN ?_
  exact ⟨_,_,h,lo [(327681,1376256)]⟩
 refine Wp.exit ?_
 refine thenE ?_
 refine thenE ?_
 refine blkE ?_
 refine thenN ?_
 exact ⟨_,_,h,lo []⟩
theorem spec_l6PutSum_ok {u p0 p1 r} (h:spec_l6PutSum u p0 p1=some r):CallOK Tryz.prog 326 [.one (.ow 5 1 (p0.map (eInt .u8))),V.i p1] (.one (.ow 5 1 (r.map (eInt .u8)))) []:=by
 unfold spec_l6PutSum at h
 refine ofb Tryz.f326 true ?_
 refine Wp.sa ?_
 refine Wp.j2 (fun x7 x8=>spec_l6PutSum_j1 u x7 x8=some r) (fun x7 x8=>⟨[(0,.own 1),(1,.i x8),(4,.nil)],[],[(1,.live 5 1 (x7.map (eInt .u8)))]⟩) (fun x7 x8 h=>?_) ?_
 ·refine Wp.sr ?_
  refine Runs.ap 4 20 5 1 1 (eInt .u8) h (fun h=>?_)
  refine Runs.alln ?_
  obtain rfl:=oi h
  exact Wp.ret RetB
 refine Wp.block ?_
 refine Wp.l2 (fun k_spec_l6PutSum_l2 x3 x4=>spec_l6PutSum_l2 u k_spec_l6PutSum_l2 x3 x4=some r) (fun x3 x4=>⟨[(0,.own 1),(1,.i x4),(4,.nil)],[],[(1,.live 5 1 (x3.map (eInt .u8)))]⟩) (fun k_spec_l6PutSum_l2 x3 x4 h=>?_) h (lo [(1,58982400)]) (fun _ _  h=>nomatch h)
 rw [spec_l6PutSum_l2] at h
 refine Wp.seq ?_
 refine Wp.sa ?_
 refine Wp.c2 h (fun h=>?_) (fun h=>?_)
 ·refine Wp.sk ?_
  refine Wp.block ?_
  refine Wp.sr ?_
  refine Runs.ap 6 13 5 1 1 (eInt .u8) h (fun h=>?_)
  refine Runs.alln ?_
  refine Wp.rg [] [] ?_
  refine Runs.all kr ?_
  refine blkN ?_
  refine thenN ?_
  exact ⟨_,_,h,lo [(1,851968)]⟩
 refine Wp.exit ?_
 refine thenE ?_
 refine thenE ?_
 refine blkE ?_
 refine thenN ?_
 exact ⟨_,_,h,lo []⟩
theorem spec_PutMan_okd {u p0 p1 r} (h:spec_PutMan u p0 p1=some r):DOK Tryz.prog 283 [.one (.s p0),V.g (Manifest.enc p1)] (.one (.ow 5 1 (r.map (eInt .u8)))):=by
 unfold spec_PutMan at h
 refine DOK.of_bodyK (fn:=Tryz.f283) (m:=true) kr rfl kr kr kr ?_
 refine Wp.sa ?_
 refine Wp.sr ?_
 refine Runs.batch 2 kr ?_
 obtain ⟨_,e_1,h⟩:=bind_some h
 refine Runs.appT (y:=.ext false (.sl 1 (p0.map (eInt .u8)))) (eInt .u8) 9 1 5 1 1 458752 (([]:List Int)) p0 rfl rfl rfl rfl kr kr kr kr kr (rows_extI _ _ _) (.inl rfl) kr (of_decide_eq_true (chk_some e_1)) kr kr ?_
 refine Runs.alln ?_
 refine Wp.seq ?_
 refine Wp.sr ?_
 refine Runs.cb 1 11 [.agg [.i p1.fGen,.i p1.fSize,.i p1.fLen,.ext false (.sl 2 (p1.fSums.map Sum.enc))]] h (fun _=>spec_ManOk_ok) (fun r2 h=>?_)
 refine Runs.alln ?_
 refine Wp.c2 h (fun h=>?_) (fun h=>?_)
 ·refine Wp.sa ?_
  obtain rfl:=oi h
  exact Wp.ret RetB
 refine Wp.sk ?_
 refine Wp.seq ?_
 refine Wp.regionA (pOf []) (rhoOf [(3,.obj 3),(5,.own 9),(14,.own 9),(15,.obj 3),(16,.frz),(17,.own 17),(18,.obj 3),(19,.frz),(20,.own 20),(21,.obj 3),(22,.frz),(23,.own 23)]) kr kr ?_
 refine Runs.batch 3 kr ?_
 obtain ⟨r3,e_r3,h⟩:=bind_some h
 refine Runs.callDK 17 282 [] [.own 589824,.i p1.fGen] [.one (.t (.sl 1 (((([]:List Int))++p0).map (eInt .u8)))),.one (.i p1.fGen)] (.one (.ow 5 1 (r3.map (eInt .u8)))) rfl rfl kr kr kr kr kr (spec_PutVar_okd e_r3) kr ?_
 refine Runs.batch 2 kr ?_
 obtain ⟨r4,e_r4,h⟩:=bind_some h
 refine Runs.callDK 20 282 [] [.own 1114112,.i p1.fSize] [.one (.s r3),.one (.i p1.fSize)] (.one (.ow 5 1 (r4.map (eInt .u8)))) rfl rfl kr kr kr kr kr (spec_PutVar_okd e_r4) kr ?_
 refine Runs.batch 2 kr ?_
 obtain ⟨r5,e_r5,h⟩:=bind_some h
 refine Runs.callDK 23 282 [] [.own 1310720,.i p1.fLen] [.one (.s r4),.one (.i p1.fLen)] (.one (.ow 5 1 (r5.map (eInt .u8)))) rfl rfl kr kr kr kr kr (spec_PutVar_okd e_r5) kr ?_
 refine Runs.alln ?_
 refine Wp.j1 (fun x14=>spec_PutMan_j1 u x14=some r) (fun x14=>⟨[(4,.nil),(5,.own 327681)],[],[(327681,.live 5 1 (x14.map (eInt .u8)))]⟩) (fun x14 h=>?_) ?_
 ·refine Wp.sa ?_
  obtain rfl:=oi h
  exact Wp.ret RetB
 refine Wp.sa ?_
 refine Wp.block ?_
 refine Wp.l3 (fun k_spec_PutMan_l2 x8 x9 p1=>spec_PutMan_l2 u k_spec_PutMan_l2 x8 x9 p1=some r) (fun x8 x9 p1=>⟨[(3,.obj 3 0),(4,.nil),(5,.own 327681),(6,.i x9)],[(3,[.i p1.fGen,.i p1.fSize,.i p1.fLen,.ext false (.sl 2 (p1.fSums.map Sum.enc))])],[(327681,.live 5 1 (x8.map (eInt .u8)))]⟩) (fun k_spec_PutMan_l2 x8 x9 p1 h=>?_) h (lo [(327681,1507328)]) (fun _ _ _  h=>nomatch h)
 rw [spec_PutMan_l2] at h
 refine Wp.seq ?_
 refine Wp.sr ?_
 refine Runs.batch 3 kr ?_
 refine Runs.lenX (e:=177) Sum.enc p1.fSums false 2 rfl rfl rfl kr kr kr kr ?_
 refine Runs.alln ?_
 refine Wp.c2 h (fun h=>?_) (fun h=>?_)
 ·refine Wp.sk ?_
  refine Wp.seq ?_
  refine Wp.block ?_
  refine Wp.rg [] [] ?_
  refine Runs.batch 4 kr ?_
  obtain ⟨y12,e_y12,h⟩:=bind_some h
  refine Runs.idxX (e:=177) (kk:=.i64) (sz:=2) Sum.enc p1.fSums x9 false rfl kr kr kr kr kr kr e_y12 ?_
  refine Runs.cl true 2 38 [.own 327681,.i y12.fS] h (fun _=>spec_l6PutSum_ok) (fun r13 h=>?_)
  refine Runs.all kr ?_
  refine blkN ?_
  refine thenN ?_
  refine Wp.rg [] [] ?_
  refine Runs.alln ?_
  exact ⟨_,_,_,h,lo [(327681,2490368)]⟩
 refine Wp.exit ?_
 refine thenE ?_
 refine thenE ?_
 refine blkE ?_
 refine thenN ?_
 exact ⟨_,h,lo []⟩
theorem spec_l12Half_ok {u p0 r} (h:spec_l12Half u p0=some r):CallOK Tryz.prog 284 [V.i p0] (.tup [V.i r.1,V.i r.2]) []:=by
 unfold spec_l12Half at h
 refine ofb Tryz.f284 false ?_
 refine Wp.sa ?_
 refine Wp.sa ?_
 obtain rfl:=oi h
 exact Wp.ret RetB
theorem spec_PutPart_okd {u p0 p1 r} (h:spec_PutPart u p0 p1=some r):DOK Tryz.prog 285 [.one (.s p0),.one (.s p1)] (.one (.ow 5 1 (r.map (eInt .u8)))):=by
 unfold spec_PutPart at h
 refine DOK.of_bodyK (fn:=Tryz.f285) (m:=true) kr rfl kr kr kr ?_
 refine Wp.sa ?_
 refine Wp.sr ?_
 refine Runs.batch 2 kr ?_
 refine Runs.lenX (e:=5) (eInt .u8) p1 false 1 rfl rfl rfl kr kr kr kr ?_
 obtain ⟨r1,e_r1,h⟩:=bind_some h
 refine Runs.callDK 8 282 [] [.ext false (.sl 1 (p0.map (eInt .u8))),.i ((p1.length:Int))] [.one (.s p0),.one (.i ((p1.length:Int)))] (.one (.ow 5 1 (r1.map (eInt .u8)))) rfl rfl kr kr kr kr kr (spec_PutVar_okd e_r1) kr ?_
 refine Runs.batch 1 kr ?_
 obtain ⟨_,e_2,h⟩:=bind_some h
 refine Runs.appT (y:=.ext false (.sl 1 (p1.map (eInt .u8)))) (eInt .u8) 10 1 5 1 1 524288 r1 p1 rfl rfl rfl rfl kr kr kr kr kr (rows_extI _ _ _) (.inl rfl) kr (of_decide_eq_true (chk_some e_2)) kr kr ?_
 refine Runs.alln ?_
 obtain rfl:=oi h
 exact Wp.ret RetB
theorem spec_PutMsg_okd {u p0 r} (h:spec_PutMsg u p0=some r):DOK Tryz.prog 207 [V.g (Msg.enc p0)] (.one (.ow 5 1 (r.map (eInt .u8)))):=by
 unfold spec_PutMsg at h
 refine DOK.of_bodyK (fn:=Tryz.f207) (m:=true) kr rfl kr kr kr ?_
 refine Wp.sa ?_
 refine Wp.seq ?_
 refine Wp.sr ?_
 refine Runs.cb 1 7 [.agg [.i p0.fKind,.i p0.fGen,.i p0.fMan.fGen,.i p0.fMan.fSize,.i p0.fMan.fLen,.ext false (.sl 2 (p0.fMan.fSums.map Sum.enc)),.i p0.fWant,.i p0.fDone,.i p0.fI,.ext false (.sl 1 (p0.fB.map (eInt .u8)))]] h (fun _=>spec_MsgOk_ok) (fun r1 h=>?_)
 refine Runs.alln ?_
 refine Wp.c2 h (fun h=>?_) (fun h=>?_)
 ·refine Wp.sa ?_
  obtain rfl:=oi h
  exact Wp.ret RetB
 refine Wp.sk ?_
 refine Wp.sr ?_
 refine Runs.batch 3 kr ?_
 obtain ⟨r2,e_r2,h⟩:=bind_some h
 refine Runs.callDK 13 282 [] [.own 655360,.i p0.fKind] [.one (.t (.sl 1 ((([]:List Int)).map (eInt .u8)))),.one (.i p0.fKind)] (.one (.ow 5 1 (r2.map (eInt .u8)))) rfl rfl kr kr kr kr kr (spec_PutVar_okd e_r2) kr ?_
 refine Runs.alln ?_
 refine Wp.j1 (fun x15=>spec_PutMsg_j1 u x15=some r) (fun x15=>⟨[(2,.nil),(3,.own 196609)],[],[(196609,.live 5 1 (x15.map (eInt .u8)))]⟩) (fun x15 h=>?_) ?_
 ·refine Wp.sr ?_
  refine Runs.cb 2 67 [.own 196609] h (fun _=>spec_WeakOf_ok) (fun r16 h=>?_)
  obtain ⟨r17,e_r17,h⟩:=bind_some h
  refine Runs.callDK 68 282 [] [.own 196609,.i r16] [.one (.s x15),.one (.i r16)] (.one (.ow 5 1 (r17.map (eInt .u8)))) rfl rfl kr kr kr kr kr (spec_PutVar_okd e_r17) kr ?_
  refine Runs.alln ?_
  obtain rfl:=oi h
  exact Wp.ret RetB
 refine Wp.sa ?_
 refine Wp.block ?_
 refine Wp.sa ?_
 refine Wp.c2 h (fun h=>?_) (fun h=>?_)
 ·refine Wp.rg [] [] ?_
  refine Runs.batch 3 kr ?_
  obtain ⟨r3,e_r3,h⟩:=bind_some h
  refine Runs.callDK 25 283 [] [.own 851968,.agg [.i p0.fMan.fGen,.i p0.fMan.fSize,.i p0.fMan.fLen,.ext false (.sl 2 (p0.fMan.fSums.map Sum.enc))]] [.one (.s r2),.agg ((Manifest.enc p0.fMan).map .t)] (.one (.ow 5 1 (r3.map (eInt .u8)))) rfl rfl kr kr kr kr kr (spec_PutMan_okd e_r3) kr ?_
  refine Runs.all kr ?_
  refine blkN ?_
  refine thenN ?_
  exact ⟨_,h,lo [(196609,1638400)]⟩
 refine Wp.sa ?_
 refine Wp.c2 h (fun h=>?_) (fun h=>?_)
 ·refine Wp.cl false 2 31 [.i p0.fWant] h (fun _=>spec_l12Half_ok) (fun r4 h=>?_)
  refine Wp.sr ?_
  refine Runs.batch 3 kr ?_
  obtain ⟨r5,e_r5,h⟩:=bind_some h
  refine Runs.callDK 37 282 [] [.own 851968,.i p0.fGen] [.one (.s r2),.one (.i p0.fGen)] (.one (.ow 5 1 (r5.map (eInt .u8)))) rfl rfl kr kr kr kr kr (spec_PutVar_okd e_r5) kr ?_
  refine Runs.batch 1 kr ?_
  obtain ⟨r6,e_r6,h⟩:=bind_some h
  refine Runs.callDK 39 282 [] [.own 2424832,.i r4.1] [.one (.s r5),.one (.i r4.1)] (.one (.ow 5 1 (r6.map (eInt .u8)))) rfl rfl kr kr kr kr kr (spec_PutVar_okd e_r6) kr ?_
  refine Runs.batch 1 kr ?_
  obtain ⟨r7,e_r7,h⟩:=bind_some h
  refine Runs.callDK 41 282 [] [.own 2555904,.i r4.2] [.one (.s r6),.one (.i r4.2)] (.one (.ow 5 1 (r7.map (eInt .u8)))) rfl rfl kr kr kr kr kr (spec_PutVar_okd e_r7) kr ?_
  refine Runs.alln ?_
  refine Wp.cl false 2 45 [.i p0.fDone] h (fun _=>spec_l12Half_ok) (fun r8 h=>?_)
  refine Wp.rg [] [] ?_
  refine Runs.batch 2 kr ?_
  obtain ⟨r9,e_r9,h⟩:=bind_some h
  refine Runs.callDK 50 282 [] [.own 2686976,.i r8.1] [.one (.s r7),.one (.i r8.1)] (.one (.ow 5 1 (r9.map (eInt .u8)))) rfl rfl kr kr kr kr kr (spec_PutVar_okd e_r9) kr ?_
  refine Runs.batch 1 kr ?_
  obtain ⟨r10,e_r10,h⟩:=bind_some h
  refine Runs.callDK 52 282 [] [.own 3276800,.i r8.2] [.one (.s r9),.one (.i r8.2)] (.one (.ow 5 1 (r10.map (eInt .u8)))) rfl rfl kr kr kr kr kr (spec_PutVar_okd e_r10) kr ?_
  refine Runs.all kr ?_
  refine blkN ?_
  refine thenN ?_
  exact ⟨_,h,lo [(196609,3407872)]⟩
 refine Wp.sa ?_
 refine Wp.c2 h (fun h=>?_) (fun h=>?_)
 ·refine Wp.regionA (pOf []) (rhoOf [(1,.obj 1),(3,.own 13),(55,.own 13),(56,.obj 1),(57,.frz),(58,.own 58),(59,.obj 1),(60,.frz),(61,.own 61),(62,.obj 1),(63,.frz),(64,.own 64)]) kr kr ?_
  refine Runs.batch 3 kr ?_
  obtain ⟨r11,e_r11,h⟩:=bind_some h
  refine Runs.callDK 58 282 [] [.own 851968,.i p0.fGen] [.one (.s r2),.one (.i p0.fGen)] (.one (.ow 5 1 (r11.map (eInt .u8)))) rfl rfl kr kr kr kr kr (spec_PutVar_okd e_r11) kr ?_
  refine Runs.batch 2 kr ?_
  obtain ⟨r12,e_r12,h⟩:=bind_some h
  refine Runs.callDK 61 282 [] [.own 3801088,.i p0.fI] [.one (.s r11),.one (.i p0.fI)] (.one (.ow 5 1 (r12.map (eInt .u8)))) rfl rfl kr kr kr kr kr (spec_PutVar_okd e_r12) kr ?_
  refine Runs.batch 2 kr ?_
  obtain ⟨r13,e_r13,h⟩:=bind_some h
  refine Runs.callDK 64 285 [] [.own 3997696,.ext false (.sl 1 (p0.fB.map (eInt .u8)))] [.one (.s r12),.one (.s p0.fB)] (.one (.ow 5 1 (r13.map (eInt .u8)))) rfl rfl kr kr kr kr kr (spec_PutPart_okd e_r13) kr ?_
  refine Runs.all kr ?_
  refine blkN ?_
  refine thenN ?_
  exact ⟨_,h,lo [(196609,4194304)]⟩
 refine Wp.rg [] [] ?_
 refine Runs.batch 3 kr ?_
 obtain ⟨r14,e_r14,h⟩:=bind_some h
 refine Runs.callDK 19 282 [] [.own 851968,.i p0.fGen] [.one (.s r2),.one (.i p0.fGen)] (.one (.ow 5 1 (r14.map (eInt .u8)))) rfl rfl kr kr kr kr kr (spec_PutVar_okd e_r14) kr ?_
 refine Runs.all kr ?_
 refine blkN ?_
 refine thenN ?_
 exact ⟨_,h,lo [(196609,1245184)]⟩
theorem spec_PacketOf_okd {u p0 p1 p2 r} (h:spec_PacketOf u p0 p1 p2=some r):DOK Tryz.prog 125 [V.i p0,V.i p1,V.g (Msg.enc p2)] (V.w [0,0,5] (Packet.enc r)):=by
 unfold spec_PacketOf at h
 refine DOK.of_bodyK (fn:=Tryz.f125) (m:=true) kr rfl kr kr kr ?_
 refine Wp.sa ?_
 refine Wp.sr ?_
 refine Runs.batch 3 kr ?_
 obtain ⟨r1,e_r1,h⟩:=bind_some h
 refine Runs.callDK 10 207 [] [.agg [.i p2.fKind,.i p2.fGen,.i p2.fMan.fGen,.i p2.fMan.fSize,.i p2.fMan.fLen,.ext false (.sl 2 (p2.fMan.fSums.map Sum.enc)),.i p2.fWant,.i p2.fDone,.i p2.fI,.ext false (.sl 1 (p2.fB.map (eInt .u8)))]] [.agg ((Msg.enc p2).map .t)] (.one (.ow 5 1 (r1.map (eInt .u8)))) rfl rfl kr kr kr kr kr (spec_PutMsg_okd e_r1) kr ?_
 refine Runs.alln ?_
 obtain rfl:=oi h
 exact Wp.ret RetB
theorem spec_Tick_ok {u p0 p1 p2 p3 p4 r} (h:spec_Tick u p0 p1 p2 p3 p4=some r):CallOK Tryz.prog 38 [V.g (Tree.enc p0),V.g (Conf.enc p1),V.i p2,V.g (Node.enc p3),V.g (Disk.enc p4)] (V.w [0,0,0,0,0,0,0,0,0,0,0,0,5,5,0,0,0,124,82] (Beat.enc r)) []:=by
 unfold spec_Tick at h
 refine ofb Tryz.f38 true ?_
 refine Wp.sa ?_
 refine Wp.cl false 1 16 [.agg ((Node.enc p3).map .t)] h (fun _=>spec_l15Copy_ok) (fun r1 h=>?_)
 refine Wp.seq ?_
 refine Wp.le (Le.trans (Le.frzO 11 6 1048582 177 2 [.b r1.fOn,.i r1.fBoss,.i r1.fQuiet,.i r1.fMan.fGen,.i r1.fMan.fSize,.i r1.fMan.fLen,.own 1048582,.i r1.fBld.fHave,.own 1048584,.i r1.fPhase,.own 1048586,.i r1.fDrops] (r1.fMan.fSums.map Sum.enc) kr kr kr) (Le.trans (Le.frzO 11 8 1048584 5 1 [.b r1.fOn,.i r1.fBoss,.i r1.fQuiet,.i r1.fMan.fGen,.i r1.fMan.fSize,.i r1.fMan.fLen,.t (.sl 2 (r1.fMan.fSums.map Sum.enc)),.i r1.fBld.fHave,.own 1048584,.i r1.fPhase,.own 1048586,.i r1.fDrops] (r1.fBld.fBuf.map (eInt .u8)) kr kr kr) (Le.frzO 11 10 1048586 188 5 [.b r1.fOn,.i r1.fBoss,.i r1.fQuiet,.i r1.fMan.fGen,.i r1.fMan.fSize,.i r1.fMan.fLen,.t (.sl 2 (r1.fMan.fSums.map Sum.enc)),.i r1.fBld.fHave,.s r1.fBld.fBuf,.i r1.fPhase,.own 1048586,.i r1.fDrops] (r1.fKids.map Kid.enc) kr kr kr))) ?_
 refine Wp.regionA (pOf []) (rhoOf [(9,.obj 9),(11,.obj 11),(12,.obj 12),(17,.frz),(18,.frz),(19,.own 19),(20,.own 20)]) kr kr ?_
 refine Runs.cl false 2 19 [.agg ((Disk.enc p4).map .t)] h (fun _=>spec_l9Copy_ok) (fun r2 h=>?_)
 refine Runs.alln ?_
 refine Wp.seq ?_
 refine Wp.sa ?_
 refine Wp.c2 h (fun h=>?_) (fun h=>?_)
 ·refine Wp.sa ?_
  refine Wp.fg ⟨[(2,.i p2),(5,.obj 5 0),(6,.obj 6 0),(8,.obj 8 0),(9,.obj 9 0),(10,.obj 10 0),(11,.obj 11 0),(12,.obj 12 0)],[(5,[.t (.sl 1 (p0.fUp.map (eInt .i64)))]),(6,((Conf.enc p1).map .t)),(8,((Node.enc p3).map .t)),(9,((Disk.enc p4).map .t)),(10,[.b r1.fOn,.i r1.fBoss,.i r1.fQuiet,.i r1.fMan.fGen,.i r1.fMan.fSize,.i r1.fMan.fLen,.t (.sl 2 (r1.fMan.fSums.map Sum.enc)),.i r1.fBld.fHave,.s r1.fBld.fBuf,.i r1.fPhase,.t (.sl 5 (r1.fKids.map Kid.enc)),.i r1.fDrops,.own 1245184,.own 1245185,.i r2.fR.fGen,.i r2.fR.fSlot,.i r2.fR.fLen,.own 1245189,.own 1310720]),(11,((Node.enc r1).map .t)),(12,[.b r1.fOn,.i r1.fBoss,.i r1.fQuiet,.i r1.fMan.fGen,.i r1.fMan.fSize,.i r1.fMan.fLen,.t (.sl 2 (r1.fMan.fSums.map Sum.enc)),.i r1.fBld.fHave,.s r1.fBld.fBuf,.i r1.fPhase,.t (.sl 5 (r1.fKids.map Kid.enc)),.i r1.fDrops,.own 1245184,.own 1245185,.i r2.fR.fGen,.i r2.fR.fSlot,.i r2.fR.fLen,.own 1245189,.own 1310720])],[(1245184,.live 5 1 (r2.fA.map (eInt .u8))),(1245185,.live 5 1 (r2.fB.map (eInt .u8))),(1245189,.live 124 6 (r2.fP.map Put.enc)),(1310720,.live 82 3 ((([]:List Packet)).map Packet.enc))]⟩ ?_
  obtain rfl:=oi h
  exact Wp.ret RetB
 refine Wp.sk ?_
 refine Wp.cl false 4 30 [.t (.sl 5 (p3.fKids.map Kid.enc)),.i p1.fForget] h (fun _=>spec_AgeAll_ok) (fun r3 h=>?_)
 refine Wp.fg ⟨[(2,.i p2),(5,.obj 5 0),(6,.obj 6 0),(8,.obj 8 0),(9,.obj 9 0),(10,.obj 10 0),(11,.obj 11 0),(12,.obj 12 0)],[(5,[.t (.sl 1 (p0.fUp.map (eInt .i64)))]),(6,((Conf.enc p1).map .t)),(8,((Node.enc p3).map .t)),(9,((Disk.enc p4).map .t)),(10,[.b false,.i 0,.i 0,.i 0,.i 0,.i 0,.nil,.i 0,.nil,.i 0,.nil,.i 0,.nil,.nil,.i 0,.i 0,.i 0,.nil,.nil]),(11,[.b r1.fOn,.i r1.fBoss,.i r1.fQuiet,.i r1.fMan.fGen,.i r1.fMan.fSize,.i r1.fMan.fLen,.t (.sl 2 (r1.fMan.fSums.map Sum.enc)),.i r1.fBld.fHave,.s r1.fBld.fBuf,.i r1.fPhase,.own 1966080,.i r1.fDrops]),(12,[.b r1.fOn,.i r1.fBoss,.i r1.fQuiet,.i r1.fMan.fGen,.i r1.fMan.fSize,.i r1.fMan.fLen,.t (.sl 2 (r1.fMan.fSums.map Sum.enc)),.i r1.fBld.fHave,.s r1.fBld.fBuf,.i r1.fPhase,.t (.sl 5 (r1.fKids.map Kid.enc)),.i r1.fDrops,.own 1245184,.own 1245185,.i r2.fR.fGen,.i r2.fR.fSlot,.i r2.fR.fLen,.own 1245189,.own 1310720])],[(1245184,.live 5 1 (r2.fA.map (eInt .u8))),(1245185,.live 5 1 (r2.fB.map (eInt .u8))),(1245189,.live 124 6 (r2.fP.map Put.enc)),(1310720,.live 82 3 ((([]:List Packet)).map Packet.enc)),(1966080,.live 188 5 (r3.map Kid.enc))]⟩ ?_
 refine Wp.seq ?_
 refine Wp.sa ?_
 refine Wp.c2 h (fun h=>?_) (fun h=>?_)
 ·refine Wp.sa ?_
  refine Wp.sa ?_
  refine Wp.le (Le.frzO 10 10 1966080 188 5 [.b r1.fOn,.i r1.fBoss,.i r1.fQuiet,.i r1.fMan.fGen,.i r1.fMan.fSize,.i r1.fMan.fLen,.t (.sl 2 (r1.fMan.fSums.map Sum.enc)),.i r1.fBld.fHave,.s r1.fBld.fBuf,.i r1.fPhase,.own 1966080,.i r1.fDrops,.own 1245184,.own 1245185,.i r2.fR.fGen,.i r2.fR.fSlot,.i r2.fR.fLen,.own 1245189,.own 1310720] (r3.map Kid.enc) kr kr kr) ?_
  obtain rfl:=oi h
  exact Wp.ret RetB
 refine Wp.sk ?_
 refine Wp.j8 (fun p2 p1 p4 r1 x5 x6 r3 r2=>spec_Tick_j1 u p2 p1 p4 r1 x5 x6 r3 r2=some r) (fun p2 p1 p4 r1 x5 x6 r3 r2=>⟨[(2,.i p2),(6,.obj 6 0),(9,.obj 9 0),(10,.obj 10 0),(11,.obj 11 0),(12,.obj 12 0)],[(6,((Conf.enc p1).map .t)),(9,((Disk.enc p4).map .t)),(10,[.b false,.i 0,.i 0,.i 0,.i 0,.i 0,.nil,.i 0,.nil,.i 0,.nil,.i 0,.nil,.nil,.i 0,.i 0,.i 0,.nil,.nil]),(11,[.b r1.fOn,.i x5,.i x6,.i r1.fMan.fGen,.i r1.fMan.fSize,.i r1.fMan.fLen,.t (.sl 2 (r1.fMan.fSums.map Sum.enc)),.i r1.fBld.fHave,.s r1.fBld.fBuf,.i r1.fPhase,.own 721418,.i r1.fDrops]),(12,[.b r1.fOn,.i r1.fBoss,.i r1.fQuiet,.i r1.fMan.fGen,.i r1.fMan.fSize,.i r1.fMan.fLen,.t (.sl 2 (r1.fMan.fSums.map Sum.enc)),.i r1.fBld.fHave,.s r1.fBld.fBuf,.i r1.fPhase,.t (.sl 5 (r1.fKids.map Kid.enc)),.i r1.fDrops,.own 786956,.own 786957,.i r2.fR.fGen,.i r2.fR.fSlot,.i r2.fR.fLen,.own 786961,.own 786962])],[(721418,.live 188 5 (r3.map Kid.enc)),(786956,.live 5 1 (r2.fA.map (eInt .u8))),(786957,.live 5 1 (r2.fB.map (eInt .u8))),(786961,.live 124 6 (r2.fP.map Put.enc)),(786962,.live 82 3 ((([]:List Packet)).map Packet.enc))]⟩) (fun p2 p1 p4 r1 x5 x6 r3 r2 h=>?_) ?_
 ·refine Wp.cl false 7 61 [.agg ((Disk.enc p4).map .t),.agg ((Manifest.enc r1.fMan).map .t),.agg [.i r1.fBld.fHave,.s r1.fBld.fBuf],.i r1.fPhase] h (fun _=>spec_NextCommit_ok) (fun r7 h=>?_)
  refine Wp.sa ?_
  refine Wp.sa ?_
  refine Wp.sa ?_
  refine Wp.seq ?_
  refine Wp.le (Le.frzO 11 10 721418 188 5 [.b r1.fOn,.i x5,.i x6,.i r1.fMan.fGen,.i r1.fMan.fSize,.i r1.fMan.fLen,.t (.sl 2 (r1.fMan.fSums.map Sum.enc)),.i r1.fBld.fHave,.s r1.fBld.fBuf,.i r7.2,.own 721418,.i r1.fDrops] (r3.map Kid.enc) kr kr kr) ?_
  refine Wp.regionA (pOf []) (rhoOf [(2,.frz),(6,.obj 6),(11,.obj 11),(12,.obj 12),(70,.obj 12),(71,.own 12),(72,.frz),(73,.obj 11),(74,.frz),(75,.obj 11),(76,.obj 11),(77,.frz),(78,.frz),(79,.obj 6),(80,.frz),(81,.frz),(82,.frz),(83,.frz),(84,.frz),(85,.own 85),(86,.own 86),(87,.own 87),(88,.own 88),(89,.obj 12)]) kr kr ?_
  refine Runs.cl false 11 81 [.agg [.b r1.fOn,.i x5,.i x6,.i r1.fMan.fGen,.i r1.fMan.fSize,.i r1.fMan.fLen,.t (.sl 2 (r1.fMan.fSums.map Sum.enc)),.i r1.fBld.fHave,.s r1.fBld.fBuf,.i r7.2,.t (.sl 5 (r3.map Kid.enc)),.i r1.fDrops],.i p1.fWindow] h (fun _=>spec_WantOf_ok) (fun r8 h=>?_)
  refine Runs.cl false 2 84 [.agg [.b r1.fOn,.i x5,.i x6,.i r1.fMan.fGen,.i r1.fMan.fSize,.i r1.fMan.fLen,.t (.sl 2 (r1.fMan.fSums.map Sum.enc)),.i r1.fBld.fHave,.s r1.fBld.fBuf,.i r7.2,.t (.sl 5 (r3.map Kid.enc)),.i r1.fDrops],.i p2] h (fun _=>spec_DoneSet_ok) (fun r9 h=>?_)
  refine Runs.cl false 0 85 [.i r1.fMan.fGen,.i r8,.i r9] h (fun _=>spec_WantMsg_ok) (fun r10 h=>?_)
  obtain ⟨r11,e_r11,h⟩:=bind_some h
  refine Runs.callDK 86 125 [] [.i p2,.i x5,.agg [.i r10.fKind,.i r10.fGen,.i r10.fMan.fGen,.i r10.fMan.fSize,.i r10.fMan.fLen,.own 5570565,.i r10.fWant,.i r10.fDone,.i r10.fI,.own 5570569]] [.one (.i p2),.one (.i x5),.agg ((Msg.enc r10).map .t)] (V.w [0,0,5] (Packet.enc r11)) rfl rfl kr kr kr kr kr (spec_PacketOf_okd e_r11) kr ?_
  refine Runs.ap (ys:=[r11]) 1 88 82 3 786962 Packet.enc h (fun h=>?_)
  refine Runs.alln ?_
  refine Wp.fg ⟨[(10,.obj 10 0),(12,.obj 12 0)],[(10,[.b false,.i 0,.i 0,.i 0,.i 0,.i 0,.nil,.i 0,.nil,.i 0,.nil,.i 0,.nil,.nil,.i 0,.i 0,.i 0,.nil,.nil]),(12,[.b r1.fOn,.i x5,.i x6,.i r1.fMan.fGen,.i r1.fMan.fSize,.i r1.fMan.fLen,.t (.sl 2 (r1.fMan.fSums.map Sum.enc)),.i r1.fBld.fHave,.s r1.fBld.fBuf,.i r7.2,.own 721418,.i r1.fDrops,.own 3997696,.own 3997697,.i r7.1.fR.fGen,.i r7.1.fR.fSlot,.i r7.1.fR.fLen,.own 3997701,.own 5767168])],[(721418,.frz 5 (r3.map Kid.enc)),(3997696,.live 5 1 (r7.1.fA.map (eInt .u8))),(3997697,.live 5 1 (r7.1.fB.map (eInt .u8))),(3997701,.live 124 6 (r7.1.fP.map Put.enc)),(5767168,.live 82 3 (((([]:List Packet))++([r11])).map Packet.enc))]⟩ ?_
  refine Wp.sa ?_
  obtain rfl:=oi h
  exact Wp.ret RetB
 refine Wp.sa ?_
 refine Wp.c2 h (fun h=>?_) (fun h=>?_)
 ·refine Wp.cl false 4 46 [.agg [.t (.sl 1 (p0.fUp.map (eInt .i64)))],.i p2,.i p3.fBoss] h (fun _=>spec_NextBoss_ok) (fun r4 h=>?_)
  refine Wp.rg [] [] ?_
  refine Runs.alln ?_
  exact ⟨_,_,_,_,_,_,_,_,h,lo [(721418,1966080),(786956,1245184),(786957,1245185),(786961,1245189),(786962,1310720)]⟩
 refine Wp.rg [] [] ?_
 refine Runs.alln ?_
 exact ⟨_,_,_,_,_,_,_,_,h,lo [(721418,1966080),(786956,1245184),(786957,1245185),(786961,1245189),(786962,1310720)]⟩
theorem laws_sameSums_ok {u p0 p1 r} (h:laws_sameSums u p0 p1=some r):CallOK Tryz.prog 165 [.one (.t (.sl 2 (p0.map Sum.enc))),.one (.t (.sl 2 (p1.map Sum.enc)))] (V.b r) []:=by
 unfold laws_sameSums at h
 refine ofb Tryz.f165 false ?_
 refine Wp.sa ?_
 refine Wp.seq ?_
 refine Wp.sr ?_
 refine Runs.ln 1 177 Sum.enc p0 ?_
 refine Runs.ln 1 177 Sum.enc p1 ?_
 refine Runs.alln ?_
 refine Wp.c2 h (fun h=>?_) (fun h=>?_)
 ·refine Wp.sa ?_
  obtain rfl:=oi h
  exact Wp.ret RetB
 refine Wp.sk ?_
 refine Wp.j0 (laws_sameSums_j1 u=some r) ⟨[(4,.b false)],[],[]⟩ (fun h=>?_) ?_
 ·refine Wp.sa ?_
  obtain rfl:=oi h
  exact Wp.ret RetB
 refine Wp.sa ?_
 refine Wp.block ?_
 refine Wp.l3 (fun k_laws_sameSums_l2 p0 p1 x2=>laws_sameSums_l2 u k_laws_sameSums_l2 p0 p1 x2=some r) (fun p0 p1 x2=>⟨[(0,.t (.sl 2 (p0.map Sum.enc))),(1,.t (.sl 2 (p1.map Sum.enc))),(4,.b false),(5,.i x2)],[],[]⟩) (fun k_laws_sameSums_l2 p0 p1 x2 h=>?_) h (lo []) (fun _ _ _  h=>nomatch h)
 rw [laws_sameSums_l2] at h
 refine Wp.seq ?_
 refine Wp.sr ?_
 refine Runs.ln 2 177 Sum.enc p0 ?_
 refine Runs.alln ?_
 refine Wp.c2 h (fun h=>?_) (fun h=>?_)
 ·refine Wp.sk ?_
  refine Wp.seq ?_
  refine Wp.block ?_
  refine Wp.seq ?_
  refine Wp.regionA (pOf []) (rhoOf [(0,.frz),(1,.frz),(5,.frz),(17,.frz),(18,.frz),(19,.frz),(20,.frz),(21,.frz),(22,.frz),(23,.frz),(24,.frz)]) kr kr ?_
  refine Runs.ix 2 177 2 Sum.enc h (fun y4 h _=>?_)
  refine Runs.ix 3 177 2 Sum.enc h (fun y5 h _=>?_)
  refine Runs.alln ?_
  refine Wp.c2 h (fun h=>?_) (fun h=>?_)
  ·refine Wp.sa ?_
   obtain rfl:=oi h
   exact Wp.ret RetB
  refine Wp.skip ?_
  refine blkN ?_
  refine thenN ?_
  refine Wp.rg [] [] ?_
  refine Runs.alln ?_
  exact ⟨_,_,_,h,lo []⟩
 refine Wp.exit ?_
 refine thenE ?_
 refine thenE ?_
 refine blkE ?_
 refine thenN ?_
 exact ⟨h,lo []⟩
theorem laws_sameMan_ok {u p0 p1 r} (h:laws_sameMan u p0 p1=some r):CallOK Tryz.prog 86 [V.g (Manifest.enc p0),V.g (Manifest.enc p1)] (V.b r) []:=by
 unfold laws_sameMan at h
 refine ofb Tryz.f86 false ?_
 refine Wp.sa ?_
 refine Wp.sr ?_
 refine Runs.c2 6 10 h (fun h=>?_) (fun h=>?_)
 ·refine Runs.c2 7 17 h (fun h=>?_) (fun h=>?_)
  ·refine Runs.c2 7 24 h (fun h=>?_) (fun h=>?_)
   ·refine Runs.cl false 4 29 [.t (.sl 2 (p0.fSums.map Sum.enc)),.t (.sl 2 (p1.fSums.map Sum.enc))] h (fun _=>laws_sameSums_ok) (fun r1 h=>?_)
    refine Runs.alln ?_
    obtain rfl:=oi h
    exact Wp.ret RetB
   refine Runs.alln ?_
   obtain rfl:=oi h
   exact Wp.ret RetB
  refine Runs.alln ?_
  obtain rfl:=oi h
  exact Wp.ret RetB
 refine Runs.alln ?_
 obtain rfl:=oi h
 exact Wp.ret RetB
theorem laws_same_ok {u p0 p1 r} (h:laws_same u p0 p1=some r):CallOK Tryz.prog 95 [.one (.s p0),.one (.s p1)] (V.b r) []:=by
 unfold laws_same at h
 refine ofb Tryz.f95 false ?_
 refine Wp.sa ?_
 refine Wp.seq ?_
 refine Wp.sr ?_
 refine Runs.ln 1 5 (eInt .u8) p0 ?_
 refine Runs.ln 1 5 (eInt .u8) p1 ?_
 refine Runs.alln ?_
 refine Wp.c2 h (fun h=>?_) (fun h=>?_)
 ·refine Wp.sa ?_
  obtain rfl:=oi h
  exact Wp.ret RetB
 refine Wp.sk ?_
 refine Wp.j0 (laws_same_j1 u=some r) ⟨[(4,.b false)],[],[]⟩ (fun h=>?_) ?_
 ·refine Wp.sa ?_
  obtain rfl:=oi h
  exact Wp.ret RetB
 refine Wp.sa ?_
 refine Wp.block ?_
 refine Wp.l3 (fun k_laws_same_l2 p0 p1 x2=>laws_same_l2 u k_laws_same_l2 p0 p1 x2=some r) (fun p0 p1 x2=>⟨[(0,.s p0),(1,.s p1),(4,.b false),(5,.i x2)],[],[]⟩) (fun k_laws_same_l2 p0 p1 x2 h=>?_) h (lo []) (fun _ _ _  h=>nomatch h)
 rw [laws_same_l2] at h
 refine Wp.seq ?_
 refine Wp.sr ?_
 refine Runs.ln 2 5 (eInt .u8) p0 ?_
 refine Runs.alln ?_
 refine Wp.c2 h (fun h=>?_) (fun h=>?_)
 ·refine Wp.sk ?_
  refine Wp.seq ?_
  refine Wp.block ?_
  refine Wp.seq ?_
  refine Wp.regionA (pOf []) (rhoOf [(0,.frz),(1,.frz),(5,.frz),(17,.frz),(18,.frz),(19,.frz),(20,.frz),(21,.frz),(22,.frz),(23,.frz),(24,.frz)]) kr kr ?_
  refine Runs.ix 2 5 1 (eInt .u8) h (fun y4 h _=>?_)
  refine Runs.ix 3 5 1 (eInt .u8) h (fun y5 h _=>?_)
  refine Runs.alln ?_
  refine Wp.c2 h (fun h=>?_) (fun h=>?_)
  ·refine Wp.sa ?_
   obtain rfl:=oi h
   exact Wp.ret RetB
  refine Wp.skip ?_
  refine blkN ?_
  refine thenN ?_
  refine Wp.rg [] [] ?_
  refine Runs.alln ?_
  exact ⟨_,_,_,h,lo []⟩
 refine Wp.exit ?_
 refine thenE ?_
 refine thenE ?_
 refine blkE ?_
 refine thenN ?_
 exact ⟨h,lo []⟩
theorem laws_sameBuild_ok {u p0 p1 r} (h:laws_sameBuild u p0 p1=some r):CallOK Tryz.prog 87 [V.g (Build.enc p0),V.g (Build.enc p1)] (V.b r) []:=by
 unfold laws_sameBuild at h
 refine ofb Tryz.f87 false ?_
 refine Wp.sa ?_
 refine Wp.sr ?_
 refine Runs.c2 6 10 h (fun h=>?_) (fun h=>?_)
 ·refine Runs.cl false 4 15 [.s p0.fBuf,.s p1.fBuf] h (fun _=>laws_same_ok) (fun r1 h=>?_)
  refine Runs.alln ?_
  obtain rfl:=oi h
  exact Wp.ret RetB
 refine Runs.alln ?_
 obtain rfl:=oi h
 exact Wp.ret RetB
theorem laws_sameKids_ok {u p0 p1 r} (h:laws_sameKids u p0 p1=some r):CallOK Tryz.prog 88 [.one (.t (.sl 5 (p0.map Kid.enc))),.one (.t (.sl 5 (p1.map Kid.enc)))] (V.b r) []:=by
 unfold laws_sameKids at h
 refine ofb Tryz.f88 false ?_
 refine Wp.sa ?_
 refine Wp.seq ?_
 refine Wp.sr ?_
 refine Runs.ln 1 188 Kid.enc p0 ?_
 refine Runs.ln 1 188 Kid.enc p1 ?_
 refine Runs.alln ?_
 refine Wp.c2 h (fun h=>?_) (fun h=>?_)
 ·refine Wp.sa ?_
  obtain rfl:=oi h
  exact Wp.ret RetB
 refine Wp.sk ?_
 refine Wp.j0 (laws_sameKids_j1 u=some r) ⟨[(4,.b false)],[],[]⟩ (fun h=>?_) ?_
 ·refine Wp.sa ?_
  obtain rfl:=oi h
  exact Wp.ret RetB
 refine Wp.sa ?_
 refine Wp.block ?_
 refine Wp.l3 (fun k_laws_sameKids_l2 p0 p1 x2=>laws_sameKids_l2 u k_laws_sameKids_l2 p0 p1 x2=some r) (fun p0 p1 x2=>⟨[(0,.t (.sl 5 (p0.map Kid.enc))),(1,.t (.sl 5 (p1.map Kid.enc))),(4,.b false),(5,.i x2)],[],[]⟩) (fun k_laws_sameKids_l2 p0 p1 x2 h=>?_) h (lo []) (fun _ _ _  h=>nomatch h)
 rw [laws_sameKids_l2] at h
 refine Wp.seq ?_
 refine Wp.sr ?_
 refine Runs.ln 2 188 Kid.enc p0 ?_
 refine Runs.alln ?_
 refine Wp.c2 h (fun h=>?_) (fun h=>?_)
 ·refine Wp.sk ?_
  refine Wp.seq ?_
  refine Wp.block ?_
  refine Wp.seq ?_
  refine Wp.regionA (pOf []) (rhoOf [(0,.frz),(1,.frz),(5,.frz),(17,.frz),(18,.frz),(19,.frz),(20,.frz),(21,.frz),(22,.frz),(23,.frz),(24,.frz)]) kr kr ?_
  refine Runs.ix 2 188 5 Kid.enc h (fun y4 h _=>?_)
  refine Runs.ix 3 188 5 Kid.enc h (fun y5 h _=>?_)
  refine Runs.alln ?_
  refine Wp.c2 h (fun h=>?_) (fun h=>?_)
  ·refine Wp.sa ?_
   obtain rfl:=oi h
   exact Wp.ret RetB
  refine Wp.skip ?_
  refine blkN ?_
  refine thenN ?_
  refine Wp.rg [] [] ?_
  refine Runs.alln ?_
  exact ⟨_,_,_,h,lo []⟩
 refine Wp.exit ?_
 refine thenE ?_
 refine thenE ?_
 refine blkE ?_
 refine thenN ?_
 exact ⟨h,lo []⟩
theorem laws_sameNode_ok {u p0 p1 r} (h:laws_sameNode u p0 p1=some r):CallOK Tryz.prog 16 [V.g (Node.enc p0),V.g (Node.enc p1)] (V.b r) []:=by
 unfold laws_sameNode at h
 refine ofb Tryz.f16 false ?_
 refine Wp.sa ?_
 refine Wp.sr ?_
 refine Runs.c2 6 10 h (fun h=>?_) (fun h=>?_)
 ·refine Runs.c2 7 17 h (fun h=>?_) (fun h=>?_)
  ·refine Runs.c2 7 24 h (fun h=>?_) (fun h=>?_)
   ·refine Runs.cl false 4 29 [.agg ((Manifest.enc p0.fMan).map .t),.agg ((Manifest.enc p1.fMan).map .t)] h (fun _=>laws_sameMan_ok) (fun r1 h=>?_)
    refine Runs.c2 2 31 h (fun h=>?_) (fun h=>?_)
    ·refine Runs.cl false 4 36 [.agg [.i p0.fBld.fHave,.s p0.fBld.fBuf],.agg [.i p1.fBld.fHave,.s p1.fBld.fBuf]] h (fun _=>laws_sameBuild_ok) (fun r2 h=>?_)
     refine Runs.c2 2 38 h (fun h=>?_) (fun h=>?_)
     ·refine Runs.c2 7 45 h (fun h=>?_) (fun h=>?_)
      ·refine Runs.cl false 4 50 [.t (.sl 5 (p0.fKids.map Kid.enc)),.t (.sl 5 (p1.fKids.map Kid.enc))] h (fun _=>laws_sameKids_ok) (fun r3 h=>?_)
       refine Runs.c2 2 52 h (fun h=>?_) (fun h=>?_)
       ·refine Runs.alln ?_
        refine Wp.fg ⟨[(4,.b (p0.fDrops == p1.fDrops))],[],[]⟩ ?_
        obtain rfl:=oi h
        exact Wp.ret RetB
       refine Runs.alln ?_
       obtain rfl:=oi h
       exact Wp.ret RetB
      refine Runs.alln ?_
      obtain rfl:=oi h
      exact Wp.ret RetB
     refine Runs.alln ?_
     obtain rfl:=oi h
     exact Wp.ret RetB
    refine Runs.alln ?_
    obtain rfl:=oi h
    exact Wp.ret RetB
   refine Runs.alln ?_
   obtain rfl:=oi h
   exact Wp.ret RetB
  refine Runs.alln ?_
  obtain rfl:=oi h
  exact Wp.ret RetB
 refine Runs.alln ?_
 obtain rfl:=oi h
 exact Wp.ret RetB
theorem laws_sameDisk_ok {u p0 p1 r} (h:laws_sameDisk u p0 p1=some r):CallOK Tryz.prog 20 [V.g (Disk.enc p0),V.g (Disk.enc p1)] (V.b r) []:=by
 unfold laws_sameDisk at h
 refine ofb Tryz.f20 false ?_
 refine Wp.sa ?_
 refine Wp.seq ?_
 refine Wp.j3 (fun x3 p0 p1=>laws_sameDisk_j1 u x3 p0 p1=some r) (fun x3 p0 p1=>⟨[(2,.obj 2 0),(3,.obj 3 0),(4,.b false),(37,.b x3)],[(2,((Disk.enc p0).map .t)),(3,((Disk.enc p1).map .t))],[]⟩) (fun x3 p0 p1 h=>?_) ?_
 ·refine Wp.c2 h (fun h=>?_) (fun h=>?_)
  ·refine Wp.sa ?_
   obtain rfl:=oi h
   exact Wp.ret RetB
  refine Wp.sk ?_
  refine Wp.j0 (laws_sameDisk_j2 u=some r) ⟨[(4,.b false)],[],[]⟩ (fun h=>?_) ?_
  ·refine Wp.sa ?_
   obtain rfl:=oi h
   exact Wp.ret RetB
  refine Wp.sa ?_
  refine Wp.block ?_
  refine Wp.l3 (fun k_laws_sameDisk_l3 x5 p0 p1=>laws_sameDisk_l3 u k_laws_sameDisk_l3 x5 p0 p1=some r) (fun x5 p0 p1=>⟨[(2,.obj 2 0),(3,.obj 3 0),(4,.b false),(5,.i x5)],[(2,((Disk.enc p0).map .t)),(3,((Disk.enc p1).map .t))],[]⟩) (fun k_laws_sameDisk_l3 x5 p0 p1 h=>?_) h (lo []) (fun _ _ _  h=>nomatch h)
  rw [laws_sameDisk_l3] at h
  refine Wp.seq ?_
  refine Wp.sr ?_
  refine Runs.ln 3 124 Put.enc p0.fP ?_
  refine Runs.alln ?_
  refine Wp.c2 h (fun h=>?_) (fun h=>?_)
  ·refine Wp.sk ?_
   refine Wp.seq ?_
   refine Wp.block ?_
   refine Wp.sr ?_
   refine Runs.ix 3 124 6 Put.enc h (fun y7 h _=>?_)
   refine Runs.alln ?_
   refine Wp.sr ?_
   refine Runs.ix 3 124 6 Put.enc h (fun y8 h _=>?_)
   refine Runs.alln ?_
   refine Wp.j4 (fun x5 x10 p0 p1=>laws_sameDisk_j4 u (fun z0 z1 z2=>laws_sameDisk_l3 u k_laws_sameDisk_l3 z0 z1 z2) x5 x10 p0 p1=some r) (fun x5 x10 p0 p1=>⟨[(2,.obj 2 0),(3,.obj 3 0),(4,.b false),(5,.i x5),(81,.b x10)],[(2,((Disk.enc p0).map .t)),(3,((Disk.enc p1).map .t))],[]⟩) (fun x5 x10 p0 p1 h=>?_) ?_
   ·refine Wp.c2 h (fun h=>?_) (fun h=>?_)
    ·refine Wp.sa ?_
     obtain rfl:=oi h
     exact Wp.ret RetB
    refine Wp.skip ?_
    refine blkN ?_
    refine thenN ?_
    refine Wp.rg [] [] ?_
    refine Runs.alln ?_
    exact ⟨_,_,_,h,lo []⟩
   refine Wp.rg [] [] ?_
   refine Runs.c2 6 60 h (fun h=>?_) (fun h=>?_)
   ·refine Runs.alln ?_
    exact ⟨_,_,_,_,h,lo []⟩
   refine Runs.c2 7 67 h (fun h=>?_) (fun h=>?_)
   ·refine Runs.alln ?_
    exact ⟨_,_,_,_,h,lo []⟩
   refine Runs.c2 7 74 h (fun h=>?_) (fun h=>?_)
   ·refine Runs.alln ?_
    exact ⟨_,_,_,_,h,lo []⟩
   refine Runs.cl false 4 79 [.s y7.fB,.s y8.fB] h (fun _=>laws_same_ok) (fun r9 h=>?_)
   refine Runs.alln ?_
   exact ⟨_,_,_,_,h,lo []⟩
  refine Wp.exit ?_
  refine thenE ?_
  refine thenE ?_
  refine blkE ?_
  refine thenN ?_
  exact ⟨h,lo []⟩
 refine Wp.rg [] [] ?_
 refine Runs.cl false 4 12 [.s p0.fA,.s p1.fA] h (fun _=>laws_same_ok) (fun r1 h=>?_)
 refine Runs.c2 2 14 h (fun h=>?_) (fun h=>?_)
 ·refine Runs.alln ?_
  exact ⟨_,_,_,h,lo []⟩
 refine Runs.cl false 4 19 [.s p0.fB,.s p1.fB] h (fun _=>laws_same_ok) (fun r2 h=>?_)
 refine Runs.c2 3 22 h (fun h=>?_) (fun h=>?_)
 ·refine Runs.alln ?_
  exact ⟨_,_,_,h,lo []⟩
 refine Runs.c2 7 29 h (fun h=>?_) (fun h=>?_)
 ·refine Runs.alln ?_
  exact ⟨_,_,_,h,lo []⟩
 refine Runs.ln 2 124 Put.enc p0.fP ?_
 refine Runs.ln 2 124 Put.enc p1.fP ?_
 refine Runs.alln ?_
 exact ⟨_,_,_,h,lo []⟩
theorem laws_samePackets_ok {u p0 p1 r} (h:laws_samePackets u p0 p1=some r):CallOK Tryz.prog 70 [.one (.t (.sl 3 (p0.map Packet.enc))),.one (.t (.sl 3 (p1.map Packet.enc)))] (V.b r) []:=by
 unfold laws_samePackets at h
 refine ofb Tryz.f70 false ?_
 refine Wp.sa ?_
 refine Wp.seq ?_
 refine Wp.sr ?_
 refine Runs.ln 1 82 Packet.enc p0 ?_
 refine Runs.ln 1 82 Packet.enc p1 ?_
 refine Runs.alln ?_
 refine Wp.c2 h (fun h=>?_) (fun h=>?_)
 ·refine Wp.sa ?_
  obtain rfl:=oi h
  exact Wp.ret RetB
 refine Wp.sk ?_
 refine Wp.j0 (laws_samePackets_j1 u=some r) ⟨[(4,.b false)],[],[]⟩ (fun h=>?_) ?_
 ·refine Wp.sa ?_
  obtain rfl:=oi h
  exact Wp.ret RetB
 refine Wp.sa ?_
 refine Wp.block ?_
 refine Wp.l3 (fun k_laws_samePackets_l2 p0 p1 x2=>laws_samePackets_l2 u k_laws_samePackets_l2 p0 p1 x2=some r) (fun p0 p1 x2=>⟨[(0,.t (.sl 3 (p0.map Packet.enc))),(1,.t (.sl 3 (p1.map Packet.enc))),(4,.b false),(5,.i x2)],[],[]⟩) (fun k_laws_samePackets_l2 p0 p1 x2 h=>?_) h (lo []) (fun _ _ _  h=>nomatch h)
 rw [laws_samePackets_l2] at h
 refine Wp.seq ?_
 refine Wp.sr ?_
 refine Runs.ln 2 82 Packet.enc p0 ?_
 refine Runs.alln ?_
 refine Wp.c2 h (fun h=>?_) (fun h=>?_)
 ·refine Wp.sk ?_
  refine Wp.seq ?_
  refine Wp.block ?_
  refine Wp.j4 (fun p0 p1 x2 x11=>laws_samePackets_j3 u (fun z0 z1 z2=>laws_samePackets_l2 u k_laws_samePackets_l2 z0 z1 z2) p0 p1 x2 x11=some r) (fun p0 p1 x2 x11=>⟨[(0,.t (.sl 3 (p0.map Packet.enc))),(1,.t (.sl 3 (p1.map Packet.enc))),(4,.b false),(5,.i x2),(54,.b x11)],[],[]⟩) (fun p0 p1 x2 x11 h=>?_) ?_
  ·refine Wp.c2 h (fun h=>?_) (fun h=>?_)
   ·refine Wp.sa ?_
    obtain rfl:=oi h
    exact Wp.ret RetB
   refine Wp.skip ?_
   refine blkN ?_
   refine thenN ?_
   refine Wp.rg [] [] ?_
   refine Runs.alln ?_
   exact ⟨_,_,_,h,lo []⟩
  refine Wp.regionA (pOf []) (rhoOf [(0,.frz),(1,.frz),(5,.frz),(17,.frz),(18,.frz),(19,.frz),(20,.frz),(21,.frz),(22,.frz),(23,.frz),(24,.frz),(25,.frz),(26,.frz),(27,.frz),(28,.frz),(29,.frz),(30,.frz),(31,.frz),(32,.frz),(33,.frz),(34,.frz),(35,.frz),(36,.frz),(37,.frz),(38,.frz),(40,.frz),(41,.frz),(42,.frz),(43,.frz),(44,.frz),(45,.frz),(46,.frz),(47,.frz),(48,.frz),(49,.frz),(50,.frz),(51,.frz),(52,.frz)]) kr kr ?_
  refine Runs.ix 2 82 3 Packet.enc h (fun y4 h _=>?_)
  refine Runs.ix 4 82 3 Packet.enc h (fun y5 h _=>?_)
  refine Runs.c2 4 28 h (fun h=>?_) (fun h=>?_)
  ·refine Runs.alln ?_
   exact ⟨_,_,_,_,h,lo []⟩
  refine Runs.ix 2 82 3 Packet.enc h (fun y6 h _=>?_)
  refine Runs.ix 4 82 3 Packet.enc h (fun y7 h _=>?_)
  refine Runs.c2 5 41 h (fun h=>?_) (fun h=>?_)
  ·refine Runs.alln ?_
   exact ⟨_,_,_,_,h,lo []⟩
  refine Runs.ix 2 82 3 Packet.enc h (fun y8 h _=>?_)
  refine Runs.ix 4 82 3 Packet.enc h (fun y9 h _=>?_)
  refine Runs.cl false 2 52 [.s y8.fB,.s y9.fB] h (fun _=>laws_same_ok) (fun r10 h=>?_)
  refine Runs.alln ?_
  exact ⟨_,_,_,_,h,lo []⟩
 refine Wp.exit ?_
 refine thenE ?_
 refine thenE ?_
 refine blkE ?_
 refine thenN ?_
 exact ⟨h,lo []⟩
theorem laws_sameBeat_ok {u p0 p1 r} (h:laws_sameBeat u p0 p1=some r):CallOK Tryz.prog 37 [V.g (Beat.enc p0),V.g (Beat.enc p1)] (V.b r) []:=by
 unfold laws_sameBeat at h
 refine ofb Tryz.f37 false ?_
 refine Wp.sa ?_
 refine Wp.sr ?_
 refine Runs.cl false 4 9 [.agg ((Node.enc p0.fN).map .t),.agg ((Node.enc p1.fN).map .t)] h (fun _=>laws_sameNode_ok) (fun r1 h=>?_)
 refine Runs.c2 1 10 h (fun h=>?_) (fun h=>?_)
 ·refine Runs.cl false 4 15 [.agg ((Disk.enc p0.fD).map .t),.agg ((Disk.enc p1.fD).map .t)] h (fun _=>laws_sameDisk_ok) (fun r2 h=>?_)
  refine Runs.c2 2 17 h (fun h=>?_) (fun h=>?_)
  ·refine Runs.cl false 4 22 [.t (.sl 3 (p0.fOut.map Packet.enc)),.t (.sl 3 (p1.fOut.map Packet.enc))] h (fun _=>laws_samePackets_ok) (fun r3 h=>?_)
   refine Runs.alln ?_
   obtain rfl:=oi h
   exact Wp.ret RetB
  refine Runs.alln ?_
  obtain rfl:=oi h
  exact Wp.ret RetB
 refine Runs.alln ?_
 obtain rfl:=oi h
 exact Wp.ret RetB
theorem impl_Ticks_ok {u p0 p1 p2 p3 p4 p5 r} (h:impl_Ticks u p0 p1 p2 p3 p4 p5=some r):CallOK Tryz.prog 39 [V.g (Tree.enc p0),V.g (Conf.enc p1),V.i p2,V.g (Node.enc p3),V.g (Disk.enc p4),V.i p5] (V.w [0,0,0,0,0,0,177,0,5,0,188,0,5,5,0,0,0,124,82] (Beat.enc r)) []:=by
 unfold impl_Ticks at h
 refine ofb Tryz.f39 true ?_
 refine Wp.sa ?_
 refine Wp.seq ?_
 refine Wp.regionA (pOf []) (rhoOf [(9,.obj 9),(10,.obj 10),(13,.obj 13),(15,.frz),(16,.own 16),(17,.frz),(18,.own 18)]) kr kr ?_
 refine Runs.cl false 1 16 [.agg ((Node.enc p3).map .t)] h (fun _=>impl_copyNode_ok) (fun r1 h=>?_)
 refine Runs.cl false 1 18 [.agg ((Disk.enc p4).map .t)] h (fun _=>impl_copyDisk_ok) (fun r2 h=>?_)
 refine Runs.alln ?_
 refine Wp.seq ?_
 refine Wp.cl false 1 21 [.i p5,.i 0,.i 100] h (fun _=>impl_within_ok) (fun r3 h=>?_)
 refine Wp.c2 h (fun h=>?_) (fun h=>?_)
 ·refine Wp.sa ?_
  obtain rfl:=oi h
  exact Wp.ret RetB
 refine Wp.sk ?_
 refine Wp.j19 (fun x65 x66 x67 x68 x69 x70 x71 x72 x73 x74 x75 x76 x77 x78 x79 x80 x81 x82 x83=>impl_Ticks_j1 u x65 x66 x67 x68 x69 x70 x71 x72 x73 x74 x75 x76 x77 x78 x79 x80 x81 x82 x83=some r) (fun x65 x66 x67 x68 x69 x70 x71 x72 x73 x74 x75 x76 x77 x78 x79 x80 x81 x82 x83=>⟨[(12,.obj 12 0),(13,.obj 13 0)],[(12,[.b false,.i 0,.i 0,.i 0,.i 0,.i 0,.nil,.i 0,.nil,.i 0,.nil,.i 0,.nil,.nil,.i 0,.i 0,.i 0,.nil,.nil]),(13,[.b x65,.i x66,.i x67,.i x68,.i x69,.i x70,.own 852486,.i x72,.own 852488,.i x74,.own 852490,.i x76,.own 852492,.own 852493,.i x79,.i x80,.i x81,.own 852497,.own 852498])],[(852486,.live 177 2 (x71.map Sum.enc)),(852488,.live 5 1 (x73.map (eInt .u8))),(852490,.live 188 5 (x75.map Kid.enc)),(852492,.live 5 1 (x77.map (eInt .u8))),(852493,.live 5 1 (x78.map (eInt .u8))),(852497,.live 124 6 (x82.map Put.enc)),(852498,.live 82 3 (x83.map Packet.enc))]⟩) (fun x65 x66 x67 x68 x69 x70 x71 x72 x73 x74 x75 x76 x77 x78 x79 x80 x81 x82 x83 h=>?_) ?_
 ·refine Wp.sa ?_
  obtain rfl:=oi h
  exact Wp.ret RetB
 refine Wp.sa ?_
 refine Wp.block ?_
 refine Wp.l24 (fun k_impl_Ticks_l2 p2 p5 x24 x25 x26 x27 x28 x29 x30 x31 x32 x33 x34 x35 x36 x37 x38 x39 x40 x41 x42 x43 p0 p1=>impl_Ticks_l2 u k_impl_Ticks_l2 p2 p5 x24 x25 x26 x27 x28 x29 x30 x31 x32 x33 x34 x35 x36 x37 x38 x39 x40 x41 x42 x43 p0 p1=some r) (fun p2 p5 x24 x25 x26 x27 x28 x29 x30 x31 x32 x33 x34 x35 x36 x37 x38 x39 x40 x41 x42 x43 p0 p1=>⟨[(2,.i p2),(6,.obj 6 0),(7,.obj 7 0),(12,.obj 12 0),(13,.obj 13 0),(24,.i p5),(25,.i x24)],[(6,[.t (.sl 1 (p0.fUp.map (eInt .i64)))]),(7,((Conf.enc p1).map .t)),(12,[.b false,.i 0,.i 0,.i 0,.i 0,.i 0,.nil,.i 0,.nil,.i 0,.nil,.i 0,.nil,.nil,.i 0,.i 0,.i 0,.nil,.nil]),(13,[.b x25,.i x26,.i x27,.i x28,.i x29,.i x30,.own 852486,.i x32,.own 852488,.i x34,.own 852490,.i x36,.own 852492,.own 852493,.i x39,.i x40,.i x41,.own 852497,.own 852498])],[(852486,.live 177 2 (x31.map Sum.enc)),(852488,.live 5 1 (x33.map (eInt .u8))),(852490,.live 188 5 (x35.map Kid.enc)),(852492,.live 5 1 (x37.map (eInt .u8))),(852493,.live 5 1 (x38.map (eInt .u8))),(852497,.live 124 6 (x42.map Put.enc)),(852498,.live 82 3 (x43.map Packet.enc))]⟩) (fun k_impl_Ticks_l2 p2 p5 x24 x25 x26 x27 x28 x29 x30 x31 x32 x33 x34 x35 x36 x37 x38 x39 x40 x41 x42 x43 p0 p1 h=>?_) h (Le.trans (Le.emptyO 13 18 852498 82 3 [.b r1.fOn,.i r1.fBoss,.i r1.fQuiet,.i r1.fMan.fGen,.i r1.fMan.fSize,.i r1.fMan.fLen,.own 1048582,.i r1.fBld.fHave,.own 1048584,.i r1.fPhase,.own 1048586,.i r1.fDrops,.own 1179648,.own 1179649,.i r2.fR.fGen,.i r2.fR.fSlot,.i r2.fR.fLen,.own 1179653,.nil] kr kr kr) (lo [(852486,1048582),(852488,1048584),(852490,1048586),(852492,1179648),(852493,1179649),(852497,1179653)])) (fun _ _ _ _ _ _ _ _ _ _ _ _ _ _ _ _ _ _ _ _ _ _ _ _  h=>nomatch h)
 rw [impl_Ticks_l2] at h
 refine Wp.sa ?_
 refine Wp.seq ?_
 refine Wp.c2 h (fun h=>?_) (fun h=>?_)
 ·refine Wp.sk ?_
  refine Wp.seq ?_
  refine Wp.block ?_
  refine Wp.cl false 7 34 [.agg [.t (.sl 1 (p0.fUp.map (eInt .i64)))],.agg ((Conf.enc p1).map .t),.i p2,.agg [.b x25,.i x26,.i x27,.i x28,.i x29,.i x30,.own 852486,.i x32,.own 852488,.i x34,.own 852490,.i x36],.agg [.own 852492,.own 852493,.i x39,.i x40,.i x41,.own 852497]] h (fun _=>impl_Tick_ok) (fun r64 h=>?_)
  refine Wp.regionA (pOf []) (rhoOf [(13,.obj 13),(14,.obj 14),(35,.obj 14),(36,.own 34),(37,.obj 14),(38,.own 34),(39,.obj 13),(40,.own 13),(41,.obj 14),(42,.own 34),(43,.own 43)]) kr kr ?_
  refine Runs.ap 8 43 82 3 852498 Packet.enc h (fun h=>?_)
  refine Runs.all kr ?_
  refine blkN ?_
  refine thenN ?_
  refine Wp.rg [] [] ?_
  refine Runs.alln ?_
  exact ⟨_,_,_,_,_,_,_,_,_,_,_,_,_,_,_,_,_,_,_,_,_,_,_,_,h,lo [(852486,2228230),(852488,2228232),(852490,2228234),(852492,2228236),(852493,2228237),(852497,2228241),(852498,2818048)]⟩
 refine Wp.exit ?_
 refine thenE ?_
 refine thenE ?_
 refine blkE ?_
 refine thenN ?_
 exact ⟨_,_,_,_,_,_,_,_,_,_,_,_,_,_,_,_,_,_,_,h,lo []⟩
theorem spec_Ticks_ok {u p0 p1 p2 p3 p4 p5 r} (h:spec_Ticks u p0 p1 p2 p3 p4 p5=some r):CallOK Tryz.prog 40 [V.g (Tree.enc p0),V.g (Conf.enc p1),V.i p2,V.g (Node.enc p3),V.g (Disk.enc p4),V.i p5] (V.w [0,0,0,0,0,0,0,0,0,0,0,0,5,5,0,0,0,124,82] (Beat.enc r)) []:=by
 unfold spec_Ticks at h
 refine ofb Tryz.f40 true ?_
 refine Wp.sa ?_
 refine Wp.seq ?_
 refine Wp.regionA (pOf []) (rhoOf [(9,.obj 9),(10,.obj 10),(13,.obj 13),(16,.frz),(17,.own 17),(18,.frz),(19,.own 19),(20,.own 20)]) kr kr ?_
 refine Runs.cl false 1 17 [.agg ((Node.enc p3).map .t)] h (fun _=>spec_l15Copy_ok) (fun r1 h=>?_)
 refine Runs.cl false 1 19 [.agg ((Disk.enc p4).map .t)] h (fun _=>spec_l9Copy_ok) (fun r2 h=>?_)
 refine Runs.alln ?_
 refine Wp.j19 (fun x65 x66 x67 x68 x69 x70 x71 x72 x73 x74 x75 x76 x77 x78 x79 x80 x81 x82 x83=>spec_Ticks_j1 u x65 x66 x67 x68 x69 x70 x71 x72 x73 x74 x75 x76 x77 x78 x79 x80 x81 x82 x83=some r) (fun x65 x66 x67 x68 x69 x70 x71 x72 x73 x74 x75 x76 x77 x78 x79 x80 x81 x82 x83=>⟨[(12,.obj 12 0),(13,.obj 13 0)],[(12,[.b false,.i 0,.i 0,.i 0,.i 0,.i 0,.nil,.i 0,.nil,.i 0,.nil,.i 0,.nil,.nil,.i 0,.i 0,.i 0,.nil,.nil]),(13,[.b x65,.i x66,.i x67,.i x68,.i x69,.i x70,.t (.sl 2 (x71.map Sum.enc)),.i x72,.s x73,.i x74,.t (.sl 5 (x75.map Kid.enc)),.i x76,.own 852492,.own 852493,.i x79,.i x80,.i x81,.own 852497,.own 852498])],[(852492,.live 5 1 (x77.map (eInt .u8))),(852493,.live 5 1 (x78.map (eInt .u8))),(852497,.live 124 6 (x82.map Put.enc)),(852498,.live 82 3 (x83.map Packet.enc))]⟩) (fun x65 x66 x67 x68 x69 x70 x71 x72 x73 x74 x75 x76 x77 x78 x79 x80 x81 x82 x83 h=>?_) ?_
 ·refine Wp.sa ?_
  obtain rfl:=oi h
  exact Wp.ret RetB
 refine Wp.sa ?_
 refine Wp.block ?_
 refine Wp.l24 (fun k_spec_Ticks_l2 p2 p5 x23 x24 x25 x26 x27 x28 x29 x30 x31 x32 x33 x34 x35 x36 x37 x38 x39 x40 x41 x42 p0 p1=>spec_Ticks_l2 u k_spec_Ticks_l2 p2 p5 x23 x24 x25 x26 x27 x28 x29 x30 x31 x32 x33 x34 x35 x36 x37 x38 x39 x40 x41 x42 p0 p1=some r) (fun p2 p5 x23 x24 x25 x26 x27 x28 x29 x30 x31 x32 x33 x34 x35 x36 x37 x38 x39 x40 x41 x42 p0 p1=>⟨[(2,.i p2),(5,.i p5),(6,.obj 6 0),(7,.obj 7 0),(12,.obj 12 0),(13,.obj 13 0),(14,.i x23)],[(6,[.t (.sl 1 (p0.fUp.map (eInt .i64)))]),(7,((Conf.enc p1).map .t)),(12,[.b false,.i 0,.i 0,.i 0,.i 0,.i 0,.nil,.i 0,.nil,.i 0,.nil,.i 0,.nil,.nil,.i 0,.i 0,.i 0,.nil,.nil]),(13,[.b x24,.i x25,.i x26,.i x27,.i x28,.i x29,.t (.sl 2 (x30.map Sum.enc)),.i x31,.s x32,.i x33,.t (.sl 5 (x34.map Kid.enc)),.i x35,.own 852492,.own 852493,.i x38,.i x39,.i x40,.own 852497,.own 852498])],[(852492,.live 5 1 (x36.map (eInt .u8))),(852493,.live 5 1 (x37.map (eInt .u8))),(852497,.live 124 6 (x41.map Put.enc)),(852498,.live 82 3 (x42.map Packet.enc))]⟩) (fun k_spec_Ticks_l2 p2 p5 x23 x24 x25 x26 x27 x28 x29 x30 x31 x32 x33 x34 x35 x36 x37 x38 x39 x40 x41 x42 p0 p1 h=>?_) h (Le.trans (Le.frzO 13 6 1114118 177 2 [.b r1.fOn,.i r1.fBoss,.i r1.fQuiet,.i r1.fMan.fGen,.i r1.fMan.fSize,.i r1.fMan.fLen,.own 1114118,.i r1.fBld.fHave,.own 1114120,.i r1.fPhase,.own 1114122,.i r1.fDrops,.own 1245184,.own 1245185,.i r2.fR.fGen,.i r2.fR.fSlot,.i r2.fR.fLen,.own 1245189,.own 1310720] (r1.fMan.fSums.map Sum.enc) kr kr kr) (Le.trans (Le.frzO 13 8 1114120 5 1 [.b r1.fOn,.i r1.fBoss,.i r1.fQuiet,.i r1.fMan.fGen,.i r1.fMan.fSize,.i r1.fMan.fLen,.t (.sl 2 (r1.fMan.fSums.map Sum.enc)),.i r1.fBld.fHave,.own 1114120,.i r1.fPhase,.own 1114122,.i r1.fDrops,.own 1245184,.own 1245185,.i r2.fR.fGen,.i r2.fR.fSlot,.i r2.fR.fLen,.own 1245189,.own 1310720] (r1.fBld.fBuf.map (eInt .u8)) kr kr kr) (Le.trans (Le.frzO 13 10 1114122 188 5 [.b r1.fOn,.i r1.fBoss,.i r1.fQuiet,.i r1.fMan.fGen,.i r1.fMan.fSize,.i r1.fMan.fLen,.t (.sl 2 (r1.fMan.fSums.map Sum.enc)),.i r1.fBld.fHave,.s r1.fBld.fBuf,.i r1.fPhase,.own 1114122,.i r1.fDrops,.own 1245184,.own 1245185,.i r2.fR.fGen,.i r2.fR.fSlot,.i r2.fR.fLen,.own 1245189,.own 1310720] (r1.fKids.map Kid.enc) kr kr kr) (lo [(852492,1245184),(852493,1245185),(852497,1245189),(852498,1310720)])))) (fun _ _ _ _ _ _ _ _ _ _ _ _ _ _ _ _ _ _ _ _ _ _ _ _  h=>nomatch h)
 rw [spec_Ticks_l2] at h
 refine Wp.seq ?_
 refine Wp.j25 (fun p2 p5 x23 x63 x24 x25 x26 x27 x28 x29 x30 x31 x32 x33 x34 x35 x36 x37 x38 x39 x40 x41 x42 p0 p1=>spec_Ticks_j3 u (fun z0 z1 z2 z3 z4 z5 z6 z7 z8 z9 z10 z11 z12 z13 z14 z15 z16 z17 z18 z19 z20 z21 z22 z23=>spec_Ticks_l2 u k_spec_Ticks_l2 z0 z1 z2 z3 z4 z5 z6 z7 z8 z9 z10 z11 z12 z13 z14 z15 z16 z17 z18 z19 z20 z21 z22 z23) p2 p5 x23 x63 x24 x25 x26 x27 x28 x29 x30 x31 x32 x33 x34 x35 x36 x37 x38 x39 x40 x41 x42 p0 p1=some r) (fun p2 p5 x23 x63 x24 x25 x26 x27 x28 x29 x30 x31 x32 x33 x34 x35 x36 x37 x38 x39 x40 x41 x42 p0 p1=>⟨[(2,.i p2),(5,.i p5),(6,.obj 6 0),(7,.obj 7 0),(12,.obj 12 0),(13,.obj 13 0),(14,.i x23),(28,.b x63)],[(6,[.t (.sl 1 (p0.fUp.map (eInt .i64)))]),(7,((Conf.enc p1).map .t)),(12,[.b false,.i 0,.i 0,.i 0,.i 0,.i 0,.nil,.i 0,.nil,.i 0,.nil,.i 0,.nil,.nil,.i 0,.i 0,.i 0,.nil,.nil]),(13,[.b x24,.i x25,.i x26,.i x27,.i x28,.i x29,.t (.sl 2 (x30.map Sum.enc)),.i x31,.s x32,.i x33,.t (.sl 5 (x34.map Kid.enc)),.i x35,.own 852492,.own 852493,.i x38,.i x39,.i x40,.own 852497,.own 852498])],[(852492,.live 5 1 (x36.map (eInt .u8))),(852493,.live 5 1 (x37.map (eInt .u8))),(852497,.live 124 6 (x41.map Put.enc)),(852498,.live 82 3 (x42.map Packet.enc))]⟩) (fun p2 p5 x23 x63 x24 x25 x26 x27 x28 x29 x30 x31 x32 x33 x34 x35 x36 x37 x38 x39 x40 x41 x42 p0 p1 h=>?_) ?_
 ·refine Wp.c2 h (fun h=>?_) (fun h=>?_)
  ·refine Wp.sk ?_
   refine Wp.seq ?_
   refine Wp.block ?_
   refine Wp.cl false 7 38 [.agg [.t (.sl 1 (p0.fUp.map (eInt .i64)))],.agg ((Conf.enc p1).map .t),.i p2,.agg [.b x24,.i x25,.i x26,.i x27,.i x28,.i x29,.t (.sl 2 (x30.map Sum.enc)),.i x31,.s x32,.i x33,.t (.sl 5 (x34.map Kid.enc)),.i x35],.agg [.own 852492,.own 852493,.i x38,.i x39,.i x40,.own 852497]] h (fun _=>spec_Tick_ok) (fun r64 h=>?_)
   refine Wp.seq ?_
   refine Wp.regionA (pOf []) (rhoOf [(13,.obj 13),(15,.obj 15),(39,.own 39),(40,.obj 13),(41,.own 13),(42,.own 42),(43,.obj 15),(44,.own 38),(45,.own 45),(46,.obj 15)]) kr kr ?_
   refine Runs.ap 3 42 82 3 2555904 Packet.enc h (fun h=>?_)
   refine Runs.ap 2 45 82 3 2752512 Packet.enc h (fun h=>?_)
   refine Runs.alln ?_
   refine Wp.rg [] [] ?_
   refine Runs.all kr ?_
   refine blkN ?_
   refine thenN ?_
   refine Wp.rg [] [] ?_
   refine Runs.alln ?_
   exact ⟨_,_,_,_,_,_,_,_,_,_,_,_,_,_,_,_,_,_,_,_,_,_,_,_,h,lo [(852492,2490380),(852493,2490381),(852497,2490385),(852498,2949120)]⟩
  refine Wp.exit ?_
  refine thenE ?_
  refine thenE ?_
  refine blkE ?_
  refine thenN ?_
  exact ⟨_,_,_,_,_,_,_,_,_,_,_,_,_,_,_,_,_,_,_,h,lo []⟩
 refine Wp.rg [] [] ?_
 refine Runs.c2 4 25 h (fun h=>?_) (fun h=>?_)
 ·refine Runs.alln ?_
  exact ⟨_,_,_,_,_,_,_,_,_,_,_,_,_,_,_,_,_,_,_,_,_,_,_,_,_,h,lo []⟩
 refine Runs.alln ?_
 exact ⟨_,_,_,_,_,_,_,_,_,_,_,_,_,_,_,_,_,_,_,_,_,_,_,_,_,h,lo []⟩
theorem impl_ConfOk_ok {u p0 r} (h:impl_ConfOk u p0=some r):CallOK Tryz.prog 41 [V.g (Conf.enc p0)] (V.b r) []:=by
 unfold impl_ConfOk at h
 refine ofb Tryz.f41 false ?_
 refine Wp.sa ?_
 refine Wp.sr ?_
 refine Runs.cl false 2 5 [.i p0.fSize,.i 2,.i 6] h (fun _=>impl_within_ok) (fun r1 h=>?_)
 refine Runs.c2 1 6 h (fun h=>?_) (fun h=>?_)
 ·refine Runs.cl false 2 9 [.i p0.fWindow,.i 1,.i 40] h (fun _=>impl_within_ok) (fun r2 h=>?_)
  refine Runs.c2 2 11 h (fun h=>?_) (fun h=>?_)
  ·refine Runs.cl false 2 14 [.i p0.fSuspect,.i 1,.i 5] h (fun _=>impl_within_ok) (fun r3 h=>?_)
   refine Runs.c2 2 16 h (fun h=>?_) (fun h=>?_)
   ·refine Runs.cl false 2 19 [.i p0.fForget,.i 2,.i 8] h (fun _=>impl_within_ok) (fun r4 h=>?_)
    refine Runs.alln ?_
    obtain rfl:=oi h
    exact Wp.ret RetB
   refine Runs.alln ?_
   obtain rfl:=oi h
   exact Wp.ret RetB
  refine Runs.alln ?_
  obtain rfl:=oi h
  exact Wp.ret RetB
 refine Runs.alln ?_
 obtain rfl:=oi h
 exact Wp.ret RetB
theorem spec_ConfOk_ok {u p0 r} (h:spec_ConfOk u p0=some r):CallOK Tryz.prog 42 [V.g (Conf.enc p0)] (V.b r) []:=by
 unfold spec_ConfOk at h
 refine ofb Tryz.f42 false ?_
 refine Wp.sa ?_
 refine Wp.sr ?_
 refine Runs.cl false 2 5 [.i p0.fSize,.i 2,.i 6] h (fun _=>spec_l1In_ok) (fun r1 h=>?_)
 refine Runs.c2 1 6 h (fun h=>?_) (fun h=>?_)
 ·refine Runs.cl false 2 9 [.i p0.fWindow,.i 1,.i 40] h (fun _=>spec_l1In_ok) (fun r2 h=>?_)
  refine Runs.c2 2 11 h (fun h=>?_) (fun h=>?_)
  ·refine Runs.cl false 2 14 [.i p0.fSuspect,.i 1,.i 5] h (fun _=>spec_l1In_ok) (fun r3 h=>?_)
   refine Runs.c2 2 16 h (fun h=>?_) (fun h=>?_)
   ·refine Runs.cl false 2 19 [.i p0.fForget,.i 2,.i 8] h (fun _=>spec_l1In_ok) (fun r4 h=>?_)
    refine Runs.alln ?_
    obtain rfl:=oi h
    exact Wp.ret RetB
   refine Runs.alln ?_
   obtain rfl:=oi h
   exact Wp.ret RetB
  refine Runs.alln ?_
  obtain rfl:=oi h
  exact Wp.ret RetB
 refine Runs.alln ?_
 obtain rfl:=oi h
 exact Wp.ret RetB
theorem impl_Suspects_ok {u p0 p1 r} (h:impl_Suspects u p0 p1=some r):CallOK Tryz.prog 43 [V.g (Conf.enc p0),V.g (Node.enc p1)] (V.b r) []:=by
 unfold impl_Suspects at h
 refine ofb Tryz.f43 false ?_
 refine Wp.sa ?_
 refine Wp.sr ?_
 refine Runs.c2 3 7 h (fun h=>?_) (fun h=>?_)
 ·refine Runs.c2 5 12 h (fun h=>?_) (fun h=>?_)
  ·refine Runs.alln ?_
   obtain rfl:=oi h
   exact Wp.ret RetB
  refine Runs.alln ?_
  obtain rfl:=oi h
  exact Wp.ret RetB
 refine Runs.alln ?_
 obtain rfl:=oi h
 exact Wp.ret RetB
theorem spec_Suspects_ok {u p0 p1 r} (h:spec_Suspects u p0 p1=some r):CallOK Tryz.prog 44 [V.g (Conf.enc p0),V.g (Node.enc p1)] (V.b r) []:=by
 unfold spec_Suspects at h
 refine ofb Tryz.f44 false ?_
 refine Wp.sa ?_
 refine Wp.sr ?_
 refine Runs.c2 3 7 h (fun h=>?_) (fun h=>?_)
 ·refine Runs.c2 5 12 h (fun h=>?_) (fun h=>?_)
  ·refine Runs.alln ?_
   obtain rfl:=oi h
   exact Wp.ret RetB
  refine Runs.alln ?_
  obtain rfl:=oi h
  exact Wp.ret RetB
 refine Runs.alln ?_
 obtain rfl:=oi h
 exact Wp.ret RetB
theorem impl_StepsLeft_ok {u p0 r} (h:impl_StepsLeft u p0=some r):CallOK Tryz.prog 129 [V.i p0] (V.i r) []:=by
 unfold impl_StepsLeft at h
 refine ofb Tryz.f129 false ?_
 refine Wp.sa ?_
 refine Wp.seq ?_
 refine Wp.cl false 1 4 [.i p0,.i 1,.i 4] h (fun _=>impl_within_ok) (fun r1 h=>?_)
 refine Wp.c2 h (fun h=>?_) (fun h=>?_)
 ·refine Wp.sa ?_
  obtain rfl:=oi h
  exact Wp.ret RetB
 refine Wp.sk ?_
 refine Wp.sa ?_
 obtain rfl:=oi h
 exact Wp.ret RetB
theorem impl_TicksToDone_ok {u p0 r} (h:impl_TicksToDone u p0=some r):CallOK Tryz.prog 45 [V.g (Node.enc p0)] (V.i r) []:=by
 unfold impl_TicksToDone at h
 refine ofb Tryz.f45 false ?_
 refine Wp.sa ?_
 refine Wp.seq ?_
 refine Wp.sa ?_
 refine Wp.c2 h (fun h=>?_) (fun h=>?_)
 ·refine Wp.sa ?_
  obtain rfl:=oi h
  exact Wp.ret RetB
 refine Wp.sk ?_
 refine Wp.cl false 2 8 [.i p0.fPhase] h (fun _=>impl_StepsLeft_ok) (fun r1 h=>?_)
 obtain rfl:=oi h
 exact Wp.ret RetB
theorem spec_StepsLeft_ok {u p0 r} (h:spec_StepsLeft u p0=some r):CallOK Tryz.prog 130 [V.i p0] (V.i r) []:=by
 unfold spec_StepsLeft at h
 refine ofb Tryz.f130 false ?_
 refine Wp.sa ?_
 refine Wp.seq ?_
 refine Wp.cl false 1 4 [.i p0,.i 1,.i 4] h (fun _=>spec_l1In_ok) (fun r1 h=>?_)
 refine Wp.c2 h (fun h=>?_) (fun h=>?_)
 ·refine Wp.sa ?_
  obtain rfl:=oi h
  exact Wp.ret RetB
 refine Wp.sk ?_
 refine Wp.sa ?_
 obtain rfl:=oi h
 exact Wp.ret RetB
theorem spec_TicksToDone_ok {u p0 r} (h:spec_TicksToDone u p0=some r):CallOK Tryz.prog 46 [V.g (Node.enc p0)] (V.i r) []:=by
 unfold spec_TicksToDone at h
 refine ofb Tryz.f46 false ?_
 refine Wp.sa ?_
 refine Wp.seq ?_
 refine Wp.sa ?_
 refine Wp.c2 h (fun h=>?_) (fun h=>?_)
 ·refine Wp.sa ?_
  obtain rfl:=oi h
  exact Wp.ret RetB
 refine Wp.sk ?_
 refine Wp.cl false 2 8 [.i p0.fPhase] h (fun _=>spec_StepsLeft_ok) (fun r1 h=>?_)
 obtain rfl:=oi h
 exact Wp.ret RetB
theorem impl_ConfNew_ok {u r} (h:impl_ConfNew u=some r):CallOK Tryz.prog 47 [] (V.g (Conf.enc r)) []:=by
 unfold impl_ConfNew at h
 refine ofb Tryz.f47 false ?_
 refine Wp.sa ?_
 refine Wp.sa ?_
 obtain rfl:=oi h
 exact Wp.ret RetB
theorem spec_ConfNew_ok {u r} (h:spec_ConfNew u=some r):CallOK Tryz.prog 48 [] (V.g (Conf.enc r)) []:=by
 unfold spec_ConfNew at h
 refine ofb Tryz.f48 false ?_
 refine Wp.sa ?_
 refine Wp.sa ?_
 obtain rfl:=oi h
 exact Wp.ret RetB
theorem laws_FnTicks_ok {u p0 r} (h:laws_FnTicks u p0=some r):CallOK Tryz.prog 4 [.one (.s p0)] (V.b r) []:=by
 unfold laws_FnTicks at h
 refine ofb Tryz.f4 false ?_
 refine Wp.sa ?_
 refine Wp.seq ?_
 refine Wp.cl false 1 20 [.s p0] h (fun _=>laws_big_ok) (fun r1 h=>?_)
 refine Wp.c2 h (fun h=>?_) (fun h=>?_)
 ·refine Wp.sa ?_
  obtain rfl:=oi h
  exact Wp.ret RetB
 refine Wp.sk ?_
 refine Wp.cl false 1 23 [.s p0] h (fun _=>spec_DrawTick_ok) (fun r2 h=>?_)
 refine Wp.cl false 5 34 [.agg [.t (.sl 1 (r2.1.fUp.map (eInt .i64)))],.agg ((Conf.enc r2.2.1).map .t),.i r2.2.2.1,.agg ((Node.enc r2.2.2.2.1).map .t),.agg ((Disk.enc r2.2.2.2.2).map .t)] h (fun _=>impl_Tick_ok) (fun r3 h=>?_)
 refine Wp.cl false 1 37 [.s p0] h (fun _=>spec_DrawTicks_ok) (fun r4 h=>?_)
 refine Wp.fg ⟨[(0,.s p0),(2,.b false),(3,.obj 3 0),(4,.obj 4 0),(5,.i r2.2.2.1),(6,.obj 6 0),(7,.obj 7 0),(8,.obj 8 0),(9,.obj 9 0),(10,.obj 10 0),(11,.i r4.2.2.1),(12,.obj 12 0),(13,.obj 13 0),(14,.i r4.2.2.2.2.2)],[(3,[.t (.sl 1 (r2.1.fUp.map (eInt .i64)))]),(4,((Conf.enc r2.2.1).map .t)),(6,((Node.enc r2.2.2.2.1).map .t)),(7,((Disk.enc r2.2.2.2.2).map .t)),(8,[.b r3.fN.fOn,.i r3.fN.fBoss,.i r3.fN.fQuiet,.i r3.fN.fMan.fGen,.i r3.fN.fMan.fSize,.i r3.fN.fMan.fLen,.own 2228230,.i r3.fN.fBld.fHave,.own 2228232,.i r3.fN.fPhase,.own 2228234,.i r3.fN.fDrops,.own 2228236,.own 2228237,.i r3.fD.fR.fGen,.i r3.fD.fR.fSlot,.i r3.fD.fR.fLen,.own 2228241,.own 2228242]),(9,[.t (.sl 1 (r4.1.fUp.map (eInt .i64)))]),(10,((Conf.enc r4.2.1).map .t)),(12,((Node.enc r4.2.2.2.1).map .t)),(13,((Disk.enc r4.2.2.2.2.1).map .t))],[(2228230,.live 177 2 (r3.fN.fMan.fSums.map Sum.enc)),(2228232,.live 5 1 (r3.fN.fBld.fBuf.map (eInt .u8))),(2228234,.live 188 5 (r3.fN.fKids.map Kid.enc)),(2228236,.live 5 1 (r3.fD.fA.map (eInt .u8))),(2228237,.live 5 1 (r3.fD.fB.map (eInt .u8))),(2228241,.live 124 6 (r3.fD.fP.map Put.enc)),(2228242,.live 82 3 (r3.fOut.map Packet.enc))]⟩ ?_
 refine Wp.cl false 1 45 [.s p0] h (fun _=>spec_DrawConfOk_ok) (fun r5 h=>?_)
 refine Wp.cl false 1 48 [.s p0] h (fun _=>spec_DrawSuspects_ok) (fun r6 h=>?_)
 refine Wp.cl false 1 52 [.s p0] h (fun _=>spec_DrawTicksToDone_ok) (fun r7 h=>?_)
 refine Wp.seq ?_
 refine Wp.j3 (fun r2 x23 r3=>laws_FnTicks_j1 u r2 x23 r3=some r) (fun r2 x23 r3=>⟨[(2,.b false),(4,.obj 4 0),(5,.i r2.2.2.1),(6,.obj 6 0),(7,.obj 7 0),(8,.obj 8 0),(112,.b x23)],[(4,((Conf.enc r2.2.1).map .t)),(6,((Node.enc r2.2.2.2.1).map .t)),(7,((Disk.enc r2.2.2.2.2).map .t)),(8,((Beat.enc r3).map .t))],[]⟩) (fun r2 x23 r3 h=>?_) ?_
 ·refine Wp.c2 h (fun h=>?_) (fun h=>?_)
  ·refine Wp.sa ?_
   obtain rfl:=oi h
   exact Wp.ret RetB
  refine Wp.sk ?_
  refine Wp.seq ?_
  refine Wp.sa ?_
  refine Wp.c2 h (fun h=>?_) (fun h=>?_)
  ·refine Wp.sr ?_
   refine Runs.cl false 3 119 [.agg ((Node.enc r3.fN).map .t),.agg ((Node.enc r2.2.2.2.1).map .t)] h (fun _=>laws_sameNode_ok) (fun r24 h=>?_)
   refine Runs.c2 1 120 h (fun h=>?_) (fun h=>?_)
   ·refine Runs.ln 2 82 Packet.enc r3.fOut ?_
    refine Runs.alln ?_
    obtain rfl:=oi h
    exact Wp.ret RetB
   refine Runs.alln ?_
   obtain rfl:=oi h
   exact Wp.ret RetB
  refine Wp.sk ?_
  refine Wp.seq ?_
  refine Wp.sa ?_
  refine Wp.c2 h (fun h=>?_) (fun h=>?_)
  ·refine Wp.sr ?_
   refine Runs.ln 2 82 Packet.enc r3.fOut ?_
   refine Runs.c2 2 132 h (fun h=>?_) (fun h=>?_)
   ·refine Runs.cl false 3 136 [.agg ((Disk.enc r3.fD).map .t),.agg ((Disk.enc r2.2.2.2.2).map .t)] h (fun _=>laws_sameDisk_ok) (fun r25 h=>?_)
    refine Runs.alln ?_
    obtain rfl:=oi h
    exact Wp.ret RetB
   refine Runs.alln ?_
   obtain rfl:=oi h
   exact Wp.ret RetB
  refine Wp.sk ?_
  refine Wp.seq ?_
  refine Wp.regionA (pOf []) (rhoOf [(4,.obj 4),(6,.obj 6),(8,.obj 8),(138,.obj 8),(139,.frz),(140,.frz),(141,.frz),(142,.frz),(143,.obj 8),(144,.frz),(145,.frz),(146,.frz),(147,.frz),(148,.obj 8),(149,.obj 8),(150,.frz),(152,.frz),(153,.frz),(154,.obj 8),(155,.frz),(156,.frz),(157,.frz),(158,.frz),(160,.frz),(161,.frz),(162,.obj 6),(163,.frz),(164,.obj 4),(165,.frz),(166,.frz),(167,.obj 8),(168,.obj 8),(169,.frz),(170,.frz),(171,.frz),(172,.obj 6),(173,.frz),(174,.obj 4),(175,.frz),(177,.frz),(179,.frz),(180,.frz),(181,.obj 8),(182,.obj 8),(183,.obj 8),(184,.frz),(185,.obj 6),(186,.obj 6),(187,.frz),(189,.frz)]) kr kr ?_
  refine Runs.ln 2 82 Packet.enc r3.fOut ?_
  refine Runs.c2 2 142 h (fun h=>?_) (fun h=>?_)
  ·refine Runs.ix 2 82 3 Packet.enc h (fun y26 h _=>?_)
   refine Runs.c2 8 153 h (fun h=>?_) (fun h=>?_)
   ·refine Runs.cl false 2 156 [.agg ((Node.enc r3.fN).map .t)] h (fun _=>impl_TicksToDone_ok) (fun r27 h=>?_)
    refine Runs.cl false 1 158 [.agg ((Node.enc r2.2.2.2.1).map .t)] h (fun _=>impl_TicksToDone_ok) (fun r28 h=>?_)
    refine Runs.c2 3 161 h (fun h=>?_) (fun h=>?_)
    ·refine Runs.c2 10 171 h (fun h=>?_) (fun h=>?_)
     ·refine Runs.c2 9 180 h (fun h=>?_) (fun h=>?_)
      ·refine Runs.alln ?_
       refine Wp.fg ⟨[(2,.b (r3.fN.fBld.fHave == r2.2.2.2.1.fBld.fHave))],[],[]⟩ ?_
       obtain rfl:=oi h
       exact Wp.ret RetB
      refine Runs.alln ?_
      obtain rfl:=oi h
      exact Wp.ret RetB
     refine Runs.c2 9 180 h (fun h=>?_) (fun h=>?_)
     ·refine Runs.alln ?_
      obtain rfl:=oi h
      exact Wp.ret RetB
     refine Runs.alln ?_
     obtain rfl:=oi h
     exact Wp.ret RetB
    refine Runs.alln ?_
    obtain rfl:=oi h
    exact Wp.ret RetB
   refine Runs.alln ?_
   obtain rfl:=oi h
   exact Wp.ret RetB
  refine Runs.alln ?_
  obtain rfl:=oi h
  exact Wp.ret RetB
 refine Wp.le (Le.trans (Le.frzO 8 6 2228230 177 2 [.b r3.fN.fOn,.i r3.fN.fBoss,.i r3.fN.fQuiet,.i r3.fN.fMan.fGen,.i r3.fN.fMan.fSize,.i r3.fN.fMan.fLen,.own 2228230,.i r3.fN.fBld.fHave,.own 2228232,.i r3.fN.fPhase,.own 2228234,.i r3.fN.fDrops,.own 2228236,.own 2228237,.i r3.fD.fR.fGen,.i r3.fD.fR.fSlot,.i r3.fD.fR.fLen,.own 2228241,.own 2228242] (r3.fN.fMan.fSums.map Sum.enc) kr kr kr) (Le.trans (Le.frzO 8 8 2228232 5 1 [.b r3.fN.fOn,.i r3.fN.fBoss,.i r3.fN.fQuiet,.i r3.fN.fMan.fGen,.i r3.fN.fMan.fSize,.i r3.fN.fMan.fLen,.t (.sl 2 (r3.fN.fMan.fSums.map Sum.enc)),.i r3.fN.fBld.fHave,.own 2228232,.i r3.fN.fPhase,.own 2228234,.i r3.fN.fDrops,.own 2228236,.own 2228237,.i r3.fD.fR.fGen,.i r3.fD.fR.fSlot,.i r3.fD.fR.fLen,.own 2228241,.own 2228242] (r3.fN.fBld.fBuf.map (eInt .u8)) kr kr kr) (Le.trans (Le.frzO 8 10 2228234 188 5 [.b r3.fN.fOn,.i r3.fN.fBoss,.i r3.fN.fQuiet,.i r3.fN.fMan.fGen,.i r3.fN.fMan.fSize,.i r3.fN.fMan.fLen,.t (.sl 2 (r3.fN.fMan.fSums.map Sum.enc)),.i r3.fN.fBld.fHave,.s r3.fN.fBld.fBuf,.i r3.fN.fPhase,.own 2228234,.i r3.fN.fDrops,.own 2228236,.own 2228237,.i r3.fD.fR.fGen,.i r3.fD.fR.fSlot,.i r3.fD.fR.fLen,.own 2228241,.own 2228242] (r3.fN.fKids.map Kid.enc) kr kr kr) (Le.trans (Le.frzO 8 12 2228236 5 1 [.b r3.fN.fOn,.i r3.fN.fBoss,.i r3.fN.fQuiet,.i r3.fN.fMan.fGen,.i r3.fN.fMan.fSize,.i r3.fN.fMan.fLen,.t (.sl 2 (r3.fN.fMan.fSums.map Sum.enc)),.i r3.fN.fBld.fHave,.s r3.fN.fBld.fBuf,.i r3.fN.fPhase,.t (.sl 5 (r3.fN.fKids.map Kid.enc)),.i r3.fN.fDrops,.own 2228236,.own 2228237,.i r3.fD.fR.fGen,.i r3.fD.fR.fSlot,.i r3.fD.fR.fLen,.own 2228241,.own 2228242] (r3.fD.fA.map (eInt .u8)) kr kr kr) (Le.trans (Le.frzO 8 13 2228237 5 1 [.b r3.fN.fOn,.i r3.fN.fBoss,.i r3.fN.fQuiet,.i r3.fN.fMan.fGen,.i r3.fN.fMan.fSize,.i r3.fN.fMan.fLen,.t (.sl 2 (r3.fN.fMan.fSums.map Sum.enc)),.i r3.fN.fBld.fHave,.s r3.fN.fBld.fBuf,.i r3.fN.fPhase,.t (.sl 5 (r3.fN.fKids.map Kid.enc)),.i r3.fN.fDrops,.s r3.fD.fA,.own 2228237,.i r3.fD.fR.fGen,.i r3.fD.fR.fSlot,.i r3.fD.fR.fLen,.own 2228241,.own 2228242] (r3.fD.fB.map (eInt .u8)) kr kr kr) (Le.trans (Le.frzO 8 17 2228241 124 6 [.b r3.fN.fOn,.i r3.fN.fBoss,.i r3.fN.fQuiet,.i r3.fN.fMan.fGen,.i r3.fN.fMan.fSize,.i r3.fN.fMan.fLen,.t (.sl 2 (r3.fN.fMan.fSums.map Sum.enc)),.i r3.fN.fBld.fHave,.s r3.fN.fBld.fBuf,.i r3.fN.fPhase,.t (.sl 5 (r3.fN.fKids.map Kid.enc)),.i r3.fN.fDrops,.s r3.fD.fA,.s r3.fD.fB,.i r3.fD.fR.fGen,.i r3.fD.fR.fSlot,.i r3.fD.fR.fLen,.own 2228241,.own 2228242] (r3.fD.fP.map Put.enc) kr kr kr) (Le.frzO 8 18 2228242 82 3 [.b r3.fN.fOn,.i r3.fN.fBoss,.i r3.fN.fQuiet,.i r3.fN.fMan.fGen,.i r3.fN.fMan.fSize,.i r3.fN.fMan.fLen,.t (.sl 2 (r3.fN.fMan.fSums.map Sum.enc)),.i r3.fN.fBld.fHave,.s r3.fN.fBld.fBuf,.i r3.fN.fPhase,.t (.sl 5 (r3.fN.fKids.map Kid.enc)),.i r3.fN.fDrops,.s r3.fD.fA,.s r3.fD.fB,.i r3.fD.fR.fGen,.i r3.fD.fR.fSlot,.i r3.fD.fR.fLen,.t (.sl 6 (r3.fD.fP.map Put.enc)),.own 2228242] (r3.fOut.map Packet.enc) kr kr kr))))))) ?_
 refine Wp.regionA (pOf []) (rhoOf [(3,.obj 3),(4,.obj 4),(5,.frz),(6,.obj 6),(7,.obj 7),(8,.obj 8),(9,.obj 9),(10,.obj 10),(11,.frz),(12,.obj 12),(13,.obj 13),(14,.frz),(15,.obj 15),(16,.obj 16),(17,.obj 17),(18,.obj 18),(53,.frz),(54,.frz),(55,.frz),(56,.frz),(57,.frz),(58,.frz),(59,.own 59),(60,.frz),(61,.frz),(62,.frz),(63,.frz),(64,.frz),(65,.frz),(66,.frz),(67,.frz),(68,.frz),(69,.own 69),(70,.frz),(71,.frz),(72,.frz),(73,.frz),(74,.frz),(75,.frz),(76,.own 76),(77,.frz),(79,.frz),(80,.frz),(81,.frz),(82,.frz),(83,.frz),(84,.frz),(86,.frz),(87,.frz),(88,.frz),(89,.frz),(90,.frz),(91,.frz),(92,.frz),(93,.frz),(95,.frz),(96,.frz),(97,.frz),(98,.frz),(99,.frz),(100,.frz),(102,.frz),(103,.frz),(104,.frz),(105,.frz),(107,.frz),(108,.frz),(109,.frz),(110,.frz)]) kr kr ?_
 refine Runs.cl false 6 59 [.agg [.t (.sl 1 (r2.1.fUp.map (eInt .i64)))],.agg ((Conf.enc r2.2.1).map .t),.i r2.2.2.1,.agg ((Node.enc r2.2.2.2.1).map .t),.agg ((Disk.enc r2.2.2.2.2).map .t)] h (fun _=>spec_Tick_ok) (fun r8 h=>?_)
 refine Runs.cb 0 60 [.agg ((Beat.enc r3).map .t),.agg [.b r8.fN.fOn,.i r8.fN.fBoss,.i r8.fN.fQuiet,.i r8.fN.fMan.fGen,.i r8.fN.fMan.fSize,.i r8.fN.fMan.fLen,.t (.sl 2 (r8.fN.fMan.fSums.map Sum.enc)),.i r8.fN.fBld.fHave,.s r8.fN.fBld.fBuf,.i r8.fN.fPhase,.t (.sl 5 (r8.fN.fKids.map Kid.enc)),.i r8.fN.fDrops,.own 3866636,.own 3866637,.i r8.fD.fR.fGen,.i r8.fD.fR.fSlot,.i r8.fD.fR.fLen,.own 3866641,.own 3866642]] h (fun _=>laws_sameBeat_ok) (fun r9 h=>?_)
 refine Runs.c2 2 62 h (fun h=>?_) (fun h=>?_)
 ·refine Runs.alln ?_
  exact ⟨_,_,_,h,lo []⟩
 refine Runs.cl false 6 69 [.agg [.t (.sl 1 (r4.1.fUp.map (eInt .i64)))],.agg ((Conf.enc r4.2.1).map .t),.i r4.2.2.1,.agg ((Node.enc r4.2.2.2.1).map .t),.agg ((Disk.enc r4.2.2.2.2.1).map .t),.i r4.2.2.2.2.2] h (fun _=>impl_Ticks_ok) (fun r10 h=>?_)
 refine Runs.cl false 6 76 [.agg [.t (.sl 1 (r4.1.fUp.map (eInt .i64)))],.agg ((Conf.enc r4.2.1).map .t),.i r4.2.2.1,.agg ((Node.enc r4.2.2.2.1).map .t),.agg ((Disk.enc r4.2.2.2.2.1).map .t),.i r4.2.2.2.2.2] h (fun _=>spec_Ticks_ok) (fun r11 h=>?_)
 refine Runs.cb 0 77 [.agg [.b r10.fN.fOn,.i r10.fN.fBoss,.i r10.fN.fQuiet,.i r10.fN.fMan.fGen,.i r10.fN.fMan.fSize,.i r10.fN.fMan.fLen,.own 4521990,.i r10.fN.fBld.fHave,.own 4521992,.i r10.fN.fPhase,.own 4521994,.i r10.fN.fDrops,.own 4521996,.own 4521997,.i r10.fD.fR.fGen,.i r10.fD.fR.fSlot,.i r10.fD.fR.fLen,.own 4522001,.own 4522002],.agg [.b r11.fN.fOn,.i r11.fN.fBoss,.i r11.fN.fQuiet,.i r11.fN.fMan.fGen,.i r11.fN.fMan.fSize,.i r11.fN.fMan.fLen,.t (.sl 2 (r11.fN.fMan.fSums.map Sum.enc)),.i r11.fN.fBld.fHave,.s r11.fN.fBld.fBuf,.i r11.fN.fPhase,.t (.sl 5 (r11.fN.fKids.map Kid.enc)),.i r11.fN.fDrops,.own 4980748,.own 4980749,.i r11.fD.fR.fGen,.i r11.fD.fR.fSlot,.i r11.fD.fR.fLen,.own 4980753,.own 4980754]] h (fun _=>laws_sameBeat_ok) (fun r12 h=>?_)
 refine Runs.c2 3 80 h (fun h=>?_) (fun h=>?_)
 ·refine Runs.alln ?_
  exact ⟨_,_,_,h,lo []⟩
 refine Runs.cl false 1 82 [.agg ((Conf.enc r5).map .t)] h (fun _=>impl_ConfOk_ok) (fun r13 h=>?_)
 refine Runs.cl false 1 84 [.agg ((Conf.enc r5).map .t)] h (fun _=>spec_ConfOk_ok) (fun r14 h=>?_)
 refine Runs.c2 3 87 h (fun h=>?_) (fun h=>?_)
 ·refine Runs.alln ?_
  exact ⟨_,_,_,h,lo []⟩
 refine Runs.cl false 2 90 [.agg ((Conf.enc r6.1).map .t),.agg ((Node.enc r6.2).map .t)] h (fun _=>impl_Suspects_ok) (fun r15 h=>?_)
 refine Runs.cl false 2 93 [.agg ((Conf.enc r6.1).map .t),.agg ((Node.enc r6.2).map .t)] h (fun _=>spec_Suspects_ok) (fun r16 h=>?_)
 refine Runs.c2 3 96 h (fun h=>?_) (fun h=>?_)
 ·refine Runs.alln ?_
  exact ⟨_,_,_,h,lo []⟩
 refine Runs.cl false 1 98 [.agg ((Node.enc r7).map .t)] h (fun _=>impl_TicksToDone_ok) (fun r17 h=>?_)
 refine Runs.cl false 1 100 [.agg ((Node.enc r7).map .t)] h (fun _=>spec_TicksToDone_ok) (fun r18 h=>?_)
 refine Runs.c2 3 103 h (fun h=>?_) (fun h=>?_)
 ·refine Runs.alln ?_
  exact ⟨_,_,_,h,lo []⟩
 refine Runs.cl false 0 104 [] h (fun _=>impl_ConfNew_ok) (fun r19 h=>?_)
 refine Runs.cl false 0 105 [] h (fun _=>spec_ConfNew_ok) (fun r20 h=>?_)
 refine Runs.c2 3 108 h (fun h=>?_) (fun h=>?_)
 ·refine Runs.alln ?_
  exact ⟨_,_,_,h,lo []⟩
 refine Runs.cl false 0 109 [] h (fun _=>impl_ConfNew_ok) (fun r21 h=>?_)
 refine Runs.cl false 0 110 [.agg ((Conf.enc r21).map .t)] h (fun _=>impl_ConfOk_ok) (fun r22 h=>?_)
 refine Runs.alln ?_
 exact ⟨_,_,_,h,lo []⟩
end Go.Tm
