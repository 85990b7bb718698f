/- The functions as they are translated do what the pure functions say (printed). -/
import Derived.Test.YtnbfbkdnjeioiaaGreatCFnRisesK1
import Derived.Test.YtnbfbkdnjeioiaaGreatProg
set_option maxRecDepth 100000
set_option maxHeartbeats 20000000
set_option linter.unusedVariables false
set_option linter.unusedSimpArgs false
namespace Go.Tm
open Go.Proofs
theorem laws_same_ok {u p0 p1 r} (h:laws_same u p0 p1=some r):CallOK Tryz.prog 95 [.one (.s p0),.one (.s p1)] (V.b r) []:=by
 unfold laws_same at h
 refine ofb Tryz.f95 false ?_
 refine Wp.sa ?_
 refine Wp.seq ?_
 refine Wp.sr ?_
 refine Runs.ln 1 5 (eInt .u8) p0 ?_
 refine Runs.ln 1 5 (eInt .u8) p1 ?_
 refine Runs.alln ?_
 refine Wp.c2 h (fun h=>?_) (fun h=>?_)
 ·refine Wp.sa ?_
  obtain rfl:=oi h
  exact Wp.ret RetB
 refine Wp.sk ?_
 refine Wp.j0 (laws_same_j1 u=some r) ⟨[(4,.b false)],[],[]⟩ (fun h=>?_) ?_
 ·refine Wp.sa ?_
  obtain rfl:=oi h
  exact Wp.ret RetB
 refine Wp.sa ?_
 refine Wp.block ?_
 refine Wp.l3 (fun k_laws_same_l2 p0 p1 x2=>laws_same_l2 u k_laws_same_l2 p0 p1 x2=some r) (fun p0 p1 x2=>⟨[(0,.s p0),(1,.s p1),(4,.b false),(5,.i x2)],[],[]⟩) (fun k_laws_same_l2 p0 p1 x2 h=>?_) h (lo []) (fun _ _ _  h=>nomatch h)
 rw [laws_same_l2] at h
 refine Wp.seq ?_
 refine Wp.sr ?_
 refine Runs.ln 2 5 (eInt .u8) p0 ?_
 refine Runs.alln ?_
 refine Wp.c2 h (fun h=>?_) (fun h=>?_)
 ·refine Wp.sk ?_
  refine Wp.seq ?_
  refine Wp.block ?_
  refine Wp.seq ?_
  refine Wp.regionA (pOf []) (rhoOf [(0,.frz),(1,.frz),(5,.frz),(17,.frz),(18,.frz),(19,.frz),(20,.frz),(21,.frz),(22,.frz),(23,.frz),(24,.frz)]) kr kr ?_
  refine Runs.ix 2 5 1 (eInt .u8) h (fun y4 h _=>?_)
  refine Runs.ix 3 5 1 (eInt .u8) h (fun y5 h _=>?_)
  refine Runs.alln ?_
  refine Wp.c2 h (fun h=>?_) (fun h=>?_)
  ·refine Wp.sa ?_
   obtain rfl:=oi h
   exact Wp.ret RetB
  refine Wp.skip ?_
  refine blkN ?_
  refine thenN ?_
  refine Wp.rg [] [] ?_
  refine Runs.alln ?_
  exact ⟨_,_,_,h,lo []⟩
 refine Wp.exit ?_
 refine thenE ?_
 refine thenE ?_
 refine blkE ?_
 refine thenN ?_
 exact ⟨h,lo []⟩
theorem laws_sameBuild_ok {u p0 p1 r} (h:laws_sameBuild u p0 p1=some r):CallOK Tryz.prog 87 [V.g (Build.enc p0),V.g (Build.enc p1)] (V.b r) []:=by
 unfold laws_sameBuild at h
 refine ofb Tryz.f87 false ?_
 refine Wp.sa ?_
 refine Wp.sr ?_
 refine Runs.c2 6 10 h (fun h=>?_) (fun h=>?_)
 ·refine Runs.cl false 4 15 [.s p0.fBuf,.s p1.fBuf] h (fun _=>laws_same_ok) (fun r1 h=>?_)
  refine Runs.alln ?_
  obtain rfl:=oi h
  exact Wp.ret RetB
 refine Runs.alln ?_
 obtain rfl:=oi h
 exact Wp.ret RetB
theorem laws_sameKids_ok {u p0 p1 r} (h:laws_sameKids u p0 p1=some r):CallOK Tryz.prog 88 [.one (.t (.sl 5 (p0.map Kid.enc))),.one (.t (.sl 5 (p1.map Kid.enc)))] (V.b r) []:=by
 unfold laws_sameKids at h
 refine ofb Tryz.f88 false ?_
 refine Wp.sa ?_
 refine Wp.seq ?_
 refine Wp.sr ?_
 refine Runs.ln 1 188 Kid.enc p0 ?_
 refine Runs.ln 1 188 Kid.enc p1 ?_
 refine Runs.alln ?_
 refine Wp.c2 h (fun h=>?_) (fun h=>?_)
 ·refine Wp.sa ?_
  obtain rfl:=oi h
  exact Wp.ret RetB
 refine Wp.sk ?_
 refine Wp.j0 (laws_sameKids_j1 u=some r) ⟨[(4,.b false)],[],[]⟩ (fun h=>?_) ?_
 ·refine Wp.sa ?_
  obtain rfl:=oi h
  exact Wp.ret RetB
 refine Wp.sa ?_
 refine Wp.block ?_
 refine Wp.l3 (fun k_laws_sameKids_l2 p0 p1 x2=>laws_sameKids_l2 u k_laws_sameKids_l2 p0 p1 x2=some r) (fun p0 p1 x2=>⟨[(0,.t (.sl 5 (p0.map Kid.enc))),(1,.t (.sl 5 (p1.map Kid.enc))),(4,.b false),(5,.i x2)],[],[]⟩) (fun k_laws_sameKids_l2 p0 p1 x2 h=>?_) h (lo []) (fun _ _ _  h=>nomatch h)
 rw [laws_sameKids_l2] at h
 refine Wp.seq ?_
 refine Wp.sr ?_
 refine Runs.ln 2 188 Kid.enc p0 ?_
 refine Runs.alln ?_
 refine Wp.c2 h (fun h=>?_) (fun h=>?_)
 ·refine Wp.sk ?_
  refine Wp.seq ?_
  refine Wp.block ?_
  refine Wp.seq ?_
  refine Wp.regionA (pOf []) (rhoOf [(0,.frz),(1,.frz),(5,.frz),(17,.frz),(18,.frz),(19,.frz),(20,.frz),(21,.frz),(22,.frz),(23,.frz),(24,.frz)]) kr kr ?_
  refine Runs.ix 2 188 5 Kid.enc h (fun y4 h _=>?_)
  refine Runs.ix 3 188 5 Kid.enc h (fun y5 h _=>?_)
  refine Runs.alln ?_
  refine Wp.c2 h (fun h=>?_) (fun h=>?_)
  ·refine Wp.sa ?_
   obtain rfl:=oi h
   exact Wp.ret RetB
  refine Wp.skip ?_
  refine blkN ?_
  refine thenN ?_
  refine Wp.rg [] [] ?_
  refine Runs.alln ?_
  exact ⟨_,_,_,h,lo []⟩
 refine Wp.exit ?_
 refine thenE ?_
 refine thenE ?_
 refine blkE ?_
 refine thenN ?_
 exact ⟨h,lo []⟩
theorem laws_sameNode_ok {u p0 p1 r} (h:laws_sameNode u p0 p1=some r):CallOK Tryz.prog 16 [V.g (Node.enc p0),V.g (Node.enc p1)] (V.b r) []:=by
 unfold laws_sameNode at h
 refine ofb Tryz.f16 false ?_
 refine Wp.sa ?_
 refine Wp.sr ?_
 refine Runs.c2 6 10 h (fun h=>?_) (fun h=>?_)
 ·refine Runs.c2 7 17 h (fun h=>?_) (fun h=>?_)
  ·refine Runs.c2 7 24 h (fun h=>?_) (fun h=>?_)
   ·refine Runs.cl false 4 29 [.agg ((Manifest.enc p0.fMan).map .t),.agg ((Manifest.enc p1.fMan).map .t)] h (fun _=>laws_sameMan_ok) (fun r1 h=>?_)
    refine Runs.c2 2 31 h (fun h=>?_) (fun h=>?_)
    ·refine Runs.cl false 4 36 [.agg [.i p0.fBld.fHave,.s p0.fBld.fBuf],.agg [.i p1.fBld.fHave,.s p1.fBld.fBuf]] h (fun _=>laws_sameBuild_ok) (fun r2 h=>?_)
     refine Runs.c2 2 38 h (fun h=>?_) (fun h=>?_)
     ·refine Runs.c2 7 45 h (fun h=>?_) (fun h=>?_)
      ·refine Runs.cl false 4 50 [.t (.sl 5 (p0.fKids.map Kid.enc)),.t (.sl 5 (p1.fKids.map Kid.enc))] h (fun _=>laws_sameKids_ok) (fun r3 h=>?_)
       refine Runs.c2 2 52 h (fun h=>?_) (fun h=>?_)
       ·refine Runs.alln ?_
        refine Wp.fg ⟨[(4,.b (p0.fDrops == p1.fDrops))],[],[]⟩ ?_
        obtain rfl:=oi h
        exact Wp.ret RetB
       refine Runs.alln ?_
       obtain rfl:=oi h
       exact Wp.ret RetB
      refine Runs.alln ?_
      obtain rfl:=oi h
      exact Wp.ret RetB
     refine Runs.alln ?_
     obtain rfl:=oi h
     exact Wp.ret RetB
    refine Runs.alln ?_
    obtain rfl:=oi h
    exact Wp.ret RetB
   refine Runs.alln ?_
   obtain rfl:=oi h
   exact Wp.ret RetB
  refine Runs.alln ?_
  obtain rfl:=oi h
  exact Wp.ret RetB
 refine Runs.alln ?_
 obtain rfl:=oi h
 exact Wp.ret RetB
theorem impl_TreeOk_ok {u p0 r} (h:impl_TreeOk u p0=some r):CallOK Tryz.prog 89 [V.g (Tree.enc p0)] (V.b r) []:=by
 unfold impl_TreeOk at h
 refine ofb Tryz.f89 false ?_
 refine Wp.sa ?_
 refine Wp.j1 (fun p0=>impl_TreeOk_j1 u p0=some r) (fun p0=>⟨[(1,.obj 1 0),(2,.b false)],[(1,[.t (.sl 1 (p0.fUp.map (eInt .i64)))])],[]⟩) (fun p0 h=>?_) ?_
 ·refine Wp.sr ?_
  refine Runs.ln 2 3 (eInt .i64) p0.fUp ?_
  refine Runs.cl false 0 34 [.i ((p0.fUp.length:Int)),.i 1,.i 7] h (fun _=>impl_within_ok) (fun r8 h=>?_)
  refine Runs.alln ?_
  obtain rfl:=oi h
  exact Wp.ret RetB
 refine Wp.sr ?_
 refine Runs.ln 2 3 (eInt .i64) p0.fUp ?_
 refine Runs.alln ?_
 refine Wp.block ?_
 refine Wp.l2 (fun k_impl_TreeOk_l2 p0 x2=>impl_TreeOk_l2 u k_impl_TreeOk_l2 p0 x2=some r) (fun p0 x2=>⟨[(1,.obj 1 0),(2,.b false),(6,.t (.sl 1 (p0.fUp.map (eInt .i64)))),(7,.i ((p0.fUp.length:Int))),(8,.i x2)],[(1,[.t (.sl 1 (p0.fUp.map (eInt .i64)))])],[]⟩) (fun k_impl_TreeOk_l2 p0 x2 h=>?_) h (lo []) (fun _ _  h=>nomatch h)
 rw [impl_TreeOk_l2] at h
 refine Wp.sa ?_
 refine Wp.seq ?_
 refine Wp.c2 h (fun h=>?_) (fun h=>?_)
 ·refine Wp.sk ?_
  refine Wp.seq ?_
  refine Wp.block ?_
  refine Wp.sr ?_
  refine Runs.ix 1 3 1 (eInt .i64) h (fun y4 h _=>?_)
  refine Runs.alln ?_
  refine Wp.j3 (fun p0 x2 x7=>impl_TreeOk_j3 u (fun z0 z1=>impl_TreeOk_l2 u k_impl_TreeOk_l2 z0 z1) p0 x2 x7=some r) (fun p0 x2 x7=>⟨[(1,.obj 1 0),(2,.b false),(6,.t (.sl 1 (p0.fUp.map (eInt .i64)))),(7,.i ((p0.fUp.length:Int))),(8,.i x2),(29,.b x7)],[(1,[.t (.sl 1 (p0.fUp.map (eInt .i64)))])],[]⟩) (fun p0 x2 x7 h=>?_) ?_
  ·refine Wp.c2 h (fun h=>?_) (fun h=>?_)
   ·refine Wp.sa ?_
    obtain rfl:=oi h
    exact Wp.ret RetB
   refine Wp.skip ?_
   refine blkN ?_
   refine thenN ?_
   refine Wp.rg [] [] ?_
   refine Runs.alln ?_
   exact ⟨_,_,h,lo []⟩
  refine Wp.rg [] [] ?_
  refine Runs.c2 3 15 h (fun h=>?_) (fun h=>?_)
  ·refine Runs.c2 4 19 h (fun h=>?_) (fun h=>?_)
   ·refine Runs.alln ?_
    exact ⟨_,_,_,h,lo []⟩
   refine Runs.c2 3 22 h (fun h=>?_) (fun h=>?_)
   ·refine Runs.cl false 3 26 [.i y4,.i 0,.i (bSub .i64 x2 1)] h (fun _=>impl_within_ok) (fun r5 h=>?_)
    refine Runs.alln ?_
    exact ⟨_,_,_,h,lo []⟩
   refine Runs.alln ?_
   exact ⟨_,_,_,h,lo []⟩
  refine Runs.c2 7 22 h (fun h=>?_) (fun h=>?_)
  ·refine Runs.cl false 3 26 [.i y4,.i 0,.i (bSub .i64 x2 1)] h (fun _=>impl_within_ok) (fun r6 h=>?_)
   refine Runs.alln ?_
   exact ⟨_,_,_,h,lo []⟩
  refine Runs.alln ?_
  exact ⟨_,_,_,h,lo []⟩
 refine Wp.exit ?_
 refine thenE ?_
 refine thenE ?_
 refine blkE ?_
 refine thenN ?_
 exact ⟨_,h,lo []⟩
theorem impl_Tree__isNode_ok {u p0 p1 r} (h:impl_Tree__isNode u p0 p1=some r):CallOK Tryz.prog 90 [V.g (Tree.enc p0),V.i p1] (V.b r) []:=by
 unfold impl_Tree__isNode at h
 refine ofb Tryz.f90 false ?_
 refine Wp.sa ?_
 refine Wp.sr ?_
 refine Runs.ln 3 3 (eInt .i64) p0.fUp ?_
 refine Runs.cl false 1 10 [.i p1,.i 0,.i (bSub .i64 ((p0.fUp.length:Int)) 1)] h (fun _=>impl_within_ok) (fun r1 h=>?_)
 refine Runs.alln ?_
 obtain rfl:=oi h
 exact Wp.ret RetB
theorem impl_FreshNode_ok {u p0 r} (h:impl_FreshNode u p0=some r):CallOK Tryz.prog 91 [V.i p0] (V.w [0,0,0,0,0,0,177,0,5,0,188,0] (Node.enc r)) []:=by
 unfold impl_FreshNode at h
 refine ofb Tryz.f91 true ?_
 refine Wp.sa ?_
 refine Wp.sa ?_
 obtain rfl:=oi h
 exact Wp.ret RetB
theorem impl_RiseNode_ok {u p0 p1 r} (h:impl_RiseNode u p0 p1=some r):CallOK Tryz.prog 18 [V.g (Tree.enc p0),V.i p1] (V.w [0,0,0,0,0,0,177,0,5,0,188,0] (Node.enc r)) []:=by
 unfold impl_RiseNode at h
 refine ofb Tryz.f18 true ?_
 refine Wp.sa ?_
 refine Wp.seq ?_
 refine Wp.j3 (fun p1 x3 p0=>impl_RiseNode_j1 u p1 x3 p0=some r) (fun p1 x3 p0=>⟨[(1,.i p1),(2,.obj 2 0),(4,.obj 4 0),(17,.b x3)],[(2,[.t (.sl 1 (p0.fUp.map (eInt .i64)))]),(4,[.b false,.i 0,.i 0,.i 0,.i 0,.i 0,.nil,.i 0,.nil,.i 0,.nil,.i 0])],[]⟩) (fun p1 x3 p0 h=>?_) ?_
 ·refine Wp.c2 h (fun h=>?_) (fun h=>?_)
  ·refine Wp.sa ?_
   obtain rfl:=oi h
   exact Wp.ret RetB
  refine Wp.sk ?_
  refine Wp.sr ?_
  refine Runs.ix 3 3 1 (eInt .i64) h (fun y4 h _=>?_)
  refine Runs.cl false 1 24 [.i y4] h (fun _=>impl_FreshNode_ok) (fun r5 h=>?_)
  refine Runs.alln ?_
  obtain rfl:=oi h
  exact Wp.ret RetB
 refine Wp.rg [] [] ?_
 refine Runs.cl false 1 6 [.agg [.t (.sl 1 (p0.fUp.map (eInt .i64)))]] h (fun _=>impl_TreeOk_ok) (fun r1 h=>?_)
 refine Runs.c2 2 8 h (fun h=>?_) (fun h=>?_)
 ·refine Runs.alln ?_
  exact ⟨_,_,_,h,lo []⟩
 refine Runs.c2 4 12 h (fun h=>?_) (fun h=>?_)
 ·refine Runs.alln ?_
  exact ⟨_,_,_,h,lo []⟩
 refine Runs.cl false 2 15 [.agg [.t (.sl 1 (p0.fUp.map (eInt .i64)))],.i p1] h (fun _=>impl_Tree__isNode_ok) (fun r2 h=>?_)
 refine Runs.alln ?_
 exact ⟨_,_,_,h,lo []⟩
theorem spec_TreeOk_ok {u p0 r} (h:spec_TreeOk u p0=some r):CallOK Tryz.prog 92 [V.g (Tree.enc p0)] (V.b r) []:=by
 unfold spec_TreeOk at h
 refine ofb Tryz.f92 false ?_
 refine Wp.sa ?_
 refine Wp.seq ?_
 refine Wp.j2 (fun x3 p0=>spec_TreeOk_j1 u x3 p0=some r) (fun x3 p0=>⟨[(1,.obj 1 0),(2,.b false),(15,.b x3)],[(1,[.t (.sl 1 (p0.fUp.map (eInt .i64)))])],[]⟩) (fun x3 p0 h=>?_) ?_
 ·refine Wp.c2 h (fun h=>?_) (fun h=>?_)
  ·refine Wp.sa ?_
   obtain rfl:=oi h
   exact Wp.ret RetB
  refine Wp.sk ?_
  refine Wp.j0 (spec_TreeOk_j2 u=some r) ⟨[(2,.b false)],[],[]⟩ (fun h=>?_) ?_
  ·refine Wp.sa ?_
   obtain rfl:=oi h
   exact Wp.ret RetB
  refine Wp.sa ?_
  refine Wp.block ?_
  refine Wp.l2 (fun k_spec_TreeOk_l3 x5 p0=>spec_TreeOk_l3 u k_spec_TreeOk_l3 x5 p0=some r) (fun x5 p0=>⟨[(1,.obj 1 0),(2,.b false),(3,.i x5)],[(1,[.t (.sl 1 (p0.fUp.map (eInt .i64)))])],[]⟩) (fun k_spec_TreeOk_l3 x5 p0 h=>?_) h (lo []) (fun _ _  h=>nomatch h)
  rw [spec_TreeOk_l3] at h
  refine Wp.seq ?_
  refine Wp.sr ?_
  refine Runs.ln 3 3 (eInt .i64) p0.fUp ?_
  refine Runs.alln ?_
  refine Wp.c2 h (fun h=>?_) (fun h=>?_)
  ·refine Wp.sk ?_
   refine Wp.seq ?_
   refine Wp.block ?_
   refine Wp.sr ?_
   refine Runs.ix 3 3 1 (eInt .i64) h (fun y7 h _=>?_)
   refine Runs.cl false 3 30 [.i y7,.i 0,.i (bSub .i64 x5 1)] h (fun _=>spec_l1In_ok) (fun r8 h=>?_)
   refine Runs.alln ?_
   refine Wp.c2 h (fun h=>?_) (fun h=>?_)
   ·refine Wp.sa ?_
    obtain rfl:=oi h
    exact Wp.ret RetB
   refine Wp.skip ?_
   refine blkN ?_
   refine thenN ?_
   refine Wp.rg [] [] ?_
   refine Runs.alln ?_
   exact ⟨_,_,h,lo []⟩
  refine Wp.exit ?_
  refine thenE ?_
  refine thenE ?_
  refine blkE ?_
  refine thenN ?_
  exact ⟨h,lo []⟩
 refine Wp.rg [] [] ?_
 refine Runs.ln 2 3 (eInt .i64) p0.fUp ?_
 refine Runs.cl false 0 7 [.i ((p0.fUp.length:Int)),.i 1,.i 7] h (fun _=>spec_l1In_ok) (fun r1 h=>?_)
 refine Runs.c2 2 9 h (fun h=>?_) (fun h=>?_)
 ·refine Runs.alln ?_
  exact ⟨_,_,h,lo []⟩
 refine Runs.ix 2 3 1 (eInt .i64) h (fun y2 h _=>?_)
 refine Runs.alln ?_
 exact ⟨_,_,h,lo []⟩
theorem spec_RiseNode_ok {u p0 p1 r} (h:spec_RiseNode u p0 p1=some r):CallOK Tryz.prog 19 [V.g (Tree.enc p0),V.i p1] (V.w [0,0,0,0,0,0,177,0,5,0,188,0] (Node.enc r)) []:=by
 unfold spec_RiseNode at h
 refine ofb Tryz.f19 true ?_
 refine Wp.sa ?_
 refine Wp.seq ?_
 refine Wp.j3 (fun p1 x3 p0=>spec_RiseNode_j1 u p1 x3 p0=some r) (fun p1 x3 p0=>⟨[(1,.i p1),(2,.obj 2 0),(4,.obj 4 0),(16,.b x3)],[(2,[.t (.sl 1 (p0.fUp.map (eInt .i64)))]),(4,[.b false,.i 0,.i 0,.i 0,.i 0,.i 0,.nil,.i 0,.nil,.i 0,.nil,.i 0])],[]⟩) (fun p1 x3 p0 h=>?_) ?_
 ·refine Wp.c2 h (fun h=>?_) (fun h=>?_)
  ·refine Wp.sa ?_
   obtain rfl:=oi h
   exact Wp.ret RetB
  refine Wp.sk ?_
  refine Wp.sr ?_
  refine Runs.ix 3 3 1 (eInt .i64) h (fun y4 h _=>?_)
  refine Runs.cl false 1 23 [.i y4] h (fun _=>spec_FreshNode_ok) (fun r5 h=>?_)
  refine Runs.alln ?_
  obtain rfl:=oi h
  exact Wp.ret RetB
 refine Wp.rg [] [] ?_
 refine Runs.cl false 1 6 [.agg [.t (.sl 1 (p0.fUp.map (eInt .i64)))]] h (fun _=>spec_TreeOk_ok) (fun r1 h=>?_)
 refine Runs.c2 2 8 h (fun h=>?_) (fun h=>?_)
 ·refine Runs.alln ?_
  exact ⟨_,_,_,h,lo []⟩
 refine Runs.ln 3 3 (eInt .i64) p0.fUp ?_
 refine Runs.cl false 1 14 [.i p1,.i 1,.i (bSub .i64 ((p0.fUp.length:Int)) 1)] h (fun _=>spec_l1In_ok) (fun r2 h=>?_)
 refine Runs.alln ?_
 exact ⟨_,_,_,h,lo []⟩
theorem impl_copyPut_ok {u p0 r} (h:impl_copyPut u p0=some r):CallOK Tryz.prog 186 [V.g (Put.enc p0)] (V.w [0,0,5,0,0,0] (Put.enc r)) []:=by
 unfold impl_copyPut at h
 refine ofb Tryz.f186 true ?_
 refine Wp.sa ?_
 refine Wp.cl false 2 5 [.s p0.fB] h (fun _=>impl_cloned_ok) (fun r1 h=>?_)
 refine Wp.sa ?_
 obtain rfl:=oi h
 exact Wp.ret RetB
theorem impl_copyDisk_ok {u p0 r} (h:impl_copyDisk u p0=some r):CallOK Tryz.prog 110 [V.g (Disk.enc p0)] (V.w [5,5,0,0,0,124] (Disk.enc r)) []:=by
 unfold impl_copyDisk at h
 refine ofb Tryz.f110 true ?_
 refine Wp.sa ?_
 refine Wp.seq ?_
 refine Wp.regionA (pOf []) (rhoOf [(1,.obj 1),(3,.obj 3),(6,.obj 1),(7,.frz),(8,.own 8),(9,.obj 1),(10,.frz),(11,.own 11),(12,.obj 1),(13,.frz)]) kr kr ?_
 refine Runs.cl false 2 8 [.s p0.fA] h (fun _=>impl_cloned_ok) (fun r1 h=>?_)
 refine Runs.cl false 2 11 [.s p0.fB] h (fun _=>impl_cloned_ok) (fun r2 h=>?_)
 refine Runs.alln ?_
 refine Wp.j4 (fun r1 r2 p0 x11=>impl_copyDisk_j1 u r1 r2 p0 x11=some r) (fun r1 r2 p0 x11=>⟨[(2,.obj 2 0),(3,.obj 3 0)],[(2,[.nil,.nil,.i 0,.i 0,.i 0,.nil]),(3,[.own 197120,.own 197121,.i p0.fR.fGen,.i p0.fR.fSlot,.i p0.fR.fLen,.own 197125])],[(197120,.live 5 1 (r1.map (eInt .u8))),(197121,.live 5 1 (r2.map (eInt .u8))),(197125,.live 124 6 (x11.map Put.enc))]⟩) (fun r1 r2 p0 x11 h=>?_) ?_
 ·refine Wp.sa ?_
  obtain rfl:=oi h
  exact Wp.ret RetB
 refine Wp.sr ?_
 refine Runs.ln 2 124 Put.enc p0.fP ?_
 refine Runs.alln ?_
 refine Wp.block ?_
 refine Wp.l5 (fun k_impl_copyDisk_l2 p0 x5 r1 r2 x6=>impl_copyDisk_l2 u k_impl_copyDisk_l2 p0 x5 r1 r2 x6=some r) (fun p0 x5 r1 r2 x6=>⟨[(2,.obj 2 0),(3,.obj 3 0),(16,.t (.sl 6 (p0.fP.map Put.enc))),(17,.i ((p0.fP.length:Int))),(18,.i x5)],[(2,[.nil,.nil,.i 0,.i 0,.i 0,.nil]),(3,[.own 197120,.own 197121,.i p0.fR.fGen,.i p0.fR.fSlot,.i p0.fR.fLen,.own 197125])],[(197120,.live 5 1 (r1.map (eInt .u8))),(197121,.live 5 1 (r2.map (eInt .u8))),(197125,.live 124 6 (x6.map Put.enc))]⟩) (fun k_impl_copyDisk_l2 p0 x5 r1 r2 x6 h=>?_) h (Le.trans (Le.emptyO 3 5 197125 124 6 [.own 524288,.own 720896,.i p0.fR.fGen,.i p0.fR.fSlot,.i p0.fR.fLen,.nil] kr kr kr) (lo [(197120,524288),(197121,720896)])) (fun _ _ _ _ _  h=>nomatch h)
 rw [impl_copyDisk_l2] at h
 refine Wp.sa ?_
 refine Wp.seq ?_
 refine Wp.c2 h (fun h=>?_) (fun h=>?_)
 ·refine Wp.sk ?_
  refine Wp.seq ?_
  refine Wp.block ?_
  refine Wp.sr ?_
  refine Runs.ix 0 124 6 Put.enc h (fun y9 h _=>?_)
  refine Runs.alln ?_
  refine Wp.regionA (pOf []) (rhoOf [(3,.obj 3),(5,.obj 5),(22,.obj 3),(23,.own 3),(24,.frz),(25,.own 25),(26,.own 26),(27,.own 27),(28,.obj 3)]) kr kr ?_
  refine Runs.cl false 3 25 [.agg ((Put.enc y9).map .t)] h (fun _=>impl_copyPut_ok) (fun r10 h=>?_)
  refine Runs.ap (ys:=[r10]) 1 27 124 6 197125 Put.enc h (fun h=>?_)
  refine Runs.all kr ?_
  refine blkN ?_
  refine thenN ?_
  refine Wp.rg [] [] ?_
  refine Runs.alln ?_
  exact ⟨_,_,_,_,_,h,lo [(197125,1769472)]⟩
 refine Wp.exit ?_
 refine thenE ?_
 refine thenE ?_
 refine blkE ?_
 refine thenN ?_
 exact ⟨_,_,_,_,h,lo []⟩
theorem impl_isGen_ok {u p0 r} (h:impl_isGen u p0=some r):CallOK Tryz.prog 105 [V.i p0] (V.b r) []:=by
 unfold impl_isGen at h
 refine ofb Tryz.f105 false ?_
 refine Wp.sa ?_
 refine Wp.cl false 1 4 [.i p0,.i 0,.i 1000000] h (fun _=>impl_within_ok) (fun r1 h=>?_)
 obtain rfl:=oi h
 exact Wp.ret RetB
theorem impl_isSlot_ok {u p0 r} (h:impl_isSlot u p0=some r):CallOK Tryz.prog 312 [V.i p0] (V.b r) []:=by
 unfold impl_isSlot at h
 refine ofb Tryz.f312 false ?_
 refine Wp.sa ?_
 refine Wp.sr ?_
 refine Runs.c2 3 5 h (fun h=>?_) (fun h=>?_)
 ·refine Runs.alln ?_
  obtain rfl:=oi h
  exact Wp.ret RetB
 refine Runs.alln ?_
 obtain rfl:=oi h
 exact Wp.ret RetB
theorem impl_isRecord_ok {u p0 r} (h:impl_isRecord u p0=some r):CallOK Tryz.prog 252 [V.g (Record.enc p0)] (V.b r) []:=by
 unfold impl_isRecord at h
 refine ofb Tryz.f252 false ?_
 refine Wp.sa ?_
 refine Wp.sr ?_
 refine Runs.cl false 2 5 [.i p0.fGen] h (fun _=>impl_isGen_ok) (fun r1 h=>?_)
 refine Runs.c2 1 6 h (fun h=>?_) (fun h=>?_)
 ·refine Runs.cl false 2 9 [.i p0.fSlot] h (fun _=>impl_isSlot_ok) (fun r2 h=>?_)
  refine Runs.c2 2 11 h (fun h=>?_) (fun h=>?_)
  ·refine Runs.cl false 2 14 [.i p0.fLen,.i 0,.i 240] h (fun _=>impl_within_ok) (fun r3 h=>?_)
   refine Runs.alln ?_
   obtain rfl:=oi h
   exact Wp.ret RetB
  refine Runs.alln ?_
  obtain rfl:=oi h
  exact Wp.ret RetB
 refine Runs.alln ?_
 obtain rfl:=oi h
 exact Wp.ret RetB
theorem impl_Disk__slot__frz0_ok {u p0 p1 r} (h:impl_Disk__slot__frz0 u p0 p1=some r):CallOK Tryz.prog 176 [.fptr [.sl 1 (p0.fA.map (eInt .u8)),.sl 1 (p0.fB.map (eInt .u8)),.int .i64 p0.fR.fGen,.int .i64 p0.fR.fSlot,.int .i64 p0.fR.fLen,.sl 6 (p0.fP.map Put.enc)],V.i p1] (.fptr [.sl 1 (r.map (eInt .u8))]) []:=by
 unfold impl_Disk__slot__frz0 at h
 refine ofb Tryz.f176 false ?_
 refine Wp.sa ?_
 refine Wp.seq ?_
 refine Wp.sa ?_
 refine Wp.c2 h (fun h=>?_) (fun h=>?_)
 ·refine Wp.sa ?_
  refine Wp.ret ?_
  refine thenR ?_
  obtain rfl:=Option.some.inj h
  exact RetK [.fadr (Disk.enc p0)] (.fptr ([.sl 1 (p0.fA.map (eInt .u8))]++[.sl 1 (p0.fB.map (eInt .u8)),.int .i64 p0.fR.fGen,.int .i64 p0.fR.fSlot,.int .i64 p0.fR.fLen,.sl 6 (p0.fP.map Put.enc)])) [] kr kr (.cut _ _) .nil
 refine Wp.sk ?_
 refine Wp.sa ?_
 refine Wp.ret ?_
 obtain rfl:=Option.some.inj h
 exact RetK [.fadr [.sl 1 (p0.fB.map (eInt .u8)),.int .i64 p0.fR.fGen,.int .i64 p0.fR.fSlot,.int .i64 p0.fR.fLen,.sl 6 (p0.fP.map Put.enc)]] (.fptr ([.sl 1 (p0.fB.map (eInt .u8))]++[.int .i64 p0.fR.fGen,.int .i64 p0.fR.fSlot,.int .i64 p0.fR.fLen,.sl 6 (p0.fP.map Put.enc)])) [] kr kr (.cut _ _) .nil
theorem impl_isPut_ok {u p0 r} (h:impl_isPut u p0=some r):CallOK Tryz.prog 255 [V.g (Put.enc p0)] (V.b r) []:=by
 unfold impl_isPut at h
 refine ofb Tryz.f255 false ?_
 refine Wp.sa ?_
 refine Wp.seq ?_
 refine Wp.sa ?_
 refine Wp.c2 h (fun h=>?_) (fun h=>?_)
 ·refine Wp.sr ?_
  refine Runs.c2 4 9 h (fun h=>?_) (fun h=>?_)
  ·refine Runs.ln 2 5 (eInt .u8) p0.fB ?_
   refine Runs.c2 3 15 h (fun h=>?_) (fun h=>?_)
   ·refine Runs.cl false 2 18 [.agg ((Record.enc p0.fR).map .t)] h (fun _=>impl_isRecord_ok) (fun r1 h=>?_)
    refine Runs.alln ?_
    obtain rfl:=oi h
    exact Wp.ret RetB
   refine Runs.alln ?_
   obtain rfl:=oi h
   exact Wp.ret RetB
  refine Runs.alln ?_
  obtain rfl:=oi h
  exact Wp.ret RetB
 refine Wp.sk ?_
 refine Wp.sr ?_
 refine Runs.cl false 2 22 [.i p0.fWhat] h (fun _=>impl_isSlot_ok) (fun r2 h=>?_)
 refine Runs.c2 1 23 h (fun h=>?_) (fun h=>?_)
 ·refine Runs.c2 6 29 h (fun h=>?_) (fun h=>?_)
  ·refine Runs.ln 4 5 (eInt .u8) p0.fB ?_
   refine Runs.cl false 1 36 [.i p0.fAt,.i 0,.i (bSub .i64 240 ((p0.fB.length:Int)))] h (fun _=>impl_within_ok) (fun r3 h=>?_)
   refine Runs.alln ?_
   obtain rfl:=oi h
   exact Wp.ret RetB
  refine Runs.alln ?_
  obtain rfl:=oi h
  exact Wp.ret RetB
 refine Runs.alln ?_
 obtain rfl:=oi h
 exact Wp.ret RetB
theorem impl_DiskOk_1_ok {u p0 r} (h:impl_DiskOk_1 u p0=some r):CallOK Tryz.prog 254 [V.g (Put.enc p0)] (V.b r) []:=by
 unfold impl_DiskOk_1 at h
 refine ofb Tryz.f254 false ?_
 refine Wp.sa ?_
 refine Wp.cl false 1 4 [.agg ((Put.enc p0).map .t)] h (fun _=>impl_isPut_ok) (fun r1 h=>?_)
 obtain rfl:=oi h
 exact Wp.ret RetB
theorem slices_IndexFunc___impl_Put_impl_Put__impl_DiskOk_1_ok {u p0 r} (h:slices_IndexFunc___impl_Put_impl_Put__impl_DiskOk_1 u p0=some r):CallOK Tryz.prog 313 [.one (.t (.sl 6 (p0.map Put.enc))),.clo 254 []] (V.i r) []:=by
 unfold slices_IndexFunc___impl_Put_impl_Put__impl_DiskOk_1 at h
 refine ofb Tryz.f313 false ?_
 refine Wp.sa ?_
 refine Wp.j0 (slices_IndexFunc___impl_Put_impl_Put__impl_DiskOk_1_j1 u=some r) ⟨[(4,.i 0)],[],[]⟩ (fun h=>?_) ?_
 ·refine Wp.sa ?_
  obtain rfl:=oi h
  exact Wp.ret RetB
 refine Wp.sr ?_
 refine Runs.ln 1 124 Put.enc p0 ?_
 refine Runs.alln ?_
 refine Wp.block ?_
 refine Wp.l2 (fun k_slices_IndexFunc___impl_Put_impl_Put__impl_DiskOk_1_l2 p0 x2=>slices_IndexFunc___impl_Put_impl_Put__impl_DiskOk_1_l2 u k_slices_IndexFunc___impl_Put_impl_Put__impl_DiskOk_1_l2 p0 x2=some r) (fun p0 x2=>⟨[(0,.t (.sl 6 (p0.map Put.enc))),(1,.clo 254 []),(4,.i 0),(7,.i ((p0.length:Int))),(8,.i x2)],[],[]⟩) (fun k_slices_IndexFunc___impl_Put_impl_Put__impl_DiskOk_1_l2 p0 x2 h=>?_) h (lo []) (fun _ _  h=>nomatch h)
 rw [slices_IndexFunc___impl_Put_impl_Put__impl_DiskOk_1_l2] at h
 refine Wp.sa ?_
 refine Wp.seq ?_
 refine Wp.c2 h (fun h=>?_) (fun h=>?_)
 ·refine Wp.sk ?_
  refine Wp.seq ?_
  refine Wp.block ?_
  refine Wp.sa ?_
  refine Wp.sr ?_
  refine Runs.ix 3 124 6 Put.enc h (fun y4 h _=>?_)
  refine Runs.cl false 1 16 [.agg ((Put.enc y4).map .t)] h (fun _=>impl_DiskOk_1_ok) (fun r5 h=>?_)
  refine Runs.alln ?_
  refine Wp.c2 h (fun h=>?_) (fun h=>?_)
  ·refine Wp.sa ?_
   obtain rfl:=oi h
   exact Wp.ret RetB
  refine Wp.skip ?_
  refine blkN ?_
  refine thenN ?_
  refine Wp.rg [] [] ?_
  refine Runs.alln ?_
  exact ⟨_,_,h,lo []⟩
 refine Wp.exit ?_
 refine thenE ?_
 refine thenE ?_
 refine blkE ?_
 refine thenN ?_
 exact ⟨h,lo []⟩
theorem slices_ContainsFunc___impl_Put_impl_Put__impl_DiskOk_1_ok {u p0 r} (h:slices_ContainsFunc___impl_Put_impl_Put__impl_DiskOk_1 u p0=some r):CallOK Tryz.prog 253 [.one (.t (.sl 6 (p0.map Put.enc))),.clo 254 []] (V.b r) []:=by
 unfold slices_ContainsFunc___impl_Put_impl_Put__impl_DiskOk_1 at h
 refine ofb Tryz.f253 false ?_
 refine Wp.sa ?_
 refine Wp.cl false 2 7 [.t (.sl 6 (p0.map Put.enc)),.clo 254 []] h (fun _=>slices_IndexFunc___impl_Put_impl_Put__impl_DiskOk_1_ok) (fun r1 h=>?_)
 obtain rfl:=oi h
 exact Wp.ret RetB
theorem impl_DiskOk_ok {u p0 r} (h:impl_DiskOk u p0=some r):CallOK Tryz.prog 175 [V.g (Disk.enc p0)] (V.b r) []:=by
 unfold impl_DiskOk at h
 refine ofb Tryz.f175 false ?_
 refine Wp.sa ?_
 refine Wp.seq ?_
 refine Wp.j2 (fun p0 x3=>impl_DiskOk_j1 u p0 x3=some r) (fun p0 x3=>⟨[(1,.fadr (Disk.enc p0)),(2,.b false),(31,.b x3)],[],[]⟩) (fun p0 x3 h=>?_) ?_
 ·refine Wp.c2 h (fun h=>?_) (fun h=>?_)
  ·refine Wp.sa ?_
   obtain rfl:=oi h
   exact Wp.ret RetB
  refine Wp.sk ?_
  refine Wp.sr ?_
  refine Runs.ln 2 124 Put.enc p0.fP ?_
  refine Runs.c2 2 36 h (fun h=>?_) (fun h=>?_)
  ·refine Runs.cl false 2 39 [.t (.sl 6 (p0.fP.map Put.enc)),.clo 254 []] h (fun _=>slices_ContainsFunc___impl_Put_impl_Put__impl_DiskOk_1_ok) (fun r4 h=>?_)
   refine Runs.alln ?_
   obtain rfl:=oi h
   exact Wp.ret RetB
  refine Runs.alln ?_
  obtain rfl:=oi h
  exact Wp.ret RetB
 refine Wp.le (Le.frzOb 1 (Disk.enc p0) kr kr) ?_
 refine Wp.regionA (pOf []) (rhoOf [(1,.frz),(3,.frz),(4,.frz),(5,.frz),(6,.frz),(7,.frz),(8,.frz),(9,.frz),(10,.frz),(12,.frz),(13,.frz),(14,.frz),(15,.frz),(16,.frz),(18,.frz),(19,.frz),(20,.frz),(21,.frz),(22,.frz),(23,.frz),(24,.frz),(25,.frz),(26,.frz),(27,.frz),(28,.frz),(29,.frz)]) kr kr ?_
 refine Runs.ln 2 5 (eInt .u8) p0.fA ?_
 refine Runs.c2 2 7 h (fun h=>?_) (fun h=>?_)
 ·refine Runs.alln ?_
  exact ⟨_,_,h,lo []⟩
 refine Runs.ln 2 5 (eInt .u8) p0.fB ?_
 refine Runs.c2 3 13 h (fun h=>?_) (fun h=>?_)
 ·refine Runs.alln ?_
  exact ⟨_,_,h,lo []⟩
 refine Runs.cl false 2 16 [.agg ((Record.enc p0.fR).map .t)] h (fun _=>impl_isRecord_ok) (fun r1 h=>?_)
 refine Runs.c2 3 19 h (fun h=>?_) (fun h=>?_)
 ·refine Runs.alln ?_
  exact ⟨_,_,h,lo []⟩
 refine Runs.cl false 6 26 [.fadr (Disk.enc p0),.i p0.fR.fSlot] h (fun _=>impl_Disk__slot__frz0_ok) (fun r2 h=>?_)
 refine Runs.ln 2 5 (eInt .u8) r2 ?_
 refine Runs.alln ?_
 exact ⟨_,_,h,lo []⟩
theorem impl_SetOk_ok {u p0 r} (h:impl_SetOk u p0=some r):CallOK Tryz.prog 247 [V.i p0] (V.b r) []:=by
 unfold impl_SetOk at h
 refine ofb Tryz.f247 false ?_
 refine Wp.sa ?_
 refine Wp.cl false 1 4 [.i p0,.i 0,.i 1099511627775] h (fun _=>impl_within_ok) (fun r1 h=>?_)
 obtain rfl:=oi h
 exact Wp.ret RetB
theorem impl_isPlace_ok {u p0 r} (h:impl_isPlace u p0=some r):CallOK Tryz.prog 248 [V.i p0] (V.b r) []:=by
 unfold impl_isPlace at h
 refine ofb Tryz.f248 false ?_
 refine Wp.sa ?_
 refine Wp.cl false 1 4 [.i p0,.i 0,.i 39] h (fun _=>impl_within_ok) (fun r1 h=>?_)
 obtain rfl:=oi h
 exact Wp.ret RetB
theorem impl_InSet_ok {u p0 p1 r} (h:impl_InSet u p0 p1=some r):CallOK Tryz.prog 168 [V.i p0,V.i p1] (V.b r) []:=by
 unfold impl_InSet at h
 refine ofb Tryz.f168 false ?_
 refine Wp.sa ?_
 refine Wp.sr ?_
 refine Runs.cl false 1 6 [.i p0] h (fun _=>impl_SetOk_ok) (fun r1 h=>?_)
 refine Runs.c2 1 7 h (fun h=>?_) (fun h=>?_)
 ·refine Runs.cl false 1 9 [.i p1] h (fun _=>impl_isPlace_ok) (fun r2 h=>?_)
  refine Runs.c2 2 11 h (fun h=>?_) (fun h=>?_)
  ·refine Runs.batch 2 kr ?_
   obtain ⟨_,e_3,h⟩:=bind_some h
   refine Runs.num .shr (.int .i64 p0) (.int .i64 p1) (.int .i64 (bShr .i64 p0 p1)) rfl kr kr kr kr (bin_shr _ _ _ _ _ (chk_some e_3)) ?_
   refine Runs.alln ?_
   obtain rfl:=oi h
   exact Wp.ret RetB
  refine Runs.alln ?_
  obtain rfl:=oi h
  exact Wp.ret RetB
 refine Runs.alln ?_
 obtain rfl:=oi h
 exact Wp.ret RetB
theorem impl_Fall_1_ok {u p0 q0 r} (h:impl_Fall_1 u p0 q0=some r):CallOK Tryz.prog 167 [V.i p0,.fptr [.int .i64 q0]] (V.b r) []:=by
 unfold impl_Fall_1 at h
 refine ofb Tryz.f167 false ?_
 refine Wp.sa ?_
 refine Wp.cl false 2 6 [.i q0,.i p0] h (fun _=>impl_InSet_ok) (fun r1 h=>?_)
 obtain rfl:=oi h
 exact Wp.ret RetB
theorem impl_Disk__slot__own_p0_fA_p0_fB_p0_fP_ok {u p0 p1 r} (h:impl_Disk__slot u p0 p1=some r):IntoOK Tryz.prog 176 [.ptr (cw [5,5,0,0,0,124] (Disk.enc p0)),V.i p1] r.1 [cw [5,5,0,0,0,124] (Disk.enc r.2)]:=by
 unfold impl_Disk__slot at h
 refine IntoOK.of_bodyK (fn:=Tryz.f176) [.obj 900 0,.i p1] kr rfl kr kr kr kr kr rfl ?_
 refine Wp.sa ?_
 refine Wp.seq ?_
 refine Wp.sa ?_
 refine Wp.c2 h (fun h=>?_) (fun h=>?_)
 ·refine Wp.sa ?_
  refine Wp.ret ?_
  refine thenR ?_
  obtain rfl:=Option.some.inj h
  exact RetIK [[.ow 5 1 (p0.fA.map (eInt .u8)),.ow 5 1 (p0.fB.map (eInt .u8)),.i p0.fR.fGen,.i p0.fR.fSlot,.i p0.fR.fLen,.ow 124 6 (p0.fP.map Put.enc)]] kr kr (.cons ((.cons (.refl _) (.cons (.refl _) (.cons (.refl _) (.cons (.refl _) (.cons (.refl _) (.cons (.refl _) .nil))))))) .nil)
 refine Wp.sk ?_
 refine Wp.sa ?_
 refine Wp.ret ?_
 obtain rfl:=Option.some.inj h
 exact RetIK [[.ow 5 1 (p0.fA.map (eInt .u8)),.ow 5 1 (p0.fB.map (eInt .u8)),.i p0.fR.fGen,.i p0.fR.fSlot,.i p0.fR.fLen,.ow 124 6 (p0.fP.map Put.enc)]] kr kr (.cons ((.cons (.refl _) (.cons (.refl _) (.cons (.refl _) (.cons (.refl _) (.cons (.refl _) (.cons (.refl _) .nil))))))) .nil)
theorem impl_Disk__perform__own_p0_fP_ok {u p0 p1 r} (h:impl_Disk__perform u p0 p1=some r):CallOK Tryz.prog 246 [.ptr (cw [5,5,0,0,0,124] (Disk.enc p0)),V.g (Put.enc p1)] (.tup []) [cw [5,5,0,0,0,124] (Disk.enc r)]:=by
 unfold impl_Disk__perform at h
 refine ofb Tryz.f246 false ?_
 refine Wp.sa ?_
 refine Wp.seq ?_
 refine Wp.sa ?_
 refine Wp.c2 h (fun h=>?_) (fun h=>?_)
 ·refine Wp.sa ?_
  obtain rfl:=oi h
  exact Wp.ret RetB
 refine Wp.sk ?_
 refine Wp.sr ?_
 refine Runs.batch 3 kr ?_
 obtain ⟨r1,e_r1,h⟩:=bind_some h
 rcases tf (Nat.beq r1.1 0) with hc_r1 | hc_r1
 ·have h:=cond_t h hc_r1
  refine Runs.callIK true 16 176 [] [.obj 900 0,.i p1.fWhat] [.ptr [.ow 5 1 (p0.fA.map (eInt .u8)),.ow 5 1 (p0.fB.map (eInt .u8)),.i p0.fR.fGen,.i p0.fR.fSlot,.i p0.fR.fLen,.ow 124 6 (p0.fP.map Put.enc)],.one (.i p1.fWhat)] 900 0 ([cw [5,5,0,0,0,124] (Disk.enc r1.2)]) rfl rfl kr kr kr kr kr (IntoOK.to hc_r1 (impl_Disk__slot__own_p0_fA_p0_fB_p0_fP_ok e_r1)) kr kr ?_
  refine Runs.alln ?_
  refine Wp.j3 (fun p1 x9 r1=>impl_Disk__perform_j3 u p1 x9 r1=some r) (fun p1 x9 r1=>⟨[(3,.obj 3 0),(4,.obj 900 0)],[(3,((Put.enc p1).map .t)),(900,[.own 58982912,.own 58982913,.i r1.2.fR.fGen,.i r1.2.fR.fSlot,.i r1.2.fR.fLen,.own 58982917])],[(58982912,.live 5 1 (x9.map (eInt .u8))),(58982913,.live 5 1 (r1.2.fB.map (eInt .u8))),(58982917,.live 124 6 (r1.2.fP.map Put.enc))]⟩) (fun p1 x9 r1 h=>?_) ?_
  ·refine Wp.regionA (pOf []) (rhoOf [(3,.obj 3),(4,.obj 900),(35,.obj 900),(36,.obj 900),(37,.own 900),(38,.obj 3),(39,.frz),(40,.win 900),(41,.obj 3),(42,.frz)]) kr kr ?_
   refine Runs.batch 5 kr ?_
   obtain ⟨_,e_10,h⟩:=bind_some h
   refine Runs.subO (e:=5) (e':=5) (alo:=(some (.i p1.fAt))) (eInt .u8) x9 58982912 1 p1.fAt rfl kr kr kr kr kr kr kr kr kr (chk_some e_10) ?_
   refine Runs.batch 2 kr ?_
   refine Runs.copyO (y:=.s p1.fB) (e:=5) (e':=5) (eInt .u8) x9 p1.fB 58982912 (Int.toNat p1.fAt) 1 rfl rfl rfl kr kr kr kr kr (.inl rfl) kr kr kr (sub_le (chk_some e_10)) ?_
   refine Runs.all kr ?_
   obtain rfl:=oi h
   exact RetBn
  refine Wp.block ?_
  refine Wp.l3 (fun k_impl_Disk__perform_l4 p1 x7 r1=>impl_Disk__perform_l4 u k_impl_Disk__perform_l4 p1 x7 r1=some r) (fun p1 x7 r1=>⟨[(3,.obj 3 0),(4,.obj 900 0)],[(3,((Put.enc p1).map .t)),(900,[.own 58982912,.own 58982913,.i r1.2.fR.fGen,.i r1.2.fR.fSlot,.i r1.2.fR.fLen,.own 58982917])],[(58982912,.live 5 1 (x7.map (eInt .u8))),(58982913,.live 5 1 (r1.2.fB.map (eInt .u8))),(58982917,.live 124 6 (r1.2.fP.map Put.enc))]⟩) (fun k_impl_Disk__perform_l4 p1 x7 r1 h=>?_) h (lo [(58982912,1107200),(58982913,1107201),(58982917,1107205)]) (fun _ _ _  h=>nomatch h)
  rw [impl_Disk__perform_l4] at h
  refine Wp.seq ?_
  refine Wp.seq ?_
  refine Wp.regionA (pOf []) (rhoOf [(3,.obj 3),(4,.obj 900),(17,.obj 900),(18,.obj 900),(19,.own 900),(20,.frz),(21,.obj 3),(22,.frz),(23,.obj 3),(24,.frz),(25,.frz),(26,.frz)]) kr kr ?_
  refine Runs.ln 3 5 (eInt .u8) x7 ?_
  refine Runs.ln 4 5 (eInt .u8) p1.fB ?_
  refine Runs.alln ?_
  refine Wp.c2 h (fun h=>?_) (fun h=>?_)
  ·refine Wp.sk ?_
   refine Wp.block ?_
   refine Wp.rg [] [] ?_
   refine Runs.ap 5 33 5 1 58982912 (eInt .u8) h (fun h=>?_)
   refine Runs.all kr ?_
   refine blkN ?_
   refine thenN ?_
   exact ⟨_,_,_,h,lo [(58982912,2162688)]⟩
  refine Wp.exit ?_
  refine thenE ?_
  refine thenE ?_
  refine blkE ?_
  refine thenN ?_
  exact ⟨_,_,_,h,lo []⟩
 have h:=cond_f h hc_r1
 rcases tf (Nat.beq r1.1 1) with hc_r1 | hc_r1
 ·have h:=cond_t h hc_r1
  refine Runs.callIK true 16 176 [] [.obj 900 0,.i p1.fWhat] [.ptr [.ow 5 1 (p0.fA.map (eInt .u8)),.ow 5 1 (p0.fB.map (eInt .u8)),.i p0.fR.fGen,.i p0.fR.fSlot,.i p0.fR.fLen,.ow 124 6 (p0.fP.map Put.enc)],.one (.i p1.fWhat)] 900 1 ([cw [5,5,0,0,0,124] (Disk.enc r1.2)]) rfl rfl kr kr kr kr kr (IntoOK.to hc_r1 (impl_Disk__slot__own_p0_fA_p0_fB_p0_fP_ok e_r1)) kr kr ?_
  refine Runs.alln ?_
  refine Wp.j3 (fun p1 r1 x5=>impl_Disk__perform_j1 u p1 r1 x5=some r) (fun p1 r1 x5=>⟨[(3,.obj 3 0),(4,.obj 900 1)],[(3,((Put.enc p1).map .t)),(900,[.own 58982912,.own 58982913,.i r1.2.fR.fGen,.i r1.2.fR.fSlot,.i r1.2.fR.fLen,.own 58982917])],[(58982912,.live 5 1 (r1.2.fA.map (eInt .u8))),(58982913,.live 5 1 (x5.map (eInt .u8))),(58982917,.live 124 6 (r1.2.fP.map Put.enc))]⟩) (fun p1 r1 x5 h=>?_) ?_
  ·refine Wp.regionA (pOf []) (rhoOf [(3,.obj 3),(4,.obj 900),(35,.obj 900),(36,.obj 900),(37,.own 900),(38,.obj 3),(39,.frz),(40,.win 900),(41,.obj 3),(42,.frz)]) kr kr ?_
   refine Runs.batch 5 kr ?_
   obtain ⟨_,e_6,h⟩:=bind_some h
   refine Runs.subO (e:=5) (e':=5) (alo:=(some (.i p1.fAt))) (eInt .u8) x5 58982913 1 p1.fAt rfl kr kr kr kr kr kr kr kr kr (chk_some e_6) ?_
   refine Runs.batch 2 kr ?_
   refine Runs.copyO (y:=.s p1.fB) (e:=5) (e':=5) (eInt .u8) x5 p1.fB 58982913 (Int.toNat p1.fAt) 1 rfl rfl rfl kr kr kr kr kr (.inl rfl) kr kr kr (sub_le (chk_some e_6)) ?_
   refine Runs.all kr ?_
   obtain rfl:=oi h
   exact RetBn
  refine Wp.block ?_
  refine Wp.l3 (fun k_impl_Disk__perform_l2 p1 r1 x3=>impl_Disk__perform_l2 u k_impl_Disk__perform_l2 p1 r1 x3=some r) (fun p1 r1 x3=>⟨[(3,.obj 3 0),(4,.obj 900 1)],[(3,((Put.enc p1).map .t)),(900,[.own 58982912,.own 58982913,.i r1.2.fR.fGen,.i r1.2.fR.fSlot,.i r1.2.fR.fLen,.own 58982917])],[(58982912,.live 5 1 (r1.2.fA.map (eInt .u8))),(58982913,.live 5 1 (x3.map (eInt .u8))),(58982917,.live 124 6 (r1.2.fP.map Put.enc))]⟩) (fun k_impl_Disk__perform_l2 p1 r1 x3 h=>?_) h (lo [(58982912,1107200),(58982913,1107201),(58982917,1107205)]) (fun _ _ _  h=>nomatch h)
  rw [impl_Disk__perform_l2] at h
  refine Wp.seq ?_
  refine Wp.seq ?_
  refine Wp.regionA (pOf []) (rhoOf [(3,.obj 3),(4,.obj 900),(17,.obj 900),(18,.obj 900),(19,.own 900),(20,.frz),(21,.obj 3),(22,.frz),(23,.obj 3),(24,.frz),(25,.frz),(26,.frz)]) kr kr ?_
  refine Runs.ln 3 5 (eInt .u8) x3 ?_
  refine Runs.ln 4 5 (eInt .u8) p1.fB ?_
  refine Runs.alln ?_
  refine Wp.c2 h (fun h=>?_) (fun h=>?_)
  ·refine Wp.sk ?_
   refine Wp.block ?_
   refine Wp.rg [] [] ?_
   refine Runs.ap 5 33 5 1 58982913 (eInt .u8) h (fun h=>?_)
   refine Runs.all kr ?_
   refine blkN ?_
   refine thenN ?_
   exact ⟨_,_,_,h,lo [(58982913,2162688)]⟩
  refine Wp.exit ?_
  refine thenE ?_
  refine thenE ?_
  refine blkE ?_
  refine thenN ?_
  exact ⟨_,_,_,h,lo []⟩
 have h:=cond_f h hc_r1
 cases h
theorem impl_Disk__settled__impl_Fall_1_ok {u p0 p1_0 r} (h:impl_Disk__settled__impl_Fall_1 u p0 p1_0=some r):CallOK Tryz.prog 166 [V.g (Disk.enc p0),.clo 167 [.fptr [.int .i64 p1_0]]] (V.w [5,5,0,0,0,124] (Disk.enc r)) []:=by
 unfold impl_Disk__settled__impl_Fall_1 at h
 refine ofb Tryz.f166 true ?_
 refine Wp.sa ?_
 refine Wp.cl false 1 9 [.agg ((Disk.enc p0).map .t)] h (fun _=>impl_copyDisk_ok) (fun r1 h=>?_)
 refine Wp.seq ?_
 refine Wp.cl false 1 11 [.agg ((Disk.enc p0).map .t)] h (fun _=>impl_DiskOk_ok) (fun r2 h=>?_)
 refine Wp.c2 h (fun h=>?_) (fun h=>?_)
 ·refine Wp.sa ?_
  obtain rfl:=oi h
  exact Wp.ret RetB
 refine Wp.sk ?_
 refine Wp.j6 (fun x33 x34 x35 x36 x37 x38=>impl_Disk__settled__impl_Fall_1_j1 u x33 x34 x35 x36 x37 x38=some r) (fun x33 x34 x35 x36 x37 x38=>⟨[(4,.obj 4 0),(5,.obj 5 0)],[(4,[.nil,.nil,.i 0,.i 0,.i 0,.nil]),(5,[.own 328192,.own 328193,.i x35,.i x36,.i x37,.own 328197])],[(328192,.live 5 1 (x33.map (eInt .u8))),(328193,.live 5 1 (x34.map (eInt .u8))),(328197,.live 124 6 (x38.map Put.enc))]⟩) (fun x33 x34 x35 x36 x37 x38 h=>?_) ?_
 ·refine Wp.sa ?_
  refine Wp.sa ?_
  obtain rfl:=oi h
  exact Wp.ret RetB
 refine Wp.sr ?_
 refine Runs.ln 2 124 Put.enc p0.fP ?_
 refine Runs.alln ?_
 refine Wp.block ?_
 refine Wp.l9 (fun k_impl_Disk__settled__impl_Fall_1_l2 p1_0 p0 x10 x11 x12 x13 x14 x15 x16=>impl_Disk__settled__impl_Fall_1_l2 u k_impl_Disk__settled__impl_Fall_1_l2 p1_0 p0 x10 x11 x12 x13 x14 x15 x16=some r) (fun p1_0 p0 x10 x11 x12 x13 x14 x15 x16=>⟨[(1,.clo 167 [.fadr [.int .i64 p1_0]]),(4,.obj 4 0),(5,.obj 5 0),(15,.t (.sl 6 (p0.fP.map Put.enc))),(16,.i ((p0.fP.length:Int))),(17,.i x10)],[(4,[.nil,.nil,.i 0,.i 0,.i 0,.nil]),(5,[.own 328192,.own 328193,.i x13,.i x14,.i x15,.own 328197])],[(328192,.live 5 1 (x11.map (eInt .u8))),(328193,.live 5 1 (x12.map (eInt .u8))),(328197,.live 124 6 (x16.map Put.enc))]⟩) (fun k_impl_Disk__settled__impl_Fall_1_l2 p1_0 p0 x10 x11 x12 x13 x14 x15 x16 h=>?_) h (lo [(328192,589824),(328193,589825),(328197,589829)]) (fun _ _ _ _ _ _ _ _ _  h=>nomatch h)
 rw [impl_Disk__settled__impl_Fall_1_l2] at h
 refine Wp.sa ?_
 refine Wp.seq ?_
 refine Wp.c2 h (fun h=>?_) (fun h=>?_)
 ·refine Wp.sk ?_
  refine Wp.j9 (fun p1_0 p0 x10 x27 x28 x29 x30 x31 x32=>impl_Disk__settled__impl_Fall_1_j3 u (fun z0 z1 z2 z3 z4 z5 z6 z7 z8=>impl_Disk__settled__impl_Fall_1_l2 u k_impl_Disk__settled__impl_Fall_1_l2 z0 z1 z2 z3 z4 z5 z6 z7 z8) p1_0 p0 x10 x27 x28 x29 x30 x31 x32=some r) (fun p1_0 p0 x10 x27 x28 x29 x30 x31 x32=>⟨[(1,.clo 167 [.fadr [.int .i64 p1_0]]),(4,.obj 4 0),(5,.obj 5 0),(15,.t (.sl 6 (p0.fP.map Put.enc))),(16,.i ((p0.fP.length:Int))),(17,.i x10)],[(4,[.nil,.nil,.i 0,.i 0,.i 0,.nil]),(5,[.own 328192,.own 328193,.i x29,.i x30,.i x31,.own 328197])],[(328192,.live 5 1 (x27.map (eInt .u8))),(328193,.live 5 1 (x28.map (eInt .u8))),(328197,.live 124 6 (x32.map Put.enc))]⟩) (fun p1_0 p0 x10 x27 x28 x29 x30 x31 x32 h=>?_) ?_
  ·refine Wp.rg [] [] ?_
   refine Runs.alln ?_
   exact ⟨_,_,_,_,_,_,_,_,_,h,lo []⟩
  refine Wp.block ?_
  refine Wp.sr ?_
  refine Runs.ix 1 124 6 Put.enc h (fun y24 h _=>?_)
  refine Runs.alln ?_
  refine Wp.cl false 2 24 [.i x10,.fadr [.int .i64 p1_0]] h (fun _=>impl_Fall_1_ok) (fun r25 h=>?_)
  refine Wp.c2 h (fun h=>?_) (fun h=>?_)
  ·refine Wp.rg [] [] ?_
   refine Runs.cl true 1 26 [.obj 5 0,.agg ((Put.enc y24).map .t)] h (fun _=>impl_Disk__perform__own_p0_fP_ok) (fun r26 h=>?_)
   refine Runs.all kr ?_
   refine blkN ?_
   refine thenN ?_
   exact ⟨_,_,_,_,_,_,_,_,_,h,lo [(328192,1705280),(328193,1705281),(328197,1705285)]⟩
  refine Wp.skip ?_
  refine blkN ?_
  refine thenN ?_
  exact ⟨_,_,_,_,_,_,_,_,_,h,lo []⟩
 refine Wp.exit ?_
 refine thenE ?_
 refine thenE ?_
 refine blkE ?_
 refine thenN ?_
 exact ⟨_,_,_,_,_,_,h,lo []⟩
theorem impl_Fall_ok {u p0 p1 r} (h:impl_Fall u p0 p1=some r):CallOK Tryz.prog 96 [V.g (Disk.enc p0),V.i p1] (V.w [5,5,0,0,0,124] (Disk.enc r)) []:=by
 unfold impl_Fall at h
 refine ofb Tryz.f96 true ?_
 refine Wp.sa ?_
 refine Wp.seq ?_
 refine Wp.le (Le.frzOb 3 [.int .i64 p1] kr kr) ?_
 refine Wp.rg [] [] ?_
 refine Runs.cl false 2 7 [.agg ((Disk.enc p0).map .t),.clo 167 [.fadr [.int .i64 p1]]] h (fun _=>impl_Disk__settled__impl_Fall_1_ok) (fun r1 h=>?_)
 refine Runs.alln ?_
 obtain rfl:=oi h
 exact Wp.ret RetB
theorem impl_Lose_ok {u p0 p1 r} (h:impl_Lose u p0 p1=some r):CallOK Tryz.prog 21 [V.g (Disk.enc p0),V.i p1] (V.w [5,5,0,0,0,124] (Disk.enc r)) []:=by
 unfold impl_Lose at h
 refine ofb Tryz.f21 true ?_
 refine Wp.sa ?_
 refine Wp.cl false 2 7 [.agg ((Disk.enc p0).map .t),.i p1] h (fun _=>impl_Fall_ok) (fun r1 h=>?_)
 obtain rfl:=oi h
 exact Wp.ret RetB
theorem spec_Fall_ok {u p0 p1 r} (h:spec_Fall u p0 p1=some r):CallOK Tryz.prog 97 [V.g (Disk.enc p0),V.i p1] (V.w [5,5,0,0,0,124] (Disk.enc r)) []:=by
 unfold spec_Fall at h
 refine ofb Tryz.f97 true ?_
 refine Wp.sa ?_
 refine Wp.cl false 1 8 [.agg ((Disk.enc p0).map .t)] h (fun _=>spec_l9Copy_ok) (fun r1 h=>?_)
 refine Wp.seq ?_
 refine Wp.cl false 1 10 [.agg ((Disk.enc p0).map .t)] h (fun _=>spec_DiskOk_ok) (fun r2 h=>?_)
 refine Wp.c2 h (fun h=>?_) (fun h=>?_)
 ·refine Wp.sa ?_
  obtain rfl:=oi h
  exact Wp.ret RetB
 refine Wp.sk ?_
 refine Wp.j6 (fun x33 x34 x35 x36 x37 x38=>spec_Fall_j1 u x33 x34 x35 x36 x37 x38=some r) (fun x33 x34 x35 x36 x37 x38=>⟨[(4,.obj 4 0),(5,.obj 5 0)],[(4,[.nil,.nil,.i 0,.i 0,.i 0,.nil]),(5,[.own 328192,.own 328193,.i x35,.i x36,.i x37,.own 328197])],[(328192,.live 5 1 (x33.map (eInt .u8))),(328193,.live 5 1 (x34.map (eInt .u8))),(328197,.live 124 6 (x38.map Put.enc))]⟩) (fun x33 x34 x35 x36 x37 x38 h=>?_) ?_
 ·refine Wp.sa ?_
  refine Wp.sa ?_
  obtain rfl:=oi h
  exact Wp.ret RetB
 refine Wp.sa ?_
 refine Wp.block ?_
 refine Wp.l9 (fun k_spec_Fall_l2 p1 x10 p0 x11 x12 x13 x14 x15 x16=>spec_Fall_l2 u k_spec_Fall_l2 p1 x10 p0 x11 x12 x13 x14 x15 x16=some r) (fun p1 x10 p0 x11 x12 x13 x14 x15 x16=>⟨[(1,.i p1),(2,.obj 2 0),(4,.obj 4 0),(5,.obj 5 0),(6,.i x10)],[(2,((Disk.enc p0).map .t)),(4,[.nil,.nil,.i 0,.i 0,.i 0,.nil]),(5,[.own 328192,.own 328193,.i x13,.i x14,.i x15,.own 328197])],[(328192,.live 5 1 (x11.map (eInt .u8))),(328193,.live 5 1 (x12.map (eInt .u8))),(328197,.live 124 6 (x16.map Put.enc))]⟩) (fun k_spec_Fall_l2 p1 x10 p0 x11 x12 x13 x14 x15 x16 h=>?_) h (lo [(328192,524288),(328193,524289),(328197,524293)]) (fun _ _ _ _ _ _ _ _ _  h=>nomatch h)
 rw [spec_Fall_l2] at h
 refine Wp.seq ?_
 refine Wp.sr ?_
 refine Runs.ln 3 124 Put.enc p0.fP ?_
 refine Runs.alln ?_
 refine Wp.c2 h (fun h=>?_) (fun h=>?_)
 ·refine Wp.sk ?_
  refine Wp.j9 (fun p1 x10 p0 x27 x28 x29 x30 x31 x32=>spec_Fall_j3 u (fun z0 z1 z2 z3 z4 z5 z6 z7 z8=>spec_Fall_l2 u k_spec_Fall_l2 z0 z1 z2 z3 z4 z5 z6 z7 z8) p1 x10 p0 x27 x28 x29 x30 x31 x32=some r) (fun p1 x10 p0 x27 x28 x29 x30 x31 x32=>⟨[(1,.i p1),(2,.obj 2 0),(4,.obj 4 0),(5,.obj 5 0),(6,.i x10)],[(2,((Disk.enc p0).map .t)),(4,[.nil,.nil,.i 0,.i 0,.i 0,.nil]),(5,[.own 328192,.own 328193,.i x29,.i x30,.i x31,.own 328197])],[(328192,.live 5 1 (x27.map (eInt .u8))),(328193,.live 5 1 (x28.map (eInt .u8))),(328197,.live 124 6 (x32.map Put.enc))]⟩) (fun p1 x10 p0 x27 x28 x29 x30 x31 x32 h=>?_) ?_
  ·refine Wp.rg [] [] ?_
   refine Runs.alln ?_
   exact ⟨_,_,_,_,_,_,_,_,_,h,lo []⟩
  refine Wp.block ?_
  refine Wp.cl false 2 22 [.i p1,.i x10] h (fun _=>spec_InSet_ok) (fun r24 h=>?_)
  refine Wp.c2 h (fun h=>?_) (fun h=>?_)
  ·refine Wp.le (Le.trans (Le.frzO 5 0 328192 5 1 [.own 328192,.own 328193,.i x13,.i x14,.i x15,.own 328197] (x11.map (eInt .u8)) kr kr kr) (Le.trans (Le.frzO 5 1 328193 5 1 [.s x11,.own 328193,.i x13,.i x14,.i x15,.own 328197] (x12.map (eInt .u8)) kr kr kr) (Le.frzO 5 5 328197 124 6 [.s x11,.s x12,.i x13,.i x14,.i x15,.own 328197] (x16.map Put.enc) kr kr kr))) ?_
   refine Wp.regionA (pOf []) (rhoOf [(2,.obj 2),(5,.obj 5),(6,.frz),(23,.frz),(24,.obj 2),(25,.frz),(26,.frz),(27,.frz),(28,.frz),(29,.own 29)]) kr kr ?_
   refine Runs.ix 4 124 6 Put.enc h (fun y25 h _=>?_)
   refine Runs.cl false 1 29 [.agg [.s x11,.s x12,.i x13,.i x14,.i x15,.t (.sl 6 (x16.map Put.enc))],.agg ((Put.enc y25).map .t)] h (fun _=>spec_OnePut_ok) (fun r26 h=>?_)
   refine Runs.all kr ?_
   refine blkN ?_
   refine thenN ?_
   exact ⟨_,_,_,_,_,_,_,_,_,h,lo [(328192,1900544),(328193,1900545),(328197,1900549)]⟩
  refine Wp.skip ?_
  refine blkN ?_
  refine thenN ?_
  exact ⟨_,_,_,_,_,_,_,_,_,h,lo []⟩
 refine Wp.exit ?_
 refine thenE ?_
 refine thenE ?_
 refine blkE ?_
 refine thenN ?_
 exact ⟨_,_,_,_,_,_,h,lo []⟩
theorem spec_Lose_ok {u p0 p1 r} (h:spec_Lose u p0 p1=some r):CallOK Tryz.prog 22 [V.g (Disk.enc p0),V.i p1] (V.w [5,5,0,0,0,124] (Disk.enc r)) []:=by
 unfold spec_Lose at h
 refine ofb Tryz.f22 true ?_
 refine Wp.sa ?_
 refine Wp.cl false 2 7 [.agg ((Disk.enc p0).map .t),.i p1] h (fun _=>spec_Fall_ok) (fun r1 h=>?_)
 obtain rfl:=oi h
 exact Wp.ret RetB
theorem laws_sameDisk_ok {u p0 p1 r} (h:laws_sameDisk u p0 p1=some r):CallOK Tryz.prog 20 [V.g (Disk.enc p0),V.g (Disk.enc p1)] (V.b r) []:=by
 unfold laws_sameDisk at h
 refine ofb Tryz.f20 false ?_
 refine Wp.sa ?_
 refine Wp.seq ?_
 refine Wp.j3 (fun x3 p0 p1=>laws_sameDisk_j1 u x3 p0 p1=some r) (fun x3 p0 p1=>⟨[(2,.obj 2 0),(3,.obj 3 0),(4,.b false),(37,.b x3)],[(2,((Disk.enc p0).map .t)),(3,((Disk.enc p1).map .t))],[]⟩) (fun x3 p0 p1 h=>?_) ?_
 ·refine Wp.c2 h (fun h=>?_) (fun h=>?_)
  ·refine Wp.sa ?_
   obtain rfl:=oi h
   exact Wp.ret RetB
  refine Wp.sk ?_
  refine Wp.j0 (laws_sameDisk_j2 u=some r) ⟨[(4,.b false)],[],[]⟩ (fun h=>?_) ?_
  ·refine Wp.sa ?_
   obtain rfl:=oi h
   exact Wp.ret RetB
  refine Wp.sa ?_
  refine Wp.block ?_
  refine Wp.l3 (fun k_laws_sameDisk_l3 x5 p0 p1=>laws_sameDisk_l3 u k_laws_sameDisk_l3 x5 p0 p1=some r) (fun x5 p0 p1=>⟨[(2,.obj 2 0),(3,.obj 3 0),(4,.b false),(5,.i x5)],[(2,((Disk.enc p0).map .t)),(3,((Disk.enc p1).map .t))],[]⟩) (fun k_laws_sameDisk_l3 x5 p0 p1 h=>?_) h (lo []) (fun _ _ _  h=>nomatch h)
  rw [laws_sameDisk_l3] at h
  refine Wp.seq ?_
  refine Wp.sr ?_
  refine Runs.ln 3 124 Put.enc p0.fP ?_
  refine Runs.alln ?_
  refine Wp.c2 h (fun h=>?_) (fun h=>?_)
  ·refine Wp.sk ?_
   refine Wp.seq ?_
   refine Wp.block ?_
   refine Wp.sr ?_
   refine Runs.ix 3 124 6 Put.enc h (fun y7 h _=>?_)
   refine Runs.alln ?_
   refine Wp.sr ?_
   refine Runs.ix 3 124 6 Put.enc h (fun y8 h _=>?_)
   refine Runs.alln ?_
   refine Wp.j4 (fun x5 x10 p0 p1=>laws_sameDisk_j4 u (fun z0 z1 z2=>laws_sameDisk_l3 u k_laws_sameDisk_l3 z0 z1 z2) x5 x10 p0 p1=some r) (fun x5 x10 p0 p1=>⟨[(2,.obj 2 0),(3,.obj 3 0),(4,.b false),(5,.i x5),(81,.b x10)],[(2,((Disk.enc p0).map .t)),(3,((Disk.enc p1).map .t))],[]⟩) (fun x5 x10 p0 p1 h=>?_) ?_
   ·refine Wp.c2 h (fun h=>?_) (fun h=>?_)
    ·refine Wp.sa ?_
     obtain rfl:=oi h
     exact Wp.ret RetB
    refine Wp.skip ?_
    refine blkN ?_
    refine thenN ?_
    refine Wp.rg [] [] ?_
    refine Runs.alln ?_
    exact ⟨_,_,_,h,lo []⟩
   refine Wp.rg [] [] ?_
   refine Runs.c2 6 60 h (fun h=>?_) (fun h=>?_)
   ·refine Runs.alln ?_
    exact ⟨_,_,_,_,h,lo []⟩
   refine Runs.c2 7 67 h (fun h=>?_) (fun h=>?_)
   ·refine Runs.alln ?_
    exact ⟨_,_,_,_,h,lo []⟩
   refine Runs.c2 7 74 h (fun h=>?_) (fun h=>?_)
   ·refine Runs.alln ?_
    exact ⟨_,_,_,_,h,lo []⟩
   refine Runs.cl false 4 79 [.s y7.fB,.s y8.fB] h (fun _=>laws_same_ok) (fun r9 h=>?_)
   refine Runs.alln ?_
   exact ⟨_,_,_,_,h,lo []⟩
  refine Wp.exit ?_
  refine thenE ?_
  refine thenE ?_
  refine blkE ?_
  refine thenN ?_
  exact ⟨h,lo []⟩
 refine Wp.rg [] [] ?_
 refine Runs.cl false 4 12 [.s p0.fA,.s p1.fA] h (fun _=>laws_same_ok) (fun r1 h=>?_)
 refine Runs.c2 2 14 h (fun h=>?_) (fun h=>?_)
 ·refine Runs.alln ?_
  exact ⟨_,_,_,h,lo []⟩
 refine Runs.cl false 4 19 [.s p0.fB,.s p1.fB] h (fun _=>laws_same_ok) (fun r2 h=>?_)
 refine Runs.c2 3 22 h (fun h=>?_) (fun h=>?_)
 ·refine Runs.alln ?_
  exact ⟨_,_,_,h,lo []⟩
 refine Runs.c2 7 29 h (fun h=>?_) (fun h=>?_)
 ·refine Runs.alln ?_
  exact ⟨_,_,_,h,lo []⟩
 refine Runs.ln 2 124 Put.enc p0.fP ?_
 refine Runs.ln 2 124 Put.enc p1.fP ?_
 refine Runs.alln ?_
 exact ⟨_,_,_,h,lo []⟩
theorem slices_Equal___impl_Sum_impl_Sum_ok {u p0 p1 r} (h:slices_Equal___impl_Sum_impl_Sum u p0 p1=some r):CallOK Tryz.prog 172 [.one (.t (.sl 2 (p0.map Sum.enc))),.one (.t (.sl 2 (p1.map Sum.enc)))] (V.b r) []:=by
 unfold slices_Equal___impl_Sum_impl_Sum at h
 refine ofb Tryz.f172 false ?_
 refine Wp.sa ?_
 refine Wp.seq ?_
 refine Wp.sr ?_
 refine Runs.ln 1 177 Sum.enc p0 ?_
 refine Runs.ln 1 177 Sum.enc p1 ?_
 refine Runs.alln ?_
 refine Wp.c2 h (fun h=>?_) (fun h=>?_)
 ·refine Wp.sa ?_
  obtain rfl:=oi h
  exact Wp.ret RetB
 refine Wp.sk ?_
 refine Wp.j0 (slices_Equal___impl_Sum_impl_Sum_j1 u=some r) ⟨[(4,.b false)],[],[]⟩ (fun h=>?_) ?_
 ·refine Wp.sa ?_
  obtain rfl:=oi h
  exact Wp.ret RetB
 refine Wp.sr ?_
 refine Runs.ln 1 177 Sum.enc p0 ?_
 refine Runs.alln ?_
 refine Wp.block ?_
 refine Wp.l3 (fun k_slices_Equal___impl_Sum_impl_Sum_l2 p0 p1 x2=>slices_Equal___impl_Sum_impl_Sum_l2 u k_slices_Equal___impl_Sum_impl_Sum_l2 p0 p1 x2=some r) (fun p0 p1 x2=>⟨[(0,.t (.sl 2 (p0.map Sum.enc))),(1,.t (.sl 2 (p1.map Sum.enc))),(4,.b false),(12,.i ((p0.length:Int))),(13,.i x2)],[],[]⟩) (fun k_slices_Equal___impl_Sum_impl_Sum_l2 p0 p1 x2 h=>?_) h (lo []) (fun _ _ _  h=>nomatch h)
 rw [slices_Equal___impl_Sum_impl_Sum_l2] at h
 refine Wp.sa ?_
 refine Wp.seq ?_
 refine Wp.c2 h (fun h=>?_) (fun h=>?_)
 ·refine Wp.sk ?_
  refine Wp.seq ?_
  refine Wp.block ?_
  refine Wp.sa ?_
  refine Wp.seq ?_
  refine Wp.regionA (pOf []) (rhoOf [(0,.frz),(1,.frz),(5,.frz),(16,.frz),(17,.frz),(18,.frz),(19,.frz),(20,.frz),(21,.frz),(22,.frz),(23,.frz)]) kr kr ?_
  refine Runs.ix 2 177 2 Sum.enc h (fun y4 h _=>?_)
  refine Runs.ix 3 177 2 Sum.enc h (fun y5 h _=>?_)
  refine Runs.alln ?_
  refine Wp.c2 h (fun h=>?_) (fun h=>?_)
  ·refine Wp.sa ?_
   obtain rfl:=oi h
   exact Wp.ret RetB
  refine Wp.skip ?_
  refine blkN ?_
  refine thenN ?_
  refine Wp.rg [] [] ?_
  refine Runs.alln ?_
  exact ⟨_,_,_,h,lo []⟩
 refine Wp.exit ?_
 refine thenE ?_
 refine thenE ?_
 refine blkE ?_
 refine thenN ?_
 exact ⟨h,lo []⟩
theorem impl_SameMan_ok {u p0 p1 r} (h:impl_SameMan u p0 p1=some r):CallOK Tryz.prog 98 [V.g (Manifest.enc p0),V.g (Manifest.enc p1)] (V.b r) []:=by
 unfold impl_SameMan at h
 refine ofb Tryz.f98 false ?_
 refine Wp.sa ?_
 refine Wp.sr ?_
 refine Runs.c2 6 10 h (fun h=>?_) (fun h=>?_)
 ·refine Runs.c2 7 17 h (fun h=>?_) (fun h=>?_)
  ·refine Runs.c2 7 24 h (fun h=>?_) (fun h=>?_)
   ·refine Runs.cl false 4 29 [.t (.sl 2 (p0.fSums.map Sum.enc)),.t (.sl 2 (p1.fSums.map Sum.enc))] h (fun _=>slices_Equal___impl_Sum_impl_Sum_ok) (fun r1 h=>?_)
    refine Runs.alln ?_
    obtain rfl:=oi h
    exact Wp.ret RetB
   refine Runs.alln ?_
   obtain rfl:=oi h
   exact Wp.ret RetB
  refine Runs.alln ?_
  obtain rfl:=oi h
  exact Wp.ret RetB
 refine Runs.alln ?_
 obtain rfl:=oi h
 exact Wp.ret RetB
theorem impl_Recover_ok {u p0 r} (h:impl_Recover u p0=some r):CallOK Tryz.prog 101 [V.g (Disk.enc p0)] (.tup [V.i r.1,.one (.ow 5 1 (r.2.map (eInt .u8)))]) []:=by
 unfold impl_Recover at h
 refine ofb Tryz.f101 true ?_
 refine Wp.sa ?_
 refine Wp.seq ?_
 refine Wp.cl false 1 5 [.agg ((Disk.enc p0).map .t)] h (fun _=>impl_DiskOk_ok) (fun r1 h=>?_)
 refine Wp.c2 h (fun h=>?_) (fun h=>?_)
 ·refine Wp.sa ?_
  obtain rfl:=oi h
  exact Wp.ret RetB
 refine Wp.sk ?_
 refine Wp.seq ?_
 refine Wp.le (Le.frzOb 1 (Disk.enc p0) kr kr) ?_
 refine Wp.regionA (pOf []) (rhoOf [(1,.frz),(7,.frz),(8,.frz),(9,.frz),(10,.frz),(11,.frz),(12,.frz),(13,.frz),(14,.frz),(15,.frz),(16,.frz),(17,.frz),(18,.frz),(19,.frz),(20,.own 20)]) kr kr ?_
 refine Runs.cl false 6 13 [.fadr (Disk.enc p0),.i p0.fR.fSlot] h (fun _=>impl_Disk__slot__frz0_ok) (fun r2 h=>?_)
 refine Runs.batch 5 kr ?_
 obtain ⟨_,e_3,h⟩:=bind_some h
 refine Runs.subsl (e:=5) (ax:=.s r2) (alo:=none) (ahi:=(some (.i p0.fR.fLen))) (eInt .u8) r2 1 0 p0.fR.fLen rfl kr kr kr kr kr kr kr kr kr kr kr (chk_some e_3) ?_
 refine Runs.cl false 0 20 [.t (.sl 1 (((r2.take (Int.toNat p0.fR.fLen)).drop (Int.toNat 0)).map (eInt .u8)))] h (fun _=>impl_cloned_ok) (fun r4 h=>?_)
 refine Runs.alln ?_
 obtain rfl:=oi h
 exact Wp.ret RetB
theorem impl_Tells_ok {u p0 p1 r} (h:impl_Tells u p0 p1=some r):CallOK Tryz.prog 173 [V.g (Manifest.enc p0),.one (.s p1)] (V.b r) []:=by
 unfold impl_Tells at h
 refine ofb Tryz.f173 false ?_
 refine Wp.sa ?_
 refine Wp.seq ?_
 refine Wp.regionA (pOf []) (rhoOf [(1,.frz),(2,.obj 2),(5,.frz),(6,.frz),(7,.obj 2),(8,.frz),(9,.frz),(10,.frz),(11,.frz),(12,.obj 2),(13,.frz),(14,.own 14),(15,.obj 2),(16,.frz),(18,.frz)]) kr kr ?_
 refine Runs.ln 1 5 (eInt .u8) p1 ?_
 refine Runs.c2 4 10 h (fun h=>?_) (fun h=>?_)
 ·refine Runs.cl false 3 14 [.s p1,.i p0.fSize] h (fun _=>impl_SumsOf_ok) (fun r1 h=>?_)
  refine Runs.cb 2 17 [.own 917504,.t (.sl 2 (p0.fSums.map Sum.enc))] h (fun _=>slices_Equal___impl_Sum_impl_Sum_ok) (fun r2 h=>?_)
  refine Runs.alln ?_
  obtain rfl:=oi h
  exact Wp.ret RetB
 refine Runs.alln ?_
 obtain rfl:=oi h
 exact Wp.ret RetB
theorem impl_isCurrent_ok {u p0 p1 r} (h:impl_isCurrent u p0 p1=some r):CallOK Tryz.prog 99 [V.g (Disk.enc p0),V.g (Manifest.enc p1)] (V.b r) []:=by
 unfold impl_isCurrent at h
 refine ofb Tryz.f99 false ?_
 refine Wp.sa ?_
 refine Wp.cl false 1 9 [.agg ((Disk.enc p0).map .t)] h (fun _=>impl_Recover_ok) (fun r1 h=>?_)
 refine Wp.sr ?_
 refine Runs.c2 5 16 h (fun h=>?_) (fun h=>?_)
 ·refine Runs.cb 2 19 [.agg ((Manifest.enc p1).map .t),.own 590848] h (fun _=>impl_Tells_ok) (fun r2 h=>?_)
  refine Runs.alln ?_
  obtain rfl:=oi h
  exact Wp.ret RetB
 refine Runs.alln ?_
 obtain rfl:=oi h
 exact Wp.ret RetB
theorem impl_Knows_ok {u p0 p1 p2 r} (h:impl_Knows u p0 p1 p2=some r):CallOK Tryz.prog 23 [V.g (Node.enc p0),V.g (Disk.enc p1),V.g (Manifest.enc p2)] (V.b r) []:=by
 unfold impl_Knows at h
 refine ofb Tryz.f23 false ?_
 refine Wp.sa ?_
 refine Wp.sr ?_
 refine Runs.c2 3 9 h (fun h=>?_) (fun h=>?_)
 ·refine Runs.cl false 3 13 [.agg ((Manifest.enc p0.fMan).map .t),.agg ((Manifest.enc p2).map .t)] h (fun _=>impl_SameMan_ok) (fun r1 h=>?_)
  refine Runs.c2 2 15 h (fun h=>?_) (fun h=>?_)
  ·refine Runs.alln ?_
   obtain rfl:=oi h
   exact Wp.ret RetB
  refine Runs.cl false 2 18 [.agg ((Disk.enc p1).map .t),.agg ((Manifest.enc p2).map .t)] h (fun _=>impl_isCurrent_ok) (fun r2 h=>?_)
  refine Runs.alln ?_
  obtain rfl:=oi h
  exact Wp.ret RetB
 refine Runs.cl false 8 18 [.agg ((Disk.enc p1).map .t),.agg ((Manifest.enc p2).map .t)] h (fun _=>impl_isCurrent_ok) (fun r3 h=>?_)
 refine Runs.alln ?_
 obtain rfl:=oi h
 exact Wp.ret RetB
theorem spec_SameMan_ok {u p0 p1 r} (h:spec_SameMan u p0 p1=some r):CallOK Tryz.prog 100 [V.g (Manifest.enc p0),V.g (Manifest.enc p1)] (V.b r) []:=by
 unfold spec_SameMan at h
 refine ofb Tryz.f100 false ?_
 refine Wp.sa ?_
 refine Wp.sr ?_
 refine Runs.c2 6 10 h (fun h=>?_) (fun h=>?_)
 ·refine Runs.c2 7 17 h (fun h=>?_) (fun h=>?_)
  ·refine Runs.c2 7 24 h (fun h=>?_) (fun h=>?_)
   ·refine Runs.cl false 4 29 [.t (.sl 2 (p0.fSums.map Sum.enc)),.t (.sl 2 (p1.fSums.map Sum.enc))] h (fun _=>spec_l6SameSums_ok) (fun r1 h=>?_)
    refine Runs.alln ?_
    obtain rfl:=oi h
    exact Wp.ret RetB
   refine Runs.alln ?_
   obtain rfl:=oi h
   exact Wp.ret RetB
  refine Runs.alln ?_
  obtain rfl:=oi h
  exact Wp.ret RetB
 refine Runs.alln ?_
 obtain rfl:=oi h
 exact Wp.ret RetB
theorem spec_Recover_ok {u p0 r} (h:spec_Recover u p0=some r):CallOK Tryz.prog 102 [V.g (Disk.enc p0)] (.tup [V.i r.1,.one (.ow 5 1 (r.2.map (eInt .u8)))]) []:=by
 unfold spec_Recover at h
 refine ofb Tryz.f102 true ?_
 refine Wp.sa ?_
 refine Wp.seq ?_
 refine Wp.cl false 1 5 [.agg ((Disk.enc p0).map .t)] h (fun _=>spec_DiskOk_ok) (fun r1 h=>?_)
 refine Wp.c2 h (fun h=>?_) (fun h=>?_)
 ·refine Wp.sa ?_
  obtain rfl:=oi h
  exact Wp.ret RetB
 refine Wp.sk ?_
 refine Wp.seq ?_
 refine Wp.regionA (pOf []) (rhoOf [(1,.obj 1),(8,.obj 1),(9,.obj 1),(10,.frz),(11,.own 11),(12,.frz),(13,.obj 1),(14,.obj 1),(15,.frz),(16,.frz),(17,.obj 1),(18,.obj 1),(19,.frz),(20,.frz),(21,.own 21)]) kr kr ?_
 refine Runs.cl false 8 16 [.agg ((Disk.enc p0).map .t),.i p0.fR.fSlot] h (fun _=>spec_l9Slot_ok) (fun r2 h=>?_)
 refine Runs.batch 3 kr ?_
 obtain ⟨_,e_3,h⟩:=bind_some h
 refine Runs.subsl (e:=5) (ax:=.s r2) (alo:=none) (ahi:=(some (.i p0.fR.fLen))) (eInt .u8) r2 1 0 p0.fR.fLen rfl kr kr kr kr kr kr kr kr kr kr kr (chk_some e_3) ?_
 refine Runs.ap 0 21 5 1 720896 (eInt .u8) h (fun h=>?_)
 refine Runs.alln ?_
 obtain rfl:=oi h
 exact Wp.ret RetB
theorem spec_Behind_ok {u p0 p1 r} (h:spec_Behind u p0 p1=some r):CallOK Tryz.prog 28 [V.g (Disk.enc p0),V.g (Manifest.enc p1)] (V.b r) []:=by
 unfold spec_Behind at h
 refine ofb Tryz.f28 false ?_
 refine Wp.sa ?_
 refine Wp.cl false 1 9 [.agg ((Disk.enc p0).map .t)] h (fun _=>spec_Recover_ok) (fun r1 h=>?_)
 refine Wp.sr ?_
 refine Runs.c2 5 16 h (fun h=>?_) (fun h=>?_)
 ·refine Runs.alln ?_
  obtain rfl:=oi h
  exact Wp.ret RetB
 refine Runs.cb 2 19 [.agg ((Manifest.enc p1).map .t),.own 590848] h (fun _=>spec_Tells_ok) (fun r2 h=>?_)
 refine Runs.alln ?_
 obtain rfl:=oi h
 exact Wp.ret RetB
theorem spec_Knows_ok {u p0 p1 p2 r} (h:spec_Knows u p0 p1 p2=some r):CallOK Tryz.prog 24 [V.g (Node.enc p0),V.g (Disk.enc p1),V.g (Manifest.enc p2)] (V.b r) []:=by
 unfold spec_Knows at h
 refine ofb Tryz.f24 false ?_
 refine Wp.sa ?_
 refine Wp.sr ?_
 refine Runs.c2 3 9 h (fun h=>?_) (fun h=>?_)
 ·refine Runs.cl false 3 13 [.agg ((Manifest.enc p0.fMan).map .t),.agg ((Manifest.enc p2).map .t)] h (fun _=>spec_SameMan_ok) (fun r1 h=>?_)
  refine Runs.c2 2 15 h (fun h=>?_) (fun h=>?_)
  ·refine Runs.alln ?_
   obtain rfl:=oi h
   exact Wp.ret RetB
  refine Runs.cl false 2 18 [.agg ((Disk.enc p1).map .t),.agg ((Manifest.enc p2).map .t)] h (fun _=>spec_Behind_ok) (fun r2 h=>?_)
  refine Runs.alln ?_
  obtain rfl:=oi h
  exact Wp.ret RetB
 refine Runs.cl false 8 18 [.agg ((Disk.enc p1).map .t),.agg ((Manifest.enc p2).map .t)] h (fun _=>spec_Behind_ok) (fun r3 h=>?_)
 refine Runs.alln ?_
 obtain rfl:=oi h
 exact Wp.ret RetB
theorem impl_FindSum_ok {u p0 p1 p2 r} (h:impl_FindSum u p0 p1 p2=some r):CallOK Tryz.prog 261 [.one (.s p0),V.g (Sum.enc p1),V.i p2] (V.i r) []:=by
 unfold impl_FindSum at h
 refine ofb Tryz.f261 false ?_
 refine Wp.sa ?_
 refine Wp.seq ?_
 refine Wp.cl false 1 9 [.i p2,.i 1,.i 6] h (fun _=>impl_within_ok) (fun r1 h=>?_)
 refine Wp.c2 h (fun h=>?_) (fun h=>?_)
 ·refine Wp.sa ?_
  obtain rfl:=oi h
  exact Wp.ret RetB
 refine Wp.sk ?_
 refine Wp.j0 (impl_FindSum_j1 u=some r) ⟨[(6,.i 0)],[],[]⟩ (fun h=>?_) ?_
 ·refine Wp.sa ?_
  obtain rfl:=oi h
  exact Wp.ret RetB
 refine Wp.sa ?_
 refine Wp.block ?_
 refine Wp.l4 (fun k_impl_FindSum_l2 p0 p2 x3 p1=>impl_FindSum_l2 u k_impl_FindSum_l2 p0 p2 x3 p1=some r) (fun p0 p2 x3 p1=>⟨[(0,.s p0),(2,.i p2),(4,.obj 4 0),(6,.i 0),(7,.i x3)],[(4,[.i p1.fW,.i p1.fS])],[]⟩) (fun k_impl_FindSum_l2 p0 p2 x3 p1 h=>?_) h (lo []) (fun _ _ _ _  h=>nomatch h)
 rw [impl_FindSum_l2] at h
 refine Wp.seq ?_
 refine Wp.sr ?_
 refine Runs.ln 4 5 (eInt .u8) p0 ?_
 refine Runs.alln ?_
 refine Wp.c2 h (fun h=>?_) (fun h=>?_)
 ·refine Wp.sk ?_
  refine Wp.seq ?_
  refine Wp.block ?_
  refine Wp.seq ?_
  refine Wp.regionA (pOf []) (rhoOf [(0,.frz),(2,.frz),(4,.obj 4),(7,.frz),(19,.frz),(20,.frz),(21,.frz),(22,.frz),(23,.frz),(24,.frz),(25,.frz),(26,.frz)]) kr kr ?_
  refine Runs.batch 5 kr ?_
  obtain ⟨_,e_5,h⟩:=bind_some h
  refine Runs.subsl (e:=5) (ax:=.s p0) (alo:=(some (.i x3))) (ahi:=(some (.i (bAdd .i64 x3 p2)))) (eInt .u8) p0 1 x3 (bAdd .i64 x3 p2) rfl kr kr kr kr kr kr kr kr kr kr kr (chk_some e_5) ?_
  refine Runs.cl false 0 25 [.t (.sl 1 (((p0.take (Int.toNat (bAdd .i64 x3 p2))).drop (Int.toNat x3)).map (eInt .u8)))] h (fun _=>impl_SumOf_ok) (fun r6 h=>?_)
  refine Runs.alln ?_
  refine Wp.c2 h (fun h=>?_) (fun h=>?_)
  ·refine Wp.sa ?_
   obtain rfl:=oi h
   exact Wp.ret RetB
  refine Wp.skip ?_
  refine blkN ?_
  refine thenN ?_
  refine Wp.rg [] [] ?_
  refine Runs.alln ?_
  exact ⟨_,_,_,_,h,lo []⟩
 refine Wp.exit ?_
 refine thenE ?_
 refine thenE ?_
 refine blkE ?_
 refine thenN ?_
 exact ⟨h,lo []⟩
theorem impl_PlaceOf_ok {u p0 p1 p2 r} (h:impl_PlaceOf u p0 p1 p2=some r):CallOK Tryz.prog 181 [.one (.s p0),V.g (Manifest.enc p1),V.i p2] (V.i r) []:=by
 unfold impl_PlaceOf at h
 refine ofb Tryz.f181 false ?_
 refine Wp.sa ?_
 refine Wp.cl false 5 15 [.i p1.fSize,.i p1.fLen,.i p2] h (fun _=>impl_SpanOf_ok) (fun r1 h=>?_)
 refine Wp.seq ?_
 refine Wp.sr ?_
 refine Runs.ln 3 177 Sum.enc p1.fSums ?_
 refine Runs.cl false 1 23 [.i p2,.i 0,.i (bSub .i64 ((p1.fSums.length:Int)) 1)] h (fun _=>impl_within_ok) (fun r2 h=>?_)
 refine Runs.alln ?_
 refine Wp.c2 h (fun h=>?_) (fun h=>?_)
 ·refine Wp.sa ?_
  obtain rfl:=oi h
  exact Wp.ret RetB
 refine Wp.sk ?_
 refine Wp.sr ?_
 refine Runs.ix 4 177 2 Sum.enc h (fun y3 h _=>?_)
 refine Runs.cl false 2 32 [.s p0,.agg [.i y3.fW,.i y3.fS],.i r1.2] h (fun _=>impl_FindSum_ok) (fun r4 h=>?_)
 refine Runs.alln ?_
 obtain rfl:=oi h
 exact Wp.ret RetB
theorem impl_placed_ok {u p0 p1 p2 r} (h:impl_placed u p0 p1 p2=some r):CallOK Tryz.prog 107 [.one (.s p0),V.g (Manifest.enc p1),V.b p2] (V.i r) []:=by
 unfold impl_placed at h
 refine ofb Tryz.f107 false ?_
 refine Wp.sa ?_
 refine Wp.sa ?_
 refine Wp.j1 (fun x9=>impl_placed_j1 u x9=some r) (fun x9=>⟨[(6,.i 0),(7,.i x9)],[],[]⟩) (fun x9 h=>?_) ?_
 ·refine Wp.sa ?_
  obtain rfl:=oi h
  exact Wp.ret RetB
 refine Wp.sr ?_
 refine Runs.ln 2 177 Sum.enc p1.fSums ?_
 refine Runs.alln ?_
 refine Wp.block ?_
 refine Wp.l5 (fun k_impl_placed_l2 p0 p2 x3 p1 x4=>impl_placed_l2 u k_impl_placed_l2 p0 p2 x3 p1 x4=some r) (fun p0 p2 x3 p1 x4=>⟨[(0,.s p0),(2,.b p2),(4,.obj 4 0),(6,.i 0),(7,.i x3),(12,.i (if ((p1.fSums.length:Int)) < 40 then ((p1.fSums.length:Int)) else 40)),(13,.i x4)],[(4,((Manifest.enc p1).map .t))],[]⟩) (fun k_impl_placed_l2 p0 p2 x3 p1 x4 h=>?_) h (lo []) (fun _ _ _ _ _  h=>nomatch h)
 rw [impl_placed_l2] at h
 refine Wp.sa ?_
 refine Wp.seq ?_
 refine Wp.c2 h (fun h=>?_) (fun h=>?_)
 ·refine Wp.sk ?_
  refine Wp.j5 (fun p0 p2 x8 p1 x4=>impl_placed_j3 u (fun z0 z1 z2 z3 z4=>impl_placed_l2 u k_impl_placed_l2 z0 z1 z2 z3 z4) p0 p2 x8 p1 x4=some r) (fun p0 p2 x8 p1 x4=>⟨[(0,.s p0),(2,.b p2),(4,.obj 4 0),(6,.i 0),(7,.i x8),(12,.i (if ((p1.fSums.length:Int)) < 40 then ((p1.fSums.length:Int)) else 40)),(13,.i x4)],[(4,((Manifest.enc p1).map .t))],[]⟩) (fun p0 p2 x8 p1 x4 h=>?_) ?_
  ·refine Wp.rg [] [] ?_
   refine Runs.alln ?_
   exact ⟨_,_,_,_,_,h,lo []⟩
  refine Wp.block ?_
  refine Wp.sa ?_
  refine Wp.cl false 3 19 [.s p0,.agg ((Manifest.enc p1).map .t),.i x4] h (fun _=>impl_PlaceOf_ok) (fun r7 h=>?_)
  refine Wp.c2 h (fun h=>?_) (fun h=>?_)
  ·refine Wp.rg [] [] ?_
   refine Runs.batch 2 kr ?_
   obtain ⟨_,e_8,h⟩:=bind_some h
   refine Runs.num .shl (.int .i64 1) (.int .i64 x4) (.int .i64 (bShl .i64 1 x4)) rfl kr kr kr kr (bin_shl _ _ _ _ _ (chk_some e_8)) ?_
   refine Runs.all kr ?_
   refine blkN ?_
   refine thenN ?_
   exact ⟨_,_,_,_,_,h,lo []⟩
  refine Wp.skip ?_
  refine blkN ?_
  refine thenN ?_
  exact ⟨_,_,_,_,_,h,lo []⟩
 refine Wp.exit ?_
 refine thenE ?_
 refine thenE ?_
 refine blkE ?_
 refine thenN ?_
 exact ⟨_,h,lo []⟩
theorem impl_Found_ok {u p0 p1 r} (h:impl_Found u p0 p1=some r):CallOK Tryz.prog 30 [.one (.s p0),V.g (Manifest.enc p1)] (V.i r) []:=by
 unfold impl_Found at h
 refine ofb Tryz.f30 false ?_
 refine Wp.sa ?_
 refine Wp.cl false 2 7 [.s p0,.agg ((Manifest.enc p1).map .t),.b true] h (fun _=>impl_placed_ok) (fun r1 h=>?_)
 obtain rfl:=oi h
 exact Wp.ret RetB
theorem impl_Has_ok {u p0 p1 r} (h:impl_Has u p0 p1=some r):CallOK Tryz.prog 25 [V.g (Disk.enc p0),V.g (Manifest.enc p1)] (V.i r) []:=by
 unfold impl_Has at h
 refine ofb Tryz.f25 false ?_
 refine Wp.sa ?_
 refine Wp.cl false 1 9 [.agg ((Disk.enc p0).map .t)] h (fun _=>impl_Recover_ok) (fun r1 h=>?_)
 refine Wp.sr ?_
 refine Runs.cb 2 14 [.own 590848,.agg ((Manifest.enc p1).map .t)] h (fun _=>impl_Found_ok) (fun r2 h=>?_)
 refine Runs.alln ?_
 obtain rfl:=oi h
 exact Wp.ret RetB
theorem spec_Found_ok {u p0 p1 r} (h:spec_Found u p0 p1=some r):CallOK Tryz.prog 103 [.one (.s p0),V.g (Manifest.enc p1)] (V.i r) []:=by
 unfold spec_Found at h
 refine ofb Tryz.f103 false ?_
 refine Wp.sa ?_
 refine Wp.sa ?_
 refine Wp.j1 (fun x11=>spec_Found_j1 u x11=some r) (fun x11=>⟨[(4,.i 0),(5,.i x11)],[],[]⟩) (fun x11 h=>?_) ?_
 ·refine Wp.sa ?_
  obtain rfl:=oi h
  exact Wp.ret RetB
 refine Wp.sa ?_
 refine Wp.block ?_
 refine Wp.l4 (fun k_spec_Found_l2 p0 x3 x4 p1=>spec_Found_l2 u k_spec_Found_l2 p0 x3 x4 p1=some r) (fun p0 x3 x4 p1=>⟨[(0,.s p0),(3,.obj 3 0),(4,.i 0),(5,.i x3),(6,.i x4)],[(3,((Manifest.enc p1).map .t))],[]⟩) (fun k_spec_Found_l2 p0 x3 x4 p1 h=>?_) h (lo []) (fun _ _ _ _  h=>nomatch h)
 rw [spec_Found_l2] at h
 refine Wp.seq ?_
 refine Wp.j5 (fun p0 x3 x4 x7 p1=>spec_Found_j3 u (fun z0 z1 z2 z3=>spec_Found_l2 u k_spec_Found_l2 z0 z1 z2 z3) p0 x3 x4 x7 p1=some r) (fun p0 x3 x4 x7 p1=>⟨[(0,.s p0),(3,.obj 3 0),(4,.i 0),(5,.i x3),(6,.i x4),(15,.b x7)],[(3,((Manifest.enc p1).map .t))],[]⟩) (fun p0 x3 x4 x7 p1 h=>?_) ?_
 ·refine Wp.c2 h (fun h=>?_) (fun h=>?_)
  ·refine Wp.sk ?_
   refine Wp.j4 (fun p0 x10 x4 p1=>spec_Found_j4 u (fun z0 z1 z2 z3=>spec_Found_l2 u k_spec_Found_l2 z0 z1 z2 z3) p0 x10 x4 p1=some r) (fun p0 x10 x4 p1=>⟨[(0,.s p0),(3,.obj 3 0),(4,.i 0),(5,.i x10),(6,.i x4)],[(3,((Manifest.enc p1).map .t))],[]⟩) (fun p0 x10 x4 p1 h=>?_) ?_
   ·refine Wp.rg [] [] ?_
    refine Runs.alln ?_
    exact ⟨_,_,_,_,h,lo []⟩
   refine Wp.block ?_
   refine Wp.cl false 3 21 [.s p0,.agg ((Manifest.enc p1).map .t),.i x4] h (fun _=>spec_PlaceOf_ok) (fun r8 h=>?_)
   refine Wp.c2 h (fun h=>?_) (fun h=>?_)
   ·refine Wp.rg [] [] ?_
    refine Runs.cl false 2 25 [.i x3,.i x4] h (fun _=>spec_WithPart_ok) (fun r9 h=>?_)
    refine Runs.all kr ?_
    refine blkN ?_
    refine thenN ?_
    exact ⟨_,_,_,_,h,lo []⟩
   refine Wp.skip ?_
   refine blkN ?_
   refine thenN ?_
   exact ⟨_,_,_,_,h,lo []⟩
  refine Wp.exit ?_
  refine thenE ?_
  refine thenE ?_
  refine blkE ?_
  refine thenN ?_
  exact ⟨_,h,lo []⟩
 refine Wp.rg [] [] ?_
 refine Runs.ln 3 177 Sum.enc p1.fSums ?_
 refine Runs.c2 2 12 h (fun h=>?_) (fun h=>?_)
 ·refine Runs.alln ?_
  exact ⟨_,_,_,_,_,h,lo []⟩
 refine Runs.alln ?_
 exact ⟨_,_,_,_,_,h,lo []⟩
theorem spec_Has_ok {u p0 p1 r} (h:spec_Has u p0 p1=some r):CallOK Tryz.prog 26 [V.g (Disk.enc p0),V.g (Manifest.enc p1)] (V.i r) []:=by
 unfold spec_Has at h
 refine ofb Tryz.f26 false ?_
 refine Wp.sa ?_
 refine Wp.cl false 1 9 [.agg ((Disk.enc p0).map .t)] h (fun _=>spec_Recover_ok) (fun r1 h=>?_)
 refine Wp.sr ?_
 refine Runs.cb 2 14 [.own 590848,.agg ((Manifest.enc p1).map .t)] h (fun _=>spec_Found_ok) (fun r2 h=>?_)
 refine Runs.alln ?_
 obtain rfl:=oi h
 exact Wp.ret RetB
theorem impl_Behind_ok {u p0 p1 r} (h:impl_Behind u p0 p1=some r):CallOK Tryz.prog 27 [V.g (Disk.enc p0),V.g (Manifest.enc p1)] (V.b r) []:=by
 unfold impl_Behind at h
 refine ofb Tryz.f27 false ?_
 refine Wp.sa ?_
 refine Wp.cl false 2 7 [.agg ((Disk.enc p0).map .t),.agg ((Manifest.enc p1).map .t)] h (fun _=>impl_isCurrent_ok) (fun r1 h=>?_)
 obtain rfl:=oi h
 exact Wp.ret RetB
theorem impl_DiskNew_ok {u p0 p1 r} (h:impl_DiskNew u p0 p1=some r):CallOK Tryz.prog 29 [V.i p0,.one (.s p1)] (V.w [5,5,0,0,0,124] (Disk.enc r)) []:=by
 unfold impl_DiskNew at h
 refine ofb Tryz.f29 true ?_
 refine Wp.sa ?_
 refine Wp.seq ?_
 refine Wp.j3 (fun p0 p1 x2=>impl_DiskNew_j1 u p0 p1 x2=some r) (fun p0 p1 x2=>⟨[(0,.i p0),(1,.s p1),(4,.obj 4 0),(12,.b x2)],[(4,[.nil,.nil,.i 0,.i 0,.i 0,.nil])],[]⟩) (fun p0 p1 x2 h=>?_) ?_
 ·refine Wp.c2 h (fun h=>?_) (fun h=>?_)
  ·refine Wp.sa ?_
   obtain rfl:=oi h
   exact Wp.ret RetB
  refine Wp.sk ?_
  refine Wp.sr ?_
  refine Runs.cl false 1 15 [.s p1] h (fun _=>impl_cloned_ok) (fun r3 h=>?_)
  refine Runs.ln 2 5 (eInt .u8) p1 ?_
  refine Runs.alln ?_
  obtain rfl:=oi h
  exact Wp.ret RetB
 refine Wp.rg [] [] ?_
 refine Runs.cl false 1 6 [.i p0] h (fun _=>impl_isGen_ok) (fun r1 h=>?_)
 refine Runs.c2 2 8 h (fun h=>?_) (fun h=>?_)
 ·refine Runs.alln ?_
  exact ⟨_,_,_,h,lo []⟩
 refine Runs.ln 1 5 (eInt .u8) p1 ?_
 refine Runs.alln ?_
 exact ⟨_,_,_,h,lo []⟩
theorem laws_FnRises_ok {u p0 r} (h:laws_FnRises u p0=some r):CallOK Tryz.prog 3 [.one (.s p0)] (V.b r) []:=by
 unfold laws_FnRises at h
 refine ofb Tryz.f3 false ?_
 refine Wp.sa ?_
 refine Wp.seq ?_
 refine Wp.cl false 1 18 [.s p0] h (fun _=>laws_big_ok) (fun r1 h=>?_)
 refine Wp.c2 h (fun h=>?_) (fun h=>?_)
 ·refine Wp.sa ?_
  obtain rfl:=oi h
  exact Wp.ret RetB
 refine Wp.sk ?_
 refine Wp.cl false 1 20 [.s p0] h (fun _=>spec_DrawFallNode_ok) (fun r2 h=>?_)
 refine Wp.cl false 1 23 [.s p0] h (fun _=>spec_DrawRiseNode_ok) (fun r3 h=>?_)
 refine Wp.cl false 1 28 [.s p0] h (fun _=>spec_DrawLose_ok) (fun r4 h=>?_)
 refine Wp.cl false 1 33 [.s p0] h (fun _=>spec_DrawKnows_ok) (fun r5 h=>?_)
 refine Wp.cl false 1 39 [.s p0] h (fun _=>spec_DrawHas_ok) (fun r6 h=>?_)
 refine Wp.cl false 1 44 [.s p0] h (fun _=>spec_DrawOld_ok) (fun r7 h=>?_)
 refine Wp.cl false 2 50 [.i 1,.s r7.2.1,.i r7.2.2] h (fun _=>impl_ManOf_ok) (fun r8 h=>?_)
 refine Wp.fg ⟨[(2,.b false),(3,.obj 3 0),(4,.obj 4 0),(5,.i r3.2),(6,.obj 6 0),(7,.i r4.2),(8,.obj 8 0),(9,.obj 9 0),(10,.obj 10 0),(11,.obj 11 0),(12,.obj 12 0),(13,.own 2883584),(14,.s r7.2.1),(16,.obj 16 0)],[(3,((Node.enc r2).map .t)),(4,[.t (.sl 1 (r3.1.fUp.map (eInt .i64)))]),(6,((Disk.enc r4.1).map .t)),(8,((Node.enc r5.1).map .t)),(9,((Disk.enc r5.2.1).map .t)),(10,((Manifest.enc r5.2.2).map .t)),(11,((Disk.enc r6.1).map .t)),(12,((Manifest.enc r6.2).map .t)),(16,[.i r8.fGen,.i r8.fSize,.i r8.fLen,.own 3276803])],[(2883584,.live 5 1 (r7.1.map (eInt .u8))),(3276803,.live 177 2 (r8.fSums.map Sum.enc))]⟩ ?_
 refine Wp.seq ?_
 refine Wp.j3 (fun r7 x23 r8=>laws_FnRises_j1 u r7 x23 r8=some r) (fun r7 x23 r8=>⟨[(2,.b false),(13,.own 851969),(14,.s r7.2.1),(16,.obj 16 0),(104,.b x23)],[(16,[.i r8.fGen,.i r8.fSize,.i r8.fLen,.own 1049091])],[(851969,.live 5 1 (r7.1.map (eInt .u8))),(1049091,.live 177 2 (r8.fSums.map Sum.enc))]⟩) (fun r7 x23 r8 h=>?_) ?_
 ·refine Wp.c2 h (fun h=>?_) (fun h=>?_)
  ·refine Wp.sa ?_
   obtain rfl:=oi h
   exact Wp.ret RetB
  refine Wp.sk ?_
  refine Wp.seq ?_
  refine Wp.le (Le.frzO 16 3 1049091 177 2 [.i r8.fGen,.i r8.fSize,.i r8.fLen,.own 1049091] (r8.fSums.map Sum.enc) kr kr kr) ?_
  refine Wp.regionA (pOf []) (rhoOf [(13,.own 13),(14,.frz),(16,.obj 16),(105,.own 13),(106,.own 106),(107,.frz),(108,.frz),(109,.frz),(110,.frz),(111,.own 111),(112,.frz),(113,.frz),(115,.frz),(116,.frz),(117,.own 13),(118,.own 118),(119,.frz),(120,.frz),(121,.own 13),(122,.frz),(123,.frz),(125,.frz)]) kr kr ?_
  refine Runs.cl false 1 106 [.i 0,.own 851969] h (fun _=>impl_DiskNew_ok) (fun r24 h=>?_)
  refine Runs.cb 1 108 [.agg [.own 6946816,.own 6946817,.i r24.fR.fGen,.i r24.fR.fSlot,.i r24.fR.fLen,.own 6946821],.agg ((Manifest.enc r8).map .t)] h (fun _=>impl_Behind_ok) (fun r25 h=>?_)
  refine Runs.c2 1 109 h (fun h=>?_) (fun h=>?_)
  ·refine Runs.cl false 1 111 [.i 1,.s r7.2.1] h (fun _=>impl_DiskNew_ok) (fun r26 h=>?_)
   refine Runs.cb 1 113 [.agg [.own 7274496,.own 7274497,.i r26.fR.fGen,.i r26.fR.fSlot,.i r26.fR.fLen,.own 7274501],.agg ((Manifest.enc r8).map .t)] h (fun _=>impl_Behind_ok) (fun r27 h=>?_)
   refine Runs.c2 3 116 h (fun h=>?_) (fun h=>?_)
   ·refine Runs.cl false 1 118 [.i 0,.own 851969] h (fun _=>impl_DiskNew_ok) (fun r28 h=>?_)
    refine Runs.cb 1 120 [.agg [.own 7733248,.own 7733249,.i r28.fR.fGen,.i r28.fR.fSlot,.i r28.fR.fLen,.own 7733253],.agg ((Manifest.enc r8).map .t)] h (fun _=>impl_Has_ok) (fun r29 h=>?_)
    refine Runs.cl false 2 123 [.own 851969,.agg ((Manifest.enc r8).map .t)] h (fun _=>impl_Found_ok) (fun r30 h=>?_)
    refine Runs.alln ?_
    obtain rfl:=oi h
    exact Wp.ret RetB
   refine Runs.alln ?_
   obtain rfl:=oi h
   exact Wp.ret RetB
  refine Runs.alln ?_
  obtain rfl:=oi h
  exact Wp.ret RetB
 refine Wp.regionA (pOf []) (rhoOf [(3,.obj 3),(4,.obj 4),(5,.frz),(6,.obj 6),(7,.frz),(8,.obj 8),(9,.obj 9),(10,.obj 10),(11,.obj 11),(12,.obj 12),(51,.frz),(52,.own 52),(53,.frz),(54,.frz),(55,.frz),(56,.frz),(57,.frz),(58,.frz),(59,.own 59),(60,.frz),(61,.frz),(62,.own 62),(63,.frz),(65,.frz),(66,.frz),(67,.frz),(68,.frz),(69,.own 69),(70,.frz),(71,.frz),(72,.own 72),(73,.frz),(75,.frz),(76,.frz),(77,.frz),(78,.frz),(79,.frz),(80,.frz),(81,.frz),(82,.frz),(83,.frz),(84,.frz),(86,.frz),(87,.frz),(88,.frz),(89,.frz),(90,.frz),(91,.frz),(92,.frz),(93,.frz),(95,.frz),(96,.frz),(97,.frz),(98,.frz),(99,.frz),(100,.frz),(101,.frz),(102,.frz)]) kr kr ?_
 refine Runs.cl false 1 52 [.agg ((Node.enc r2).map .t)] h (fun _=>impl_FallNode_ok) (fun r9 h=>?_)
 refine Runs.cb 1 54 [.agg [.b r9.fOn,.i r9.fBoss,.i r9.fQuiet,.i r9.fMan.fGen,.i r9.fMan.fSize,.i r9.fMan.fLen,.own 3407878,.i r9.fBld.fHave,.own 3407880,.i r9.fPhase,.own 3407882,.i r9.fDrops],.agg [.b false,.i 0,.i 0,.i 0,.i 0,.i 0,.nil,.i 0,.nil,.i 0,.nil,.i 0]] h (fun _=>laws_sameNode_ok) (fun r10 h=>?_)
 refine Runs.c2 2 56 h (fun h=>?_) (fun h=>?_)
 ·refine Runs.alln ?_
  exact ⟨_,_,_,h,lo [(851969,2883584),(1049091,3276803)]⟩
 refine Runs.cl false 2 59 [.agg [.t (.sl 1 (r3.1.fUp.map (eInt .i64)))],.i r3.2] h (fun _=>impl_RiseNode_ok) (fun r11 h=>?_)
 refine Runs.cl false 2 62 [.agg [.t (.sl 1 (r3.1.fUp.map (eInt .i64)))],.i r3.2] h (fun _=>spec_RiseNode_ok) (fun r12 h=>?_)
 refine Runs.cb 0 63 [.agg [.b r11.fOn,.i r11.fBoss,.i r11.fQuiet,.i r11.fMan.fGen,.i r11.fMan.fSize,.i r11.fMan.fLen,.own 3866630,.i r11.fBld.fHave,.own 3866632,.i r11.fPhase,.own 3866634,.i r11.fDrops],.agg [.b r12.fOn,.i r12.fBoss,.i r12.fQuiet,.i r12.fMan.fGen,.i r12.fMan.fSize,.i r12.fMan.fLen,.own 4063238,.i r12.fBld.fHave,.own 4063240,.i r12.fPhase,.own 4063242,.i r12.fDrops]] h (fun _=>laws_sameNode_ok) (fun r13 h=>?_)
 refine Runs.c2 3 66 h (fun h=>?_) (fun h=>?_)
 ·refine Runs.alln ?_
  exact ⟨_,_,_,h,lo [(851969,2883584),(1049091,3276803)]⟩
 refine Runs.cl false 2 69 [.agg ((Disk.enc r4.1).map .t),.i r4.2] h (fun _=>impl_Lose_ok) (fun r14 h=>?_)
 refine Runs.cl false 2 72 [.agg ((Disk.enc r4.1).map .t),.i r4.2] h (fun _=>spec_Lose_ok) (fun r15 h=>?_)
 refine Runs.cb 0 73 [.agg [.own 4521984,.own 4521985,.i r14.fR.fGen,.i r14.fR.fSlot,.i r14.fR.fLen,.own 4521989],.agg [.own 4718592,.own 4718593,.i r15.fR.fGen,.i r15.fR.fSlot,.i r15.fR.fLen,.own 4718597]] h (fun _=>laws_sameDisk_ok) (fun r16 h=>?_)
 refine Runs.c2 3 76 h (fun h=>?_) (fun h=>?_)
 ·refine Runs.alln ?_
  exact ⟨_,_,_,h,lo [(851969,2883584),(1049091,3276803)]⟩
 refine Runs.cl false 3 80 [.agg ((Node.enc r5.1).map .t),.agg ((Disk.enc r5.2.1).map .t),.agg ((Manifest.enc r5.2.2).map .t)] h (fun _=>impl_Knows_ok) (fun r17 h=>?_)
 refine Runs.cl false 3 84 [.agg ((Node.enc r5.1).map .t),.agg ((Disk.enc r5.2.1).map .t),.agg ((Manifest.enc r5.2.2).map .t)] h (fun _=>spec_Knows_ok) (fun r18 h=>?_)
 refine Runs.c2 3 87 h (fun h=>?_) (fun h=>?_)
 ·refine Runs.alln ?_
  exact ⟨_,_,_,h,lo [(851969,2883584),(1049091,3276803)]⟩
 refine Runs.cl false 2 90 [.agg ((Disk.enc r6.1).map .t),.agg ((Manifest.enc r6.2).map .t)] h (fun _=>impl_Has_ok) (fun r19 h=>?_)
 refine Runs.cl false 2 93 [.agg ((Disk.enc r6.1).map .t),.agg ((Manifest.enc r6.2).map .t)] h (fun _=>spec_Has_ok) (fun r20 h=>?_)
 refine Runs.c2 3 96 h (fun h=>?_) (fun h=>?_)
 ·refine Runs.alln ?_
  exact ⟨_,_,_,h,lo [(851969,2883584),(1049091,3276803)]⟩
 refine Runs.cl false 2 99 [.agg ((Disk.enc r6.1).map .t),.agg ((Manifest.enc r6.2).map .t)] h (fun _=>impl_Behind_ok) (fun r21 h=>?_)
 refine Runs.cl false 2 102 [.agg ((Disk.enc r6.1).map .t),.agg ((Manifest.enc r6.2).map .t)] h (fun _=>spec_Behind_ok) (fun r22 h=>?_)
 refine Runs.alln ?_
 exact ⟨_,_,_,h,lo [(851969,2883584),(1049091,3276803)]⟩
end Go.Tm
