/- The functions as they are translated do what the pure functions say (printed). -/
import Derived.Test.YthdbkkomigbflaaGreatCFnExactUselessAtK1
import Derived.Test.YthdbkkomigbflaaGreatProg
set_option maxRecDepth 100000
set_option maxHeartbeats 20000000
set_option linter.unusedVariables false
set_option linter.unusedSimpArgs false
namespace Go.Tm
open Go.Proofs
theorem DU {u p0 p1 r} (h:xu u p0 p1=some r):ak Tryz.prog 312 [V.i p0,V.i p1] (V.i r) []:=by
 unfold xu at h
 refine b8 Tryz.f312 false ?_
 refine ae<|Wp.seq<|aL false 1 6 [.i p1,.i 1,.i 1000000000000] h (fun _=>bg) fun r1 h=>al h (fun h=>ae<|by cases h;exact Wp.ret aj) fun h=>aC<|aE<|bc 2 kr ?_
 obtain ⟨_,e_2,h⟩:=bind_some h
 refine iM .rem (.int .i64 p0) (.int .i64 p1) (.int .i64 (rt .i64 p0 p1)) rfl kr kr kr kr (OS _ _ _ _ (by simpa using bj e_2))<|bc 3 kr ?_
 obtain ⟨_,e_3,h⟩:=bind_some h
 exact iM .rem (.int .i64 (aX .i64 (rt .i64 p0 p1) p1)) (.int .i64 p1) (.int .i64 (rt .i64 (aX .i64 (rt .i64 p0 p1) p1) p1)) rfl kr kr kr kr (OS _ _ _ _ (by simpa using bj e_3))<|aa<|by cases h;exact Wp.ret aj
theorem TA {u p0 p1 p2 p3 r} (h:An u p0 p1 p2 p3=some r):ak Tryz.prog 309 [V.i p0,V.i p1,V.i p2,V.i p3] (V.i r) []:=by
 unfold An at h
 refine b8 Tryz.f309 false ?_
 exact ae<|Wp.seq<|wF (fun p0 p1 p2 p3 x5=>rN u p0 p1 p2 p3 x5=some r) (fun p0 p1 p2 p3 x5=>⟨[(0,.i p0),(1,.i p1),(2,.i p2),(3,.i p3),(8,.i 0),(28,.b x5)],[],[]⟩) (fun p0 p1 p2 p3 x5 h=>al h (fun h=>ae<|by cases h;exact Wp.ret aj) fun h=>aC<|aL false 1 32 [.i p0] h (fun _=>Hq) fun r6 h=>aL false 6 41 [.i (cu .i64 r6.2 (gR .i64 (rt .i64 p1 251) p2)),.i 251] h (fun _=>DU) fun r7 h=>aL false 5 47 [.i (aX .i64 (cu .i64 r6.1 p2) p3),.i 251] h (fun _=>DU) fun r8 h=>aL false 4 52 [.i (aX .i64 r7 r8),.i 251] h (fun _=>DU) fun r9 h=>by cases h;exact Wp.ret aj)<|aV [] []<|ag false 1 12 [.i p0] h (fun _=>Ji) fun r1 h=>ah 2 14 h (fun h=>aa<|⟨_,_,_,_,_,h,lo []⟩) fun h=>ag false 1 16 [.i p1,.i 1,.i 1000000000000] h (fun _=>bg) fun r2 h=>ah 3 19 h (fun h=>aa<|⟨_,_,_,_,_,h,lo []⟩) fun h=>ag false 1 21 [.i p2,.i 0,.i 255] h (fun _=>bg) fun r3 h=>ah 3 24 h (fun h=>aa<|⟨_,_,_,_,_,h,lo []⟩) fun h=>ag false 1 26 [.i p3,.i 0,.i 255] h (fun _=>bg) fun r4 h=>aa<|⟨_,_,_,_,_,h,lo []⟩
theorem Nk {u p0 p1 r} (h:vM u p0 p1=some r):ak Tryz.prog 307 [.one (.s p0),V.i p1] (.one (.ow 3 1 (r.map (aw .i64)))) []:=by
 unfold vM at h
 refine b8 Tryz.f307 true ?_
 refine ae<|ae<|Wp.seq<|lx (fun p0 p1 x1=>tU u p0 p1 x1=some r) (fun p0 p1 x1=>⟨[(0,.s p0),(1,.i p1),(4,.nil),(5,.own 327681),(16,.b x1)],[],[(327681,.live 3 1 ((([]:List Int)).map (aw .i64)))]⟩) (fun p0 p1 x1 h=>?_) ?_
 ·refine al h (fun h=>ae<|by cases h;exact Wp.ret aj) fun h=>aC<|aE<|bc 2 kr ?_
  obtain ⟨_,e_2,h⟩:=bind_some h
  refine eS (e:=5) (ax:=.s p0) (alo:=none) (ahi:=(some (.i p1))) (aw .u8) p0 1 0 p1 rfl kr kr kr kr kr kr kr kr kr kr kr (bj e_2)<|ag false 0 21 [.t (.sl 1 (((p0.take (Int.toNat p1)).drop (Int.toNat 0)).map (aw .u8)))] h (fun _=>wI) fun r3 h=>aa<|aE<|cg 3 25 3 1 327681 (aw .i64) h fun h=>aa<|kC (fun x17=>tT u x17=some r) (fun x17=>⟨[(4,.nil),(5,.own 327681)],[],[(327681,.live 3 1 (x17.map (aw .i64)))]⟩) (fun x17 h=>ae<|by cases h;exact Wp.ret aj)<|ae<|Wp.block<|Jc (fun kS p0 p1 x8 x9 x10=>gO u kS p0 p1 x8 x9 x10=some r) (fun p0 p1 x8 x9 x10=>⟨[(0,.s p0),(1,.i p1),(4,.nil),(5,.own 327681),(6,.i x9),(7,.i x10)],[],[(327681,.live 3 1 (x8.map (aw .i64)))]⟩) (fun kS p0 p1 x8 x9 x10 h=>?_) h (lo [(327681,1638400)]) (fun _ _ _ _ _  h=>nomatch h)
  rw [gO] at h
  exact Wp.seq<|aE<|ar 2 5 (aw .u8) p0<|aa<|al h (fun h=>aC<|Wp.seq<|Wp.block<|Wp.seq<|aK (jQ []) (bR [(0,.frz),(1,.frz),(6,.frz),(7,.frz),(33,.frz),(34,.frz),(35,.frz),(36,.frz),(37,.frz),(38,.frz),(39,.frz),(40,.frz),(41,.frz),(42,.frz),(43,.frz),(44,.frz),(45,.frz),(46,.frz),(47,.frz)]) kr kr<|aR 6 5 1 (aw .u8) h fun y14 h _=>aR 4 5 1 (aw .u8) h fun y15 h _=>ag false 2 47 [.i x9,.i p1,.i (IntKind.wrap .i64 y14),.i (IntKind.wrap .i64 y15)] h (fun _=>TA) fun r16 h=>aa<|aV [] []<|cg 3 51 3 1 327681 (aw .i64) h fun h=>ab.all kr<|b6<|aO<|aV [] []<|aa<|⟨_,_,_,_,_,h,lo [(327681,3342336)]⟩) fun h=>Wp.exit<|aZ<|aZ<|dj<|aO<|⟨_,h,lo []⟩
 exact aV [] []<|ah 3 11 h (fun h=>aa<|⟨_,_,_,h,lo [(327681,524288)]⟩) fun h=>ar 2 5 (aw .u8) p0<|aa<|⟨_,_,_,h,lo [(327681,524288)]⟩
theorem Nl {u p0 p1 p2 r} (h:vN u p0 p1 p2=some r):ak Tryz.prog 303 [.one (.s p0),cO (aH p1),V.i p2] (V.i r) []:=by
 unfold vN at h
 refine b8 Tryz.f303 false ?_
 refine ae<|Wp.seq<|aL false 1 10 [.i p2,.i 1,.i 6] h (fun _=>bg) fun r1 h=>al h (fun h=>ae<|by cases h;exact Wp.ret aj) fun h=>aC<|aL false 2 14 [.s p0,.i p2] h (fun _=>Nk) fun r2 h=>im (tW u=some r) ⟨[(6,.i 0)],[],[]⟩ (fun h=>ae<|by cases h;exact Wp.ret aj)<|ae<|Wp.block<|Jc (fun gu p0 p2 r2 x4 p1=>eA u gu p0 p2 r2 x4 p1=some r) (fun p0 p2 r2 x4 p1=>⟨[(0,.s p0),(2,.i p2),(4,.obj 4 0),(6,.i 0),(7,.own 458753),(8,.i x4)],[(4,[.i p1.fW,.i p1.fS])],[(458753,.live 3 1 (r2.map (aw .i64)))]⟩) (fun gu p0 p2 r2 x4 p1 h=>?_) h (lo [(458753,917504)]) (fun _ _ _ _ _  h=>nomatch h)
 rw [eA] at h
 refine Wp.seq<|aE<|ar 2 3 (aw .i64) r2<|aa<|al h (fun h=>?_) (fun h=>?_)
 ·refine aC<|Wp.seq<|Wp.block<|Jb (fun p0 p2 r2 x4 x9 p1=>nc u (fun z0 z1 z2 z3 z4=>eA u gu z0 z1 z2 z3 z4) p0 p2 r2 x4 x9 p1=some r) (fun p0 p2 r2 x4 x9 p1=>⟨[(0,.s p0),(2,.i p2),(4,.obj 4 0),(6,.i 0),(7,.own 458753),(8,.i x4),(38,.b x9)],[(4,[.i p1.fW,.i p1.fS])],[(458753,.live 3 1 (r2.map (aw .i64)))]⟩) (fun p0 p2 r2 x4 x9 p1 h=>al h (fun h=>ae<|by cases h;exact Wp.ret aj) fun h=>Wp.skip<|b6<|aO<|aV [] []<|aa<|⟨_,_,_,_,_,h,lo []⟩)<|aK (jQ []) (bR [(0,.frz),(2,.frz),(4,.obj 4),(7,.own 7),(8,.frz),(21,.own 7),(22,.frz),(23,.el 7),(24,.frz),(25,.obj 4),(26,.frz),(27,.frz),(28,.frz),(29,.frz),(30,.frz),(31,.frz),(32,.frz),(33,.frz),(34,.frz),(35,.frz),(36,.frz)]) kr kr<|cI 2 3 1 458753 3 (aw .i64) h fun y6 h e_y6=>iN 0 1 1 458753 0 3 false (aw .i64) ((cq e_y6).2)<|ah 4 28 h (fun h=>?_) (fun h=>?_)
  ·refine bc 5 kr ?_
   obtain ⟨_,e_7,h⟩:=bind_some h
   exact eS (e:=5) (ax:=.s p0) (alo:=(some (.i x4))) (ahi:=(some (.i (aX .i64 x4 p2)))) (aw .u8) p0 1 x4 (aX .i64 x4 p2) rfl kr kr kr kr kr kr kr kr kr kr kr (bj e_7)<|ag false 0 35 [.t (.sl 1 (((p0.take (Int.toNat (aX .i64 x4 p2))).drop (Int.toNat x4)).map (aw .u8)))] h (fun _=>qq) fun r8 h=>aa<|⟨_,_,_,_,_,_,h,lo []⟩
  exact aa<|⟨_,_,_,_,_,_,h,lo []⟩
 exact Wp.exit<|aZ<|aZ<|dj<|aO<|⟨h,lo []⟩
theorem Nm {u p0 p1 p2 r} (h:rO u p0 p1 p2=some r):ak Tryz.prog 289 [.one (.s p0),cO (ai p1),V.i p2] (V.i r) []:=by
 unfold rO at h
 refine b8 Tryz.f289 false ?_
 exact ae<|aL false 5 15 [.i p1.aS,.i p1.aY,.i p2] h (fun _=>mM) fun r1 h=>Wp.seq<|wF (fun p0 p2 r1 x2 p1=>tX u p0 p2 r1 x2 p1=some r) (fun p0 p2 r1 x2 p1=>⟨[(0,.s p0),(2,.i p2),(4,.obj 4 0),(6,.i 0),(8,.i r1.2),(26,.b x2)],[(4,((ai p1).map .t))],[]⟩) (fun p0 p2 r1 x2 p1 h=>al h (fun h=>ae<|by cases h;exact Wp.ret aj) fun h=>aC<|aE<|aR 4 176 2 aH h fun y3 h _=>ag false 2 34 [.s p0,.agg [.i y3.fW,.i y3.fS],.i r1.2] h (fun _=>Nl) fun r4 h=>aa<|by cases h;exact Wp.ret aj)<|aV [] []<|ah 3 20 h (fun h=>aa<|⟨_,_,_,_,_,h,lo []⟩) fun h=>ar 3 176 aH p1.aD<|aa<|⟨_,_,_,_,_,h,lo []⟩
theorem Di {u p0 p1 r} (h:nT u p0 p1=some r):ak Tryz.prog 291 [V.i p0,V.i p1] (V.i r) []:=by
 unfold nT at h
 refine b8 Tryz.f291 false ?_
 refine ae<|Wp.seq<|lx (fun p0 p1 x3=>rP u p0 p1 x3=some r) (fun p0 p1 x3=>⟨[(0,.i p0),(1,.i p1),(4,.i 0),(12,.b x3)],[],[]⟩) (fun p0 p1 x3 h=>?_) ?_
 ·refine al h (fun h=>ae<|by cases h;exact Wp.ret aj) fun h=>aC<|aE<|bc 2 kr ?_
  obtain ⟨_,e_4,h⟩:=bind_some h
  exact iM .shl (.int .i64 1) (.int .i64 p1) (.int .i64 (i4 .i64 1 p1)) rfl kr kr kr kr (B2 _ _ _ _ _ (bj e_4))<|aa<|by cases h;exact Wp.ret aj
 exact aV [] []<|ag false 1 6 [.i p0] h (fun _=>cR) fun r1 h=>ah 2 8 h (fun h=>aa<|⟨_,_,_,h,lo []⟩) fun h=>ag false 1 10 [.i p1,.i 0,.i 39] h (fun _=>bg) fun r2 h=>aa<|⟨_,_,_,h,lo []⟩
theorem GE {u p0 p1 p2 p3 r} (h:ur u p0 p1 p2 p3=some r):ak Tryz.prog 290 [cO (ai p0),.ptr (cw [0,5] (cJ p1)),V.i p2,.one (.s p3)] (V.b r.1) [cw [0,5] (cJ r.2)]:=by
 unfold ur at h
 refine b8 Tryz.f290 false ?_
 refine ae<|Wp.seq<|wF (fun p2 p3 x5 p0 p1=>qg u p2 p3 x5 p0 p1=some r) (fun p2 p3 x5 p0 p1=>⟨[(1,.obj 901 0),(2,.i p2),(3,.s p3),(4,.obj 4 0),(8,.b false),(41,.b x5)],[(4,((ai p0).map .t)),(901,[.i p1.aT,.own 59048449])],[(59048449,.live 5 1 (p1.bh.map (aw .u8)))]⟩) (fun p2 p3 x5 p0 p1 h=>?_) ?_
 ·refine al h (fun h=>ae<|by cases h;exact Wp.ret aj) fun h=>aC<|aL false 5 48 [.i p0.aS,.i p0.aY,.i p2] h (fun _=>mM) fun r6 h=>lx (fun p2 p1 x15=>xR u p2 p1 x15=some r) (fun p2 p1 x15=>⟨[(1,.obj 901 0),(2,.i p2),(8,.b false)],[(901,[.i p1.aT,.own 59048449])],[(59048449,.live 5 1 (x15.map (aw .u8)))]⟩) (fun p2 p1 x15 h=>aL false 6 75 [.i p1.aT,.i p2] h (fun _=>Di) fun r16 h=>ae<|by cases h;exact Wp.ret aj)<|ae<|Wp.block<|Zk (fun nB p2 p3 r6 x9 p1 x10=>qf u nB p2 p3 r6 x9 p1 x10=some r) (fun p2 p3 r6 x9 p1 x10=>⟨[(1,.obj 901 0),(2,.i p2),(3,.s p3),(8,.b false),(9,.i r6.1),(11,.i x9)],[(901,[.i p1.aT,.own 59048449])],[(59048449,.live 5 1 (x10.map (aw .u8)))]⟩) (fun nB p2 p3 r6 x9 p1 x10 h=>?_) h (lo []) (fun _ _ _ _ _ _  h=>nomatch h)
  rw [qf] at h
  exact Wp.seq<|aE<|ar 2 5 (aw .u8) p3<|aa<|al h (fun h=>aC<|Wp.seq<|Wp.block<|aK (jQ []) (bR [(1,.obj 901),(3,.frz),(9,.frz),(11,.frz),(57,.obj 901),(58,.obj 901),(59,.obj 901),(60,.own 901),(61,.frz),(62,.frz),(63,.frz),(64,.frz),(65,.frz),(66,.frz),(67,.frz),(68,.el 901)]) kr kr<|aR 9 5 1 (aw .u8) h fun y13 h _=>cI 1 5 1 59048449 5 (aw .u8) h fun y14 h e_y14=>gm (e:=5) (sz:=1) (m:=1) (aw .u8) x10 59048449 (Int.toNat (aX .i64 r6.1 x9)) 0 y13 (.t (.int .u8 y13)) [.int .u8 y13] rfl kr kr kr kr kr kr kr kr ((cq e_y14).2) kr kr<|ab.all kr<|b6<|aO<|aV [] []<|aa<|⟨_,_,_,_,_,_,h,lo []⟩) fun h=>Wp.exit<|aZ<|aZ<|dj<|aO<|⟨_,_,_,h,lo []⟩
 exact aK (jQ []) (bR [(1,.obj 901),(2,.frz),(3,.frz),(4,.obj 4),(12,.frz),(13,.obj 4),(14,.frz),(15,.frz),(16,.frz),(17,.frz),(18,.frz),(19,.frz),(20,.obj 901),(21,.obj 901),(22,.obj 901),(23,.frz),(24,.frz),(26,.frz),(27,.frz),(28,.frz),(29,.frz),(30,.obj 4),(31,.frz),(32,.frz),(33,.frz),(34,.frz),(36,.frz),(37,.frz),(38,.frz),(39,.frz)]) kr kr<|ar 3 176 aH p0.aD<|ag false 1 17 [.i p2,.i 0,.i (cu .i64 ((p0.aD.length:Int)) 1)] h (fun _=>bg) fun r1 h=>ah 2 19 h (fun h=>aa<|⟨_,_,_,_,_,h,lo [(59048449,59047937)]⟩) fun h=>ag false 5 25 [.i p1.aT,.i p2] h (fun _=>lI) fun r2 h=>ah 2 27 h (fun h=>aa<|⟨_,_,_,_,_,h,lo [(59048449,59047937)]⟩) fun h=>ag false 1 29 [.s p3] h (fun _=>qq) fun r3 h=>aR 3 176 2 aH h fun y4 h _=>ah 4 37 h (fun h=>aa<|⟨_,_,_,_,_,h,lo [(59048449,59047937)]⟩) fun h=>ar 1 5 (aw .u8) p3<|aa<|⟨_,_,_,_,_,h,lo [(59048449,59047937)]⟩
theorem Jj {u p0 p1 r} (h:q5 u p0 p1=some r):ak Tryz.prog 246 [cO (ai p0),.one (.s p1)] (V.w [0,5] (cJ r)) []:=by
 unfold q5 at h
 refine b8 Tryz.f246 true ?_
 refine ae<|aL false 1 11 [.agg ((ai p0).map .t)] h (fun _=>Li) fun r1 h=>Wp.seq<|aL false 1 13 [.agg ((ai p0).map .t)] h (fun _=>nZ) fun r2 h=>al h (fun h=>ae<|by cases h;exact Wp.ret aj) fun h=>aC<|pk (fun x18 x19=>vO u x18 x19=some r) (fun x18 x19=>⟨[(4,.obj 4 0),(5,.obj 5 0)],[(4,[.i 0,.nil]),(5,[.i x18,.own 328193])],[(328193,.live 5 1 (x19.map (aw .u8)))]⟩) (fun x18 x19 h=>ae<|by cases h;exact Wp.ret aj)<|ae<|Wp.block<|Jc (fun eN p1 x6 p0 x7 x8=>gf u eN p1 x6 p0 x7 x8=some r) (fun p1 x6 p0 x7 x8=>⟨[(1,.s p1),(2,.obj 2 0),(4,.obj 4 0),(5,.obj 5 0),(6,.i x6)],[(2,((ai p0).map .t)),(4,[.i 0,.nil]),(5,[.i x7,.own 328193])],[(328193,.live 5 1 (x8.map (aw .u8)))]⟩) (fun eN p1 x6 p0 x7 x8 h=>?_) h (lo [(328193,720897)]) (fun _ _ _ _ _  h=>nomatch h)
 rw [gf] at h
 refine Wp.seq<|aE<|ar 3 176 aH p0.aD<|aa<|al h (fun h=>?_) (fun h=>?_)
 ·refine aC<|wF (fun p1 x6 p0 x16 x17=>kt u (fun z0 z1 z2 z3 z4=>gf u eN z0 z1 z2 z3 z4) p1 x6 p0 x16 x17=some r) (fun p1 x6 p0 x16 x17=>⟨[(1,.s p1),(2,.obj 2 0),(4,.obj 4 0),(5,.obj 5 0),(6,.i x6)],[(2,((ai p0).map .t)),(4,[.i 0,.nil]),(5,[.i x16,.own 328193])],[(328193,.live 5 1 (x17.map (aw .u8)))]⟩) (fun p1 x6 p0 x16 x17 h=>aV [] []<|aa<|⟨_,_,_,_,_,h,lo []⟩)<|Wp.block<|aL false 3 26 [.s p1,.agg ((ai p0).map .t),.i x6] h (fun _=>Nm) fun r12 h=>aL false 5 33 [.i p0.aS,.i p0.aY,.i x6] h (fun _=>mM) fun r13 h=>ae<|al h (fun h=>?_) (fun h=>?_)
  ·refine aK (jQ []) (bR [(1,.frz),(2,.obj 2),(5,.obj 5),(6,.frz),(7,.frz),(9,.frz),(38,.frz),(39,.frz),(40,.frz),(41,.frz),(42,.frz),(43,.frz),(44,.frz),(45,.frz)]) kr kr<|bc 7 kr ?_
   obtain ⟨_,e_14,h⟩:=bind_some h
   exact eS (e:=5) (ax:=.s p1) (alo:=(some (.i r12))) (ahi:=(some (.i (aX .i64 r12 r13.2)))) (aw .u8) p1 1 r12 (aX .i64 r12 r13.2) rfl kr kr kr kr kr kr kr kr kr kr kr (bj e_14)<|ag true 0 46 [.agg ((ai p0).map .t),.obj 5 0,.i x6,.t (.sl 1 (((p1.take (Int.toNat (aX .i64 r12 r13.2))).drop (Int.toNat r12)).map (aw .u8)))] h (fun _=>GE) fun r15 h=>ab.all kr<|b6<|aO<|⟨_,_,_,_,_,h,lo [(328193,3016001)]⟩
  exact Wp.skip<|b6<|aO<|⟨_,_,_,_,_,h,lo []⟩
 exact Wp.exit<|aZ<|aZ<|dj<|aO<|⟨_,_,h,lo []⟩
theorem RT {u p0 p1 r} (h:AQ u p0 p1=some r):ak Tryz.prog 247 [cO (ai p0),.one (.s p1)] (V.b r) []:=by
 unfold AQ at h
 refine b8 Tryz.f247 false ?_
 exact ae<|Wp.seq<|aK (jQ []) (bR [(1,.frz),(2,.obj 2),(5,.frz),(6,.frz),(7,.obj 2),(8,.frz),(9,.frz),(10,.frz),(11,.frz),(12,.obj 2),(13,.frz),(14,.own 14),(15,.obj 2),(16,.frz),(18,.frz)]) kr kr<|ar 1 5 (aw .u8) p1<|ah 4 10 h (fun h=>ag false 3 14 [.s p1,.i p0.aS] h (fun _=>E3) fun r1 h=>eX 2 17 [.own 917504,.t (.sl 2 (p0.aD.map aH))] h (fun _=>A8) fun r2 h=>aa<|by cases h;exact Wp.ret aj) fun h=>aa<|by cases h;exact Wp.ret aj
theorem Nn {u p0 p1 p2 r} (h:vP u p0 p1 p2=some r):ak Tryz.prog 204 [cO (ay p0),cO (aB p1),cO (ai p2)] (V.w [0,0,0,0,0,0,176,0,5,0,149,0] (ay r)) []:=by
 unfold vP at h
 refine b8 Tryz.f204 true ?_
 exact ae<|aL false 1 11 [.agg ((ay p0).map .t)] h (fun _=>gS) fun r1 h=>Wp.seq<|ae<|al h (fun h=>Wp.seq<|aL false 3 18 [.agg ((ai p0.av).map .t),.agg ((ai p2).map .t)] h (fun _=>pR) fun r2 h=>al h (fun h=>aL false 1 21 [.agg ((ay p0).map .t)] h (fun _=>pS) fun r3 h=>by cases h;exact Wp.ret aj) fun h=>aC<|ae<|by cases h;exact Wp.ret aj) fun h=>aC<|Wp.seq<|nO (fun x5 p1 p2 r1=>t1 u x5 p1 p2 r1=some r) (fun x5 p1 p2 r1=>⟨[(4,.obj 4 0),(5,.obj 5 0),(6,.obj 6 0),(7,.obj 7 0),(30,.b x5)],[(4,((aB p1).map .t)),(5,((ai p2).map .t)),(6,[.b false,.i 0,.i 0,.i 0,.i 0,.i 0,.nil,.i 0,.nil,.i 0,.nil,.i 0]),(7,[.b r1.fK,.i r1.bf,.i r1.be,.i r1.av.aP,.i r1.av.aS,.i r1.av.aY,.own 459270,.i r1.a7.aT,.own 459272,.i r1.aJ,.own 459274,.i r1.a8])],[(459270,.live 176 2 (r1.av.aD.map aH)),(459272,.live 5 1 (r1.a7.bh.map (aw .u8))),(459274,.live 149 5 (r1.aN.map aq))]⟩) (fun x5 p1 p2 r1 h=>al h (fun h=>ae<|by cases h;exact Wp.ret aj) fun h=>aC<|aL false 1 34 [.agg ((aB p1).map .t)] h (fun _=>Ej) fun r6 h=>aL false 1 38 [.agg ((ai p2).map .t)] h (fun _=>E6) fun r7 h=>aL false 2 42 [.agg ((ai p2).map .t),.own 2229248] h (fun _=>Jj) fun r8 h=>ae<|nO (fun r1 r7 r8 x11=>tY u r1 r7 r8 x11=some r) (fun r1 r7 r8 x11=>⟨[(6,.obj 6 0),(7,.obj 7 0)],[(6,[.b false,.i 0,.i 0,.i 0,.i 0,.i 0,.nil,.i 0,.nil,.i 0,.nil,.i 0]),(7,[.b r1.fK,.i r1.bf,.i r1.be,.i r7.aP,.i r7.aS,.i r7.aY,.own 459270,.i r8.aT,.own 459272,.i x11,.own 459274,.i r1.a8])],[(459270,.live 176 2 (r7.aD.map aH)),(459272,.live 5 1 (r8.bh.map (aw .u8))),(459274,.live 149 5 (r1.aN.map aq))]⟩) (fun r1 r7 r8 x11 h=>ae<|by cases h;exact Wp.ret aj)<|nO (fun x10 r1 r7 r8=>tZ u x10 r1 r7 r8=some r) (fun x10 r1 r7 r8=>⟨[(6,.obj 6 0),(7,.obj 7 0),(53,.b x10)],[(6,[.b false,.i 0,.i 0,.i 0,.i 0,.i 0,.nil,.i 0,.nil,.i 0,.nil,.i 0]),(7,[.b r1.fK,.i r1.bf,.i r1.be,.i r7.aP,.i r7.aS,.i r7.aY,.own 459270,.i r8.aT,.own 459272,.i 1,.own 459274,.i r1.a8])],[(459270,.live 176 2 (r7.aD.map aH)),(459272,.live 5 1 (r8.bh.map (aw .u8))),(459274,.live 149 5 (r1.aN.map aq))]⟩) (fun x10 r1 r7 r8 h=>al h (fun h=>aV [] []<|aa<|⟨_,_,_,_,h,lo []⟩) fun h=>aC<|⟨_,_,_,_,h,lo []⟩)<|aV [] []<|ah 5 49 h (fun h=>ag false 2 52 [.agg ((ai p2).map .t),.own 2229248] h (fun _=>RT) fun r9 h=>aa<|⟨_,_,_,_,h,lo [(459270,2490371),(459272,2752513)]⟩) fun h=>aa<|⟨_,_,_,_,h,lo [(459270,2490371),(459272,2752513)]⟩)<|aV [] []<|ag false 1 24 [.agg ((ai p2).map .t)] h (fun _=>nZ) fun r4 h=>ah 2 26 h (fun h=>aa<|⟨_,_,_,_,h,lo [(459270,720902),(459272,720904),(459274,720906)]⟩) fun h=>aa<|⟨_,_,_,_,h,lo [(459270,720902),(459272,720904),(459274,720906)]⟩
theorem Lj {u p0 p1 p2 p3 r} (h:s9 u p0 p1 p2 p3=some r):ak Tryz.prog 248 [cO (ai p0),cO (cJ p1),V.i p2,.one (.s p3)] (.tup [V.w [0,5] (cJ r.1),V.b r.2]) []:=by
 unfold s9 at h
 refine b8 Tryz.f248 true ?_
 exact ae<|aL false 1 12 [.agg [.i p1.aT,.s p1.bh]] h (fun _=>E7) fun r1 h=>Wp.seq<|lx (fun x4 x5 x6=>rQ u x4 x5 x6=some r) (fun x4 x5 x6=>⟨[(8,.obj 8 0),(9,.b false),(10,.obj 10 0),(23,.b x4)],[(8,[.i 0,.nil]),(10,[.i x5,.own 655873])],[(655873,.live 5 1 (x6.map (aw .u8)))]⟩) (fun x4 x5 x6 h=>al h (fun h=>ae<|by cases h;exact Wp.ret aj) fun h=>aC<|ae<|by cases h;exact Wp.ret aj)<|aV [] []<|ag false 2 15 [.agg ((ai p0).map .t),.agg [.i p1.aT,.s p1.bh]] h (fun _=>ui) fun r2 h=>ah 2 17 h (fun h=>aa<|⟨_,_,_,h,lo [(655873,786433)]⟩) fun h=>ag true 3 21 [.agg ((ai p0).map .t),.obj 10 0,.i p2,.s p3] h (fun _=>GE) fun r3 h=>aa<|⟨_,_,_,h,lo [(655873,1377921)]⟩
theorem No {u p0 p1 p2 r} (h:vQ u p0 p1 p2=some r):ak Tryz.prog 249 [cO (ay p0),V.i p1,V.i p2] (V.w [0,0,0,0,0,0,176,0,5,0,149,0,118] (tL r)) []:=by
 unfold vQ at h
 refine b8 Tryz.f249 true ?_
 refine ae<|aL false 1 13 [.agg ((ay p0).map .t)] h (fun _=>gS) fun r1 h=>aL false 5 22 [.agg ((ai p0.av).map .t),.agg [.i p0.a7.aT,.s p0.a7.bh],.i p2] h (fun _=>Em) fun r2 h=>lx (fun r1 x24 x25=>t2 u r1 x24 x25=some r) (fun r1 x24 x25=>⟨[(6,.obj 6 0),(7,.obj 7 0)],[(6,[.b false,.i 0,.i 0,.i 0,.i 0,.i 0,.nil,.i 0,.nil,.i 0,.nil,.i 0,.nil]),(7,[.b r1.fK,.i r1.bf,.i r1.be,.i r1.av.aP,.i r1.av.aS,.i r1.av.aY,.own 459270,.i r1.a7.aT,.own 459272,.i r1.aJ,.own 459274,.i r1.a8,.own 459276])],[(459270,.live 176 2 (r1.av.aD.map aH)),(459272,.live 5 1 (r1.a7.bh.map (aw .u8))),(459274,.live 149 5 (x24.map aq)),(459276,.live 118 3 (x25.map aI))]⟩) (fun r1 x24 x25 h=>ae<|by cases h;exact Wp.ret aj)<|ae<|Wp.block<|PD (fun fa p1 p2 r2 x6 p0 r1 x7 x8=>eB u fa p1 p2 r2 x6 p0 r1 x7 x8=some r) (fun p1 p2 r2 x6 p0 r1 x7 x8=>⟨[(1,.i p1),(2,.i p2),(3,.obj 3 0),(6,.obj 6 0),(7,.obj 7 0),(8,.s r2.1),(9,.b r2.2),(10,.i x6)],[(3,((ay p0).map .t)),(6,[.b false,.i 0,.i 0,.i 0,.i 0,.i 0,.nil,.i 0,.nil,.i 0,.nil,.i 0,.nil]),(7,[.b r1.fK,.i r1.bf,.i r1.be,.i r1.av.aP,.i r1.av.aS,.i r1.av.aY,.own 459270,.i r1.a7.aT,.own 459272,.i r1.aJ,.own 459274,.i r1.a8,.own 459276])],[(459270,.live 176 2 (r1.av.aD.map aH)),(459272,.live 5 1 (r1.a7.bh.map (aw .u8))),(459274,.live 149 5 (x7.map aq)),(459276,.live 118 3 (x8.map aI))]⟩) (fun fa p1 p2 r2 x6 p0 r1 x7 x8 h=>?_) h (Le.trans (Le.frz 8 1441792 5 1 (r2.1.map (aw .u8)) kr kr kr) (lo [(459270,851974),(459272,851976),(459274,851978),(459276,917504)])) (fun _ _ _ _ _ _ _ _  h=>nomatch h)
 rw [eB] at h
 exact Wp.seq<|Zj (fun p1 p2 r2 x6 x12 p0 r1 x7 x8=>ng u (fun z0 z1 z2 z3 z4 z5 z6 z7=>eB u fa z0 z1 z2 z3 z4 z5 z6 z7) p1 p2 r2 x6 x12 p0 r1 x7 x8=some r) (fun p1 p2 r2 x6 x12 p0 r1 x7 x8=>⟨[(1,.i p1),(2,.i p2),(3,.obj 3 0),(6,.obj 6 0),(7,.obj 7 0),(8,.s r2.1),(9,.b r2.2),(10,.i x6),(32,.b x12)],[(3,((ay p0).map .t)),(6,[.b false,.i 0,.i 0,.i 0,.i 0,.i 0,.nil,.i 0,.nil,.i 0,.nil,.i 0,.nil]),(7,[.b r1.fK,.i r1.bf,.i r1.be,.i r1.av.aP,.i r1.av.aS,.i r1.av.aY,.own 459270,.i r1.a7.aT,.own 459272,.i r1.aJ,.own 459274,.i r1.a8,.own 459276])],[(459270,.live 176 2 (r1.av.aD.map aH)),(459272,.live 5 1 (r1.a7.bh.map (aw .u8))),(459274,.live 149 5 (x7.map aq)),(459276,.live 118 3 (x8.map aI))]⟩) (fun p1 p2 r2 x6 x12 p0 r1 x7 x8 h=>al h (fun h=>aC<|PC (fun p1 p2 r2 x6 p0 r1 x22 x23=>t6 u (fun z0 z1 z2 z3 z4 z5 z6 z7=>eB u fa z0 z1 z2 z3 z4 z5 z6 z7) p1 p2 r2 x6 p0 r1 x22 x23=some r) (fun p1 p2 r2 x6 p0 r1 x22 x23=>⟨[(1,.i p1),(2,.i p2),(3,.obj 3 0),(6,.obj 6 0),(7,.obj 7 0),(8,.s r2.1),(9,.b r2.2),(10,.i x6)],[(3,((ay p0).map .t)),(6,[.b false,.i 0,.i 0,.i 0,.i 0,.i 0,.nil,.i 0,.nil,.i 0,.nil,.i 0,.nil]),(7,[.b r1.fK,.i r1.bf,.i r1.be,.i r1.av.aP,.i r1.av.aS,.i r1.av.aY,.own 459270,.i r1.a7.aT,.own 459272,.i r1.aJ,.own 459274,.i r1.a8,.own 459276])],[(459270,.live 176 2 (r1.av.aD.map aH)),(459272,.live 5 1 (r1.a7.bh.map (aw .u8))),(459274,.live 149 5 (x22.map aq)),(459276,.live 118 3 (x23.map aI))]⟩) (fun p1 p2 r2 x6 p0 r1 x22 x23 h=>aV [] []<|aa<|⟨_,_,_,_,_,_,_,_,h,lo []⟩)<|Wp.block<|aE<|aR 3 149 5 aq h fun y13 h _=>aa<|Wp.seq<|aK (jQ []) (bR [(2,.frz),(3,.obj 3),(7,.obj 7),(11,.frz),(41,.obj 7),(42,.obj 7),(43,.own 7),(44,.frz),(45,.frz),(46,.frz),(47,.frz),(48,.frz)]) kr kr<|ag false 5 46 [.agg ((ay p0).map .t)] h (fun _=>E8) fun r14 h=>eX 0 47 [.own 459274,.i y13.fb,.i r14] h (fun _=>E9) fun r15 h=>ag false 1 49 [.i r15,.i p2] h (fun _=>lI) fun r16 h=>aa<|al h (fun h=>Wp.seq<|aK (jQ []) (bR [(1,.frz),(2,.frz),(3,.obj 3),(7,.obj 7),(8,.frz),(11,.frz),(50,.obj 7),(51,.own 7),(52,.frz),(53,.frz),(54,.obj 3),(55,.obj 3),(56,.frz),(57,.frz),(58,.frz),(59,.own 59),(60,.own 60),(61,.own 61),(62,.own 62),(63,.obj 7)]) kr kr<|ag false 9 59 [.i p0.av.aP,.i p2,.s r2.1] h (fun _=>Eo) fun r17 h=>ag false 0 60 [.i p1,.i y13.fb,.agg [.i r17.bz,.i r17.aP,.i r17.av.aP,.i r17.av.aS,.i r17.av.aY,.t (.sl 2 (r17.av.aD.map aH)),.i r17.bw,.i r17.bL,.i r17.fI,.own 3866633]] h (fun _=>oS) fun r18 h=>cg (ys:=[r18]) 1 62 118 3 459276 aI h fun h=>aa<|aK (jQ []) (bR [(2,.frz),(7,.obj 7),(11,.frz),(64,.obj 7),(65,.obj 7),(66,.own 7),(67,.frz),(68,.frz),(69,.frz),(70,.own 70),(71,.obj 7),(72,.obj 7)]) kr kr<|ag false 5 69 [.i 0,.i p2] h (fun _=>Di) fun r20 h=>ag false 0 70 [.own 459274,.i y13.fb,.i r20] h (fun _=>Dh) fun r21 h=>ab.all kr<|b6<|aO<|⟨_,_,_,_,_,_,_,_,h,lo [(459274,4587520),(459276,4063232)]⟩) fun h=>Wp.skip<|b6<|aO<|⟨_,_,_,_,_,_,_,_,h,lo []⟩) fun h=>Wp.exit<|aZ<|aZ<|dj<|aO<|⟨_,_,_,h,lo []⟩)<|aV [] []<|ar 3 149 aq p0.aN<|ah 2 30 h (fun h=>aa<|⟨_,_,_,_,_,_,_,_,_,h,lo []⟩) fun h=>aa<|⟨_,_,_,_,_,_,_,_,_,h,lo []⟩
theorem Lk {u p0 p1 p2 r} (h:ta u p0 p1 p2=some r):ak Tryz.prog 205 [cO (ay p0),V.i p1,cO (dA p2)] (V.w [0,0,0,0,0,0,176,0,5,0,149,0,118] (tL r)) []:=by
 unfold ta at h
 refine b8 Tryz.f205 true ?_
 exact ae<|Wp.seq<|nO (fun p1 x1 p0 p2=>rS u p1 x1 p0 p2=some r) (fun p1 x1 p0 p2=>⟨[(1,.i p1),(3,.obj 3 0),(5,.obj 5 0),(6,.obj 6 0),(20,.b x1)],[(3,((ay p0).map .t)),(5,((dA p2).map .t)),(6,[.b false,.i 0,.i 0,.i 0,.i 0,.i 0,.nil,.i 0,.nil,.i 0,.nil,.i 0,.nil])],[]⟩) (fun p1 x1 p0 p2 h=>al h (fun h=>aL false 1 22 [.agg ((ay p0).map .t)] h (fun _=>pS) fun r2 h=>by cases h;exact Wp.ret aj) fun h=>aC<|Wp.seq<|aL false 5 30 [.i p0.a7.aT,.i p2.fI] h (fun _=>lI) fun r3 h=>al h (fun h=>aL false 1 32 [.agg ((ay p0).map .t)] h (fun _=>gS) fun r4 h=>by cases h;exact Wp.ret aj) fun h=>aC<|aL false 8 44 [.agg ((ai p0.av).map .t),.agg [.i p0.a7.aT,.s p0.a7.bh],.i p2.fI,.s p2.fB] h (fun _=>Lj) fun r5 h=>Wp.seq<|ae<|al h (fun h=>aL false 1 50 [.agg ((ay p0).map .t)] h (fun _=>pS) fun r6 h=>by cases h;exact Wp.ret aj) fun h=>aC<|aL false 1 54 [.agg ((ay p0).map .t)] h (fun _=>gS) fun r7 h=>ae<|aL false 4 61 [.agg [.b r7.fK,.i r7.bf,.i r7.be,.i r7.av.aP,.i r7.av.aS,.i r7.av.aY,.own 3538950,.i r5.1.aT,.own 2883585,.i r7.aJ,.own 3538954,.i r7.a8],.i p1,.i p2.fI] h (fun _=>No) fun r8 h=>pj ⟨[(6,.obj 6 0)],[(6,[.b r8.fN.fK,.i r8.fN.bf,.i r8.fN.be,.i r8.fN.av.aP,.i r8.fN.av.aS,.i r8.fN.av.aY,.own 3997702,.i r8.fN.a7.aT,.own 3997704,.i r8.fN.aJ,.own 3997706,.i r8.fN.a8,.own 3997708])],[(3997702,.live 176 2 (r8.fN.av.aD.map aH)),(3997704,.live 5 1 (r8.fN.a7.bh.map (aw .u8))),(3997706,.live 149 5 (r8.fN.aN.map aq)),(3997708,.live 118 3 (r8.sU.map aI))]⟩<|by cases h;exact Wp.ret aj)<|aV [] []<|ah 4 13 h (fun h=>aa<|⟨_,_,_,_,h,lo []⟩) fun h=>aa<|⟨_,_,_,_,h,lo []⟩
theorem Ll {u p0 p1 p2 p3 r} (h:tc u p0 p1 p2 p3=some r):ak Tryz.prog 155 [cO (ay p0),V.i p1,cO (aB p2),cO (dA p3)] (V.w [0,0,0,0,0,0,176,0,5,0,149,0,118] (tL r)) []:=by
 unfold tc at h
 refine b8 Tryz.f155 true ?_
 exact ae<|aL false 1 11 [.agg ((ay p0).map .t)] h (fun _=>gS) fun r1 h=>ae<|Zy (fun x4 x5 x6 x7 x8 x9 x10 x11 x12 x13 x14 x15=>oC u x4 x5 x6 x7 x8 x9 x10 x11 x12 x13 x14 x15=some r) (fun x4 x5 x6 x7 x8 x9 x10 x11 x12 x13 x14 x15=>⟨[(8,.obj 8 0),(9,.obj 9 0)],[(8,[.b false,.i 0,.i 0,.i 0,.i 0,.i 0,.nil,.i 0,.nil,.i 0,.nil,.i 0,.nil]),(9,[.b x4,.i x5,.i x6,.i x7,.i x8,.i x9,.own 590342,.i x11,.own 590344,.i x13,.own 590346,.i x15])],[(590342,.live 176 2 (x10.map aH)),(590344,.live 5 1 (x12.map (aw .u8))),(590346,.live 149 5 (x14.map aq))]⟩) (fun x4 x5 x6 x7 x8 x9 x10 x11 x12 x13 x14 x15 h=>ae<|by cases h;exact Wp.ret aj)<|ae<|Wp.block<|ae<|al h (fun h=>aV [] []<|ag false 4 21 [.agg [.b r1.fK,.i r1.bf,.i 0,.i r1.av.aP,.i r1.av.aS,.i r1.av.aY,.own 720902,.i r1.a7.aT,.own 720904,.i r1.aJ,.own 720906,.i r1.a8],.agg ((aB p2).map .t),.agg ((ai p3.av).map .t)] h (fun _=>Nn) fun r2 h=>ab.all kr<|b6<|aO<|⟨_,_,_,_,_,_,_,_,_,_,_,_,h,lo [(590342,1376262),(590344,1376264),(590346,1376266)]⟩) fun h=>ae<|al h (fun h=>aL false 3 27 [.agg [.b r1.fK,.i r1.bf,.i 0,.i r1.av.aP,.i r1.av.aS,.i r1.av.aY,.own 720902,.i r1.a7.aT,.own 720904,.i r1.aJ,.own 720906,.i r1.a8],.i p1,.agg ((dA p3).map .t)] h (fun _=>Lk) fun r3 h=>by cases h;exact Wp.ret aj) fun h=>ae<|al h (fun h=>aV [] []<|ab.all kr<|b6<|aO<|⟨_,_,_,_,_,_,_,_,_,_,_,_,h,lo [(590342,720902),(590344,720904),(590346,720906)]⟩) fun h=>Wp.skip<|b6<|aO<|⟨_,_,_,_,_,_,_,_,_,_,_,_,h,lo [(590342,720902),(590344,720904),(590346,720906)]⟩
theorem TB {u p0 p1 p2 p3 p4 r} (h:CR u p0 p1 p2 p3 p4=some r):ak Tryz.prog 99 [cO (g9 p0),V.i p1,cO (ay p2),cO (aB p3),cO (aI p4)] (V.w [0,0,0,0,0,0,176,0,5,0,149,0,118] (tL r)) []:=by
 unfold CR at h
 refine b8 Tryz.f99 true ?_
 exact ae<|ae<|Wp.seq<|ae<|al h (fun h=>aL false 1 19 [.agg ((ay p2).map .t)] h (fun _=>gS) fun r1 h=>by cases h;exact Wp.ret aj) fun h=>aC<|aL false 2 25 [.s p4.fB] h (fun _=>P1) fun r2 h=>Wp.seq<|Wp.block<|Jb (fun p1 x4 p2 p3 p4 r2=>vR u p1 x4 p2 p3 p4 r2=some r) (fun p1 x4 p2 p3 p4 r2=>⟨[(1,.i p1),(7,.obj 7 0),(8,.obj 8 0),(9,.obj 9 0),(10,.obj 10 0),(11,.own 720897),(12,.obj 12 0),(28,.b x4)],[(7,((ay p2).map .t)),(8,((aB p3).map .t)),(9,((aI p4).map .t)),(10,[.b false,.i 0,.i 0,.i 0,.i 0,.i 0,.nil,.i 0,.nil,.i 0,.nil,.i 0,.nil]),(12,[.i r2.1.bz,.i r2.1.aP,.i r2.1.av.aP,.i r2.1.av.aS,.i r2.1.av.aY,.own 786949,.i r2.1.bw,.i r2.1.bL,.i r2.1.fI,.own 786953])],[(720897,.live 118 3 ((([]:List au)).map aI)),(786949,.live 176 2 (r2.1.av.aD.map aH)),(786953,.live 5 1 (r2.1.fB.map (aw .u8)))]⟩) (fun p1 x4 p2 p3 p4 r2 h=>al h (fun h=>aL false 1 48 [.agg ((ay p2).map .t)] h (fun _=>pS) fun r5 h=>by cases h;exact Wp.ret aj) fun h=>ae<|al h (fun h=>aL false 5 60 [.agg ((ay p2).map .t),.i p1,.i p4.du,.agg [.i r2.1.bz,.i r2.1.aP,.i r2.1.av.aP,.i r2.1.av.aS,.i r2.1.av.aY,.own 786949,.i r2.1.bw,.i r2.1.bL,.i r2.1.fI,.own 786953]] h (fun _=>Hp) fun r6 h=>by cases h;exact Wp.ret aj) fun h=>ae<|al h (fun h=>aL false 4 71 [.agg ((ay p2).map .t),.i p1,.agg ((aB p3).map .t),.agg [.i r2.1.bz,.i r2.1.aP,.i r2.1.av.aP,.i r2.1.av.aS,.i r2.1.av.aY,.own 786949,.i r2.1.bw,.i r2.1.bL,.i r2.1.fI,.own 786953]] h (fun _=>Ll) fun r7 h=>by cases h;exact Wp.ret aj) fun h=>Wp.skip<|b6<|aO<|aL false 1 73 [.agg ((ay p2).map .t)] h (fun _=>pS) fun r8 h=>by cases h;exact Wp.ret aj)<|aV [] []<|ah 3 31 h (fun h=>aa<|⟨_,_,_,_,_,_,h,lo [(720897,917504),(786949,1638405),(786953,1638409)]⟩) fun h=>ar 4 3 (aw .i64) p0.cy<|ag false 1 38 [.i p4.du,.i 0,.i (cu .i64 ((p0.cy.length:Int)) 1)] h (fun _=>bg) fun r3 h=>ah 3 41 h (fun h=>aa<|⟨_,_,_,_,_,_,h,lo [(720897,917504),(786949,1638405),(786953,1638409)]⟩) fun h=>aa<|⟨_,_,_,_,_,_,h,lo [(720897,917504),(786949,1638405),(786953,1638409)]⟩
theorem Lm {u p0 p1 r} (h:qh u p0 p1=some r):ak Tryz.prog 100 [cO (ay p0),cO (ay p1)] (V.b r) []:=by
 unfold qh at h
 refine b8 Tryz.f100 false ?_
 refine ae<|Wp.seq<|lx (fun x3 p0 p1=>d7 u x3 p0 p1=some r) (fun x3 p0 p1=>⟨[(2,.obj 2 0),(3,.obj 3 0),(4,.b false),(74,.b x3)],[(2,((ay p0).map .t)),(3,((ay p1).map .t))],[]⟩) (fun x3 p0 p1 h=>?_) ?_
 ·refine al h (fun h=>ae<|by cases h;exact Wp.ret aj) fun h=>aC<|im (xv u=some r) ⟨[(4,.b false)],[],[]⟩ (fun h=>ae<|by cases h;exact Wp.ret aj)<|ae<|Wp.block<|ef (fun jG x5 p0 p1=>jr u jG x5 p0 p1=some r) (fun x5 p0 p1=>⟨[(2,.obj 2 0),(3,.obj 3 0),(4,.b false),(5,.i x5)],[(2,((ay p0).map .t)),(3,((ay p1).map .t))],[]⟩) (fun jG x5 p0 p1 h=>?_) h (lo []) (fun _ _ _  h=>nomatch h)
  rw [jr] at h
  exact Wp.seq<|aE<|ar 3 149 aq p0.aN<|aa<|al h (fun h=>aC<|Wp.seq<|Wp.block<|Wp.seq<|aK (jQ []) (bR [(2,.obj 2),(3,.obj 3),(5,.frz),(82,.obj 2),(83,.frz),(84,.frz),(85,.frz),(86,.frz),(87,.obj 3),(88,.frz),(89,.frz),(90,.frz),(91,.frz)]) kr kr<|aR 3 149 5 aq h fun y7 h _=>aR 4 149 5 aq h fun y8 h _=>aa<|al h (fun h=>ae<|by cases h;exact Wp.ret aj) fun h=>Wp.skip<|b6<|aO<|aV [] []<|aa<|⟨_,_,_,h,lo []⟩) fun h=>Wp.exit<|aZ<|aZ<|dj<|aO<|⟨h,lo []⟩
 exact aV [] []<|ah 6 11 h (fun h=>aa<|⟨_,_,_,h,lo []⟩) fun h=>ah 7 18 h (fun h=>aa<|⟨_,_,_,h,lo []⟩) fun h=>ah 7 25 h (fun h=>aa<|⟨_,_,_,h,lo []⟩) fun h=>ag false 4 30 [.agg ((ai p0.av).map .t),.agg ((ai p1.av).map .t)] h (fun _=>pR) fun r1 h=>ah 3 33 h (fun h=>aa<|⟨_,_,_,h,lo []⟩) fun h=>ah 9 42 h (fun h=>aa<|⟨_,_,_,h,lo []⟩) fun h=>ag false 6 49 [.s p0.a7.bh,.s p1.a7.bh] h (fun _=>wL) fun r2 h=>ah 3 52 h (fun h=>aa<|⟨_,_,_,h,lo []⟩) fun h=>ah 7 59 h (fun h=>aa<|⟨_,_,_,h,lo []⟩) fun h=>ar 2 149 aq p0.aN<|ar 2 149 aq p1.aN<|ah 3 68 h (fun h=>aa<|⟨_,_,_,h,lo []⟩) fun h=>aa<|⟨_,_,_,h,lo []⟩
theorem Np {u p0 p1 p2 p3 p4 r} (h:Ac u p0 p1 p2 p3 p4=some r):ak Tryz.prog 55 [cO (g9 p0),V.i p1,cO (ay p2),cO (aB p3),cO (aI p4)] (V.b r) []:=by
 unfold Ac at h
 refine b8 Tryz.f55 false ?_
 exact ae<|aL false 5 17 [.agg [.t (.sl 1 (p0.cy.map (aw .i64)))],.i p1,.agg ((ay p2).map .t),.agg ((aB p3).map .t),.agg ((aI p4).map .t)] h (fun _=>TB) fun r1 h=>ae<|aE<|ar 2 118 aI r1.sU<|ah 2 26 h (fun h=>eX 3 30 [.agg [.b r1.fN.fK,.i r1.fN.bf,.i r1.fN.be,.i r1.fN.av.aP,.i r1.fN.av.aS,.i r1.fN.av.aY,.own 1114118,.i r1.fN.a7.aT,.own 1114120,.i r1.fN.aJ,.own 1114122,.i p2.a8],.agg ((ay p2).map .t)] h (fun _=>Lm) fun r2 h=>aa<|by cases h;exact Wp.ret aj) fun h=>aa<|by cases h;exact Wp.ret aj
theorem Hr {u p0 p1 r} (h:pL u p0 p1=some r):ak Tryz.prog 21 [cO (bN p0),V.i p1] (V.b r) []:=by
 unfold pL at h
 refine b8 Tryz.f21 false ?_
 exact ae<|aE<|aR 3 118 3 aI h fun y1 h _=>aa<|Wp.seq<|aK (jQ []) (bR [(2,.obj 2),(5,.obj 5),(11,.obj 2),(12,.frz),(13,.obj 5),(14,.frz),(15,.obj 2),(16,.frz),(17,.obj 5),(18,.frz),(19,.frz),(20,.frz),(21,.obj 2),(22,.frz),(23,.obj 5),(24,.frz),(25,.frz),(26,.frz),(27,.frz),(28,.frz)]) kr kr<|aR 8 111 12 ay h fun y2 h _=>aR 5 116 6 aB h fun y3 h _=>ag false 2 28 [.agg [.t (.sl 1 (p0.fT.cy.map (aw .i64)))],.i y1.GU,.agg ((ay y2).map .t),.agg ((aB y3).map .t),.agg ((aI y1).map .t)] h (fun _=>Np) fun r4 h=>aa<|by cases h;exact Wp.ret aj
theorem Jk {u p0 p1 r} (h:q6 u p0 p1=some r):ak Tryz.prog 6 [cO (bN p0),V.i p1] (V.b r) []:=by
 unfold q6 at h
 refine b8 Tryz.f6 false ?_
 exact ae<|aE<|ag false 1 6 [.agg ((bN p0).map .t)] h (fun _=>Nf) fun r1 h=>ah 1 7 h (fun h=>ar 3 118 aI p0.eo<|ag false 1 13 [.i p1,.i 0,.i (cu .i64 ((p0.eo.length:Int)) 1)] h (fun _=>bg) fun r2 h=>ah 2 15 h (fun h=>ag false 2 18 [.agg ((bN p0).map .t),.i p1] h (fun _=>Hr) fun r3 h=>aa<|by cases h;exact Wp.ret aj) fun h=>aa<|by cases h;exact Wp.ret aj) fun h=>aa<|by cases h;exact Wp.ret aj
theorem bm {u p0 p1 p2 r} (h:bC u p0 p1 p2=some r):ak Tryz.prog 30 [V.i p0,V.i p1,V.i p2] (V.b r) []:=by
 unfold bC at h
 refine b8 Tryz.f30 false ?_
 exact ae<|aE<|ah 4 10 h (fun h=>aa<|by cases h;exact Wp.ret aj) fun h=>aa<|by cases h;exact Wp.ret aj
theorem P4 {u p0 r} (h:yA u p0=some r):ak Tryz.prog 62 [cO (pE p0)] (V.b r) []:=by
 unfold yA at h
 refine b8 Tryz.f62 false ?_
 exact ae<|aE<|ag false 2 5 [.i p0.aS,.i 2,.i 6] h (fun _=>bm) fun r1 h=>ah 1 6 h (fun h=>ag false 2 9 [.i p0.gA,.i 1,.i 40] h (fun _=>bm) fun r2 h=>ah 2 11 h (fun h=>ag false 2 14 [.i p0.ep,.i 1,.i 5] h (fun _=>bm) fun r3 h=>ah 2 16 h (fun h=>ag false 2 19 [.i p0.ij,.i 2,.i 8] h (fun _=>bm) fun r4 h=>aa<|by cases h;exact Wp.ret aj) fun h=>aa<|by cases h;exact Wp.ret aj) fun h=>aa<|by cases h;exact Wp.ret aj) fun h=>aa<|by cases h;exact Wp.ret aj
theorem Fa {u p0 r} (h:uT u p0=some r):ak Tryz.prog 63 [cO (g9 p0)] (V.b r) []:=by
 unfold uT at h
 refine b8 Tryz.f63 false ?_
 refine ae<|kC (fun p0=>vS u p0=some r) (fun p0=>⟨[(1,.obj 1 0),(2,.b false)],[(1,[.t (.sl 1 (p0.cy.map (aw .i64)))])],[]⟩) (fun p0 h=>aE<|ar 2 3 (aw .i64) p0.cy<|ag false 0 34 [.i ((p0.cy.length:Int)),.i 1,.i 7] h (fun _=>bm) fun r8 h=>aa<|by cases h;exact Wp.ret aj)<|aE<|ar 2 3 (aw .i64) p0.cy<|aa<|Wp.block<|yR (fun ed p0 x2=>fj u ed p0 x2=some r) (fun p0 x2=>⟨[(1,.obj 1 0),(2,.b false),(6,.t (.sl 1 (p0.cy.map (aw .i64)))),(7,.i ((p0.cy.length:Int))),(8,.i x2)],[(1,[.t (.sl 1 (p0.cy.map (aw .i64)))])],[]⟩) (fun ed p0 x2 h=>?_) h (lo []) (fun _ _  h=>nomatch h)
 rw [fj] at h
 exact ae<|Wp.seq<|al h (fun h=>aC<|Wp.seq<|Wp.block<|aE<|aR 1 3 1 (aw .i64) h fun y4 h _=>aa<|lx (fun p0 x2 x7=>eC u (fun z0 z1=>fj u ed z0 z1) p0 x2 x7=some r) (fun p0 x2 x7=>⟨[(1,.obj 1 0),(2,.b false),(6,.t (.sl 1 (p0.cy.map (aw .i64)))),(7,.i ((p0.cy.length:Int))),(8,.i x2),(29,.b x7)],[(1,[.t (.sl 1 (p0.cy.map (aw .i64)))])],[]⟩) (fun p0 x2 x7 h=>al h (fun h=>ae<|by cases h;exact Wp.ret aj) fun h=>Wp.skip<|b6<|aO<|aV [] []<|aa<|⟨_,_,h,lo []⟩)<|aV [] []<|ah 3 15 h (fun h=>ah 4 19 h (fun h=>aa<|⟨_,_,_,h,lo []⟩) fun h=>ah 3 22 h (fun h=>ag false 3 26 [.i y4,.i 0,.i (cu .i64 x2 1)] h (fun _=>bm) fun r5 h=>aa<|⟨_,_,_,h,lo []⟩) fun h=>aa<|⟨_,_,_,h,lo []⟩) fun h=>ah 7 22 h (fun h=>ag false 3 26 [.i y4,.i 0,.i (cu .i64 x2 1)] h (fun _=>bm) fun r6 h=>aa<|⟨_,_,_,h,lo []⟩) fun h=>aa<|⟨_,_,_,h,lo []⟩) fun h=>Wp.exit<|aZ<|aZ<|dj<|aO<|⟨_,h,lo []⟩
theorem wN {u p0 p1 r} (h:pe u p0 p1=some r):ak Tryz.prog 64 [V.i p0,V.i p1] (V.b r) []:=by
 unfold pe at h
 refine b8 Tryz.f64 false ?_
 exact ae<|aE<|ag false 1 6 [.i p0,.i 2,.i 6] h (fun _=>bm) fun r1 h=>ah 1 7 h (fun h=>ag false 3 11 [.i p1,.i 0,.i (gR .i64 40 p0)] h (fun _=>bm) fun r2 h=>aa<|by cases h;exact Wp.ret aj) fun h=>aa<|by cases h;exact Wp.ret aj
theorem Gg {u p0 r} (h:rT u p0=some r):ak Tryz.prog 107 [cO (bd p0)] (V.b r) []:=by
 unfold rT at h
 refine b8 Tryz.f107 false ?_
 exact ae<|aE<|ar 2 5 (aw .u8) p0.fB<|aa<|by cases h;exact Wp.ret aj
theorem i6 {u p0 r} (h:cj u p0=some r):ak Tryz.prog 159 [.one (.t (.sl 1 (p0.map bd))),.clo 107 []] (V.i r) []:=by
 unfold cj at h
 refine b8 Tryz.f159 false ?_
 refine ae<|im (cM u=some r) ⟨[(4,.i 0)],[],[]⟩ (fun h=>ae<|by cases h;exact Wp.ret aj)<|aE<|ar 1 121 bd p0<|aa<|Wp.block<|yR (fun bk p0 x2=>bn u bk p0 x2=some r) (fun p0 x2=>⟨[(0,.t (.sl 1 (p0.map bd))),(1,.clo 107 []),(4,.i 0),(7,.i ((p0.length:Int))),(8,.i x2)],[],[]⟩) (fun bk p0 x2 h=>?_) h (lo []) (fun _ _  h=>nomatch h)
 rw [bn] at h
 exact ae<|Wp.seq<|al h (fun h=>aC<|Wp.seq<|Wp.block<|ae<|aE<|aR 3 121 1 bd h fun y4 h _=>ag false 1 16 [.agg [.s y4.fB]] h (fun _=>Gg) fun r5 h=>aa<|al h (fun h=>ae<|by cases h;exact Wp.ret aj) fun h=>Wp.skip<|b6<|aO<|aV [] []<|aa<|⟨_,_,h,lo []⟩) fun h=>Wp.exit<|aZ<|aZ<|dj<|aO<|⟨h,lo []⟩
theorem ik {u p0 r} (h:cf u p0=some r):ak Tryz.prog 106 [.one (.t (.sl 1 (p0.map bd))),.clo 107 []] (V.b r) []:=by
 unfold cf at h
 refine b8 Tryz.f106 false ?_
 exact ae<|aL false 2 7 [.t (.sl 1 (p0.map bd)),.clo 107 []] h (fun _=>i6) fun r1 h=>by cases h;exact Wp.ret aj
theorem Jl {u p0 p1 r} (h:q7 u p0 p1=some r):ak Tryz.prog 65 [cO (g9 p0),.one (.t (.sl 1 (p1.map bd)))] (V.b r) []:=by
 unfold q7 at h
 refine b8 Tryz.f65 false ?_
 exact ae<|aE<|ar 1 121 bd p1<|ar 2 3 (aw .i64) p0.cy<|ah 2 11 h (fun h=>ag false 1 13 [.t (.sl 1 (p1.map bd)),.clo 107 []] h (fun _=>ik) fun r1 h=>aa<|by cases h;exact Wp.ret aj) fun h=>aa<|by cases h;exact Wp.ret aj
theorem Nq {u p0 p1 r} (h:vT u p0 p1=some r):ak Tryz.prog 250 [V.i p0,V.i p1] (V.i r) []:=by
 unfold vT at h
 refine b8 Tryz.f250 false ?_
 refine ae<|Wp.seq<|lx (fun p0 p1 x3=>t7 u p0 p1 x3=some r) (fun p0 p1 x3=>⟨[(0,.i p0),(1,.i p1),(4,.i 0),(12,.b x3)],[],[]⟩) (fun p0 p1 x3 h=>?_) ?_
 ·refine al h (fun h=>ae<|by cases h;exact Wp.ret aj) fun h=>aC<|aE<|bc 5 kr ?_
  obtain ⟨_,e_4,h⟩:=bind_some h
  exact iM .quo (.int .i64 (cu .i64 (aX .i64 p0 p1) 1)) (.int .i64 p1) (.int .i64 (Vx .i64 (cu .i64 (aX .i64 p0 p1) 1) p1)) rfl kr kr kr kr (WB _ _ _ _ (by simpa using bj e_4))<|aa<|by cases h;exact Wp.ret aj
 exact aV [] []<|ag false 1 6 [.i p0,.i 0,.i 1000000000000] h (fun _=>bm) fun r1 h=>ah 2 8 h (fun h=>aa<|⟨_,_,_,h,lo []⟩) fun h=>ag false 1 10 [.i p1,.i 1,.i 1000000000000] h (fun _=>bm) fun r2 h=>aa<|⟨_,_,_,h,lo []⟩
theorem wO {u p0 p1 r} (h:pf u p0 p1=some r):ak Tryz.prog 207 [V.i p0,V.i p1] (V.i r) []:=by
 unfold pf at h
 refine b8 Tryz.f207 false ?_
 exact ae<|Wp.seq<|aL false 2 7 [.i p0,.i p1] h (fun _=>wN) fun r1 h=>al h (fun h=>ae<|by cases h;exact Wp.ret aj) fun h=>aC<|aL false 2 11 [.i p1,.i p0] h (fun _=>Nq) fun r2 h=>by cases h;exact Wp.ret aj
theorem oT {u p0 p1 p2 r} (h:ja u p0 p1 p2=some r):ak Tryz.prog 251 [V.i p0,V.i p1,V.i p2] (.tup [V.i r.1,V.i r.2]) []:=by
 unfold ja at h
 refine b8 Tryz.f251 false ?_
 exact ae<|Wp.seq<|aE<|ag false 3 11 [.i p0,.i p1] h (fun _=>wO) fun r1 h=>ag false 1 13 [.i p2,.i 0,.i (cu .i64 r1 1)] h (fun _=>bm) fun r2 h=>aa<|al h (fun h=>ae<|by cases h;exact Wp.ret aj) fun h=>aC<|ae<|by cases h;exact Wp.ret aj
theorem gI {u p0 r} (h:gj u p0=some r):ak Tryz.prog 178 [.one (.s p0)] (.one (.ow 5 1 (r.map (aw .u8)))) []:=by
 unfold gj at h
 refine b8 Tryz.f178 true ?_
 refine ae<|aE<|ar 1 5 (aw .u8) p0 ?_
 obtain ⟨_,e_1,h⟩:=bind_some h
 obtain ⟨_,e_2,h⟩:=bind_some h
 exact nN (aw .u8) (0:Int) 5 5 1 1 0 ((p0.length:Int)) rfl rfl kr kr kr kr kr kr (bj e_1) (of_decide_eq_true (bj e_2)) kr<|cg 1 7 5 1 327680 (aw .u8) h fun h=>aa<|by cases h;exact Wp.ret aj
theorem GF {u p0 p1 p2 r} (h:ut u p0 p1 p2=some r):ak Tryz.prog 252 [.one (.s p0),V.i p1,V.i p2] (.tup [.one (.ow 5 1 (r.1.map (aw .u8))),V.b r.2]) []:=by
 unfold ut at h
 refine b8 Tryz.f252 true ?_
 refine ae<|Wp.seq<|nO (fun p0 p1 p2 x3=>td u p0 p1 p2 x3=some r) (fun p0 p1 p2 x3=>⟨[(0,.s p0),(1,.i p1),(2,.i p2),(6,.nil),(7,.b false),(21,.b x3)],[],[]⟩) (fun p0 p1 p2 x3 h=>?_) ?_
 ·refine al h (fun h=>ae<|by cases h;exact Wp.ret aj) fun h=>aC<|aE<|bc 5 kr ?_
  obtain ⟨_,e_4,h⟩:=bind_some h
  exact eS (e:=5) (ax:=.s p0) (alo:=(some (.i p1))) (ahi:=(some (.i (aX .i64 p1 p2)))) (aw .u8) p0 1 p1 (aX .i64 p1 p2) rfl kr kr kr kr kr kr kr kr kr kr kr (bj e_4)<|ag false 0 28 [.t (.sl 1 (((p0.take (Int.toNat (aX .i64 p1 p2))).drop (Int.toNat p1)).map (aw .u8)))] h (fun _=>gI) fun r5 h=>aa<|by cases h;exact Wp.ret aj
 exact aV [] []<|ar 2 5 (aw .u8) p0<|ag false 0 11 [.i p1,.i 0,.i ((p0.length:Int))] h (fun _=>bm) fun r1 h=>ah 2 13 h (fun h=>aa<|⟨_,_,_,_,h,lo []⟩) fun h=>ar 2 5 (aw .u8) p0<|ag false 2 19 [.i p2,.i 0,.i (cu .i64 ((p0.length:Int)) p1)] h (fun _=>bm) fun r2 h=>aa<|⟨_,_,_,_,h,lo []⟩
theorem Nr {u p0 p1 p2 r} (h:rU u p0 p1 p2=some r):ak Tryz.prog 208 [.one (.s p0),V.i p1,V.i p2] (.tup [.one (.ow 5 1 (r.1.map (aw .u8))),V.b r.2]) []:=by
 unfold rU at h
 refine b8 Tryz.f208 true ?_
 exact ae<|aE<|ar 2 5 (aw .u8) p0<|ag false 1 15 [.i p1,.i ((p0.length:Int)),.i p2] h (fun _=>oT) fun r1 h=>aa<|Wp.seq<|ae<|al h (fun h=>ae<|by cases h;exact Wp.ret aj) fun h=>aC<|aL false 3 23 [.s p0,.i r1.1,.i r1.2] h (fun _=>GF) fun r2 h=>by cases h;exact Wp.ret aj
theorem Jm {u p0 p1 r} (h:Ao u p0 p1=some r):ak Tryz.prog 304 [V.i p0,V.i p1] (V.i r) []:=by
 unfold Ao at h
 refine b8 Tryz.f304 false ?_
 refine ae<|Wp.seq<|aL false 1 6 [.i p1,.i 1,.i 1000000000000] h (fun _=>bm) fun r1 h=>al h (fun h=>ae<|by cases h;exact Wp.ret aj) fun h=>aC<|aE<|bc 2 kr ?_
 obtain ⟨_,e_2,h⟩:=bind_some h
 refine iM .rem (.int .i64 p0) (.int .i64 p1) (.int .i64 (rt .i64 p0 p1)) rfl kr kr kr kr (OS _ _ _ _ (by simpa using bj e_2))<|bc 3 kr ?_
 obtain ⟨_,e_3,h⟩:=bind_some h
 exact iM .rem (.int .i64 (aX .i64 (rt .i64 p0 p1) p1)) (.int .i64 p1) (.int .i64 (rt .i64 (aX .i64 (rt .i64 p0 p1) p1) p1)) rfl kr kr kr kr (OS _ _ _ _ (by simpa using bj e_3))<|aa<|by cases h;exact Wp.ret aj
theorem TC {u p0 p1 r} (h:CU u p0 p1=some r):ak Tryz.prog 292 [V.i p0,V.i p1] (V.i r) []:=by
 unfold CU at h
 refine b8 Tryz.f292 false ?_
 exact ae<|aE<|ag false 1 6 [.i p0,.i 251] h (fun _=>Jm) fun r1 h=>ag false 1 8 [.i p1,.i 251] h (fun _=>Jm) fun r2 h=>aa<|by cases h;exact Wp.ret aj
theorem Ba {u p0 r} (h:pg u p0=some r):ak Tryz.prog 253 [.one (.s p0)] (V.i r) []:=by
 unfold pg at h
 refine b8 Tryz.f253 false ?_
 refine ae<|ae<|pk (fun x11 x12=>q8 u x11 x12=some r) (fun x11 x12=>⟨[(2,.i 0),(3,.i x11),(4,.i x12)],[],[]⟩) (fun x11 x12 h=>aL false 2 25 [.i x11,.i x12] h (fun _=>TC) fun r13 h=>by cases h;exact Wp.ret aj)<|aE<|ar 1 5 (aw .u8) p0<|aa<|Wp.block<|GA (fun mb x4 x5 p0 x6=>oD u mb x4 x5 p0 x6=some r) (fun x4 x5 p0 x6=>⟨[(2,.i 0),(3,.i x4),(4,.i x5),(7,.s p0),(8,.i ((p0.length:Int))),(9,.i x6)],[],[]⟩) (fun mb x4 x5 p0 x6 h=>?_) h (lo []) (fun _ _ _ _  h=>nomatch h)
 rw [oD] at h
 exact ae<|Wp.seq<|al h (fun h=>aC<|Wp.seq<|Wp.block<|aE<|aR 0 5 1 (aw .u8) h fun y10 h _=>aa<|ae<|aV [] []<|ab.all kr<|b6<|aO<|aV [] []<|aa<|⟨_,_,_,_,h,lo []⟩) fun h=>Wp.exit<|aZ<|aZ<|dj<|aO<|⟨_,_,h,lo []⟩
theorem tv {u p0 r} (h:kX u p0=some r):ak Tryz.prog 209 [.one (.s p0)] (cO (aH r)) []:=by
 unfold kX at h
 refine b8 Tryz.f209 false ?_
 refine ae<|Wp.seq<|aE<|ar 1 5 (aw .u8) p0<|aa<|al h (fun h=>ae<|by cases h;exact Wp.ret aj) fun h=>aC<|ae<|pk (fun p0 x8=>te u p0 x8=some r) (fun p0 x8=>⟨[(0,.s p0),(2,.obj 2 0),(3,.i x8)],[(2,[.i 0,.i 0])],[]⟩) (fun p0 x8 h=>aL false 1 23 [.s p0] h (fun _=>Ba) fun r9 h=>by cases h;exact Wp.ret aj)<|aE<|ar 1 5 (aw .u8) p0<|aa<|Wp.block<|ef (fun ny p0 x3 x4=>qi u ny p0 x3 x4=some r) (fun p0 x3 x4=>⟨[(0,.s p0),(2,.obj 2 0),(3,.i x3),(10,.s p0),(11,.i ((p0.length:Int))),(12,.i x4)],[(2,[.i 0,.i 0])],[]⟩) (fun ny p0 x3 x4 h=>?_) h (lo []) (fun _ _ _  h=>nomatch h)
 rw [qi] at h
 exact ae<|Wp.seq<|al h (fun h=>aC<|Wp.seq<|Wp.block<|aE<|aR 0 5 1 (aw .u8) h fun y7 h _=>aa<|aV [] []<|ab.all kr<|b6<|aO<|aV [] []<|aa<|⟨_,_,_,h,lo []⟩) fun h=>Wp.exit<|aZ<|aZ<|dj<|aO<|⟨_,_,h,lo []⟩
theorem Fb {u p0 p1 r} (h:uU u p0 p1=some r):ak Tryz.prog 160 [.one (.s p0),V.i p1] (.one (.ow 176 2 (r.map aH))) []:=by
 unfold uU at h
 refine b8 Tryz.f160 true ?_
 refine ae<|ae<|kC (fun x10=>AS u x10=some r) (fun x10=>⟨[(4,.nil),(5,.own 327681)],[],[(327681,.live 176 2 (x10.map aH))]⟩) (fun x10 h=>ae<|by cases h;exact Wp.ret aj)<|aE<|ar 2 5 (aw .u8) p0<|ag false 0 13 [.i p1,.i ((p0.length:Int))] h (fun _=>wO) fun r1 h=>aa<|Wp.block<|Jc (fun ma p0 p1 x4 r1 x5=>oE u ma p0 p1 x4 r1 x5=some r) (fun p0 p1 x4 r1 x5=>⟨[(0,.s p0),(1,.i p1),(4,.nil),(5,.own 327681),(13,.i r1),(14,.i x5)],[],[(327681,.live 176 2 (x4.map aH))]⟩) (fun ma p0 p1 x4 r1 x5 h=>?_) h (lo [(327681,589824)]) (fun _ _ _ _ _  h=>nomatch h)
 rw [oE] at h
 exact ae<|Wp.seq<|al h (fun h=>aC<|Wp.seq<|Wp.block<|ae<|aL false 3 21 [.s p0,.i p1,.i x5] h (fun _=>Nr) fun r8 h=>aV [] []<|eX 2 26 [.own 1376256] h (fun _=>tv) fun r9 h=>cg (ys:=[r9]) 1 28 176 2 327681 aH h fun h=>ab.all kr<|b6<|aO<|aV [] []<|aa<|⟨_,_,_,_,_,h,lo [(327681,1835008)]⟩) fun h=>Wp.exit<|aZ<|aZ<|dj<|aO<|⟨_,h,lo []⟩
theorem RU {u p0 p1 p2 r} (h:AT u p0 p1 p2=some r):ak Tryz.prog 108 [V.i p0,.one (.s p1),V.i p2] (V.w [0,0,0,176] (ai r)) []:=by
 unfold AT at h
 refine b8 Tryz.f108 true ?_
 exact ae<|Wp.seq<|nO (fun p0 p1 p2 x3=>xS u p0 p1 p2 x3=some r) (fun p0 p1 p2 x3=>⟨[(0,.i p0),(1,.s p1),(2,.i p2),(6,.obj 6 0),(16,.b x3)],[(6,[.i 0,.i 0,.i 0,.nil])],[]⟩) (fun p0 p1 p2 x3 h=>al h (fun h=>ae<|by cases h;exact Wp.ret aj) fun h=>aC<|aE<|ar 3 5 (aw .u8) p1<|ag false 2 24 [.s p1,.i p2] h (fun _=>Fb) fun r4 h=>aa<|by cases h;exact Wp.ret aj)<|aV [] []<|ag false 1 8 [.i p0,.i 1,.i 1000000] h (fun _=>bm) fun r1 h=>ah 2 10 h (fun h=>aa<|⟨_,_,_,_,h,lo []⟩) fun h=>ar 2 5 (aw .u8) p1<|ag false 0 14 [.i p2,.i ((p1.length:Int))] h (fun _=>wN) fun r2 h=>aa<|⟨_,_,_,_,h,lo []⟩
theorem RV {u p0 r} (h:AU u p0=some r):ak Tryz.prog 66 [cO (bN p0)] (V.w [0,0,0,176] (ai r)) []:=by
 unfold AU at h
 refine b8 Tryz.f66 true ?_
 exact ae<|aL false 5 8 [.i 1,.s p0.jh,.i p0.fC.aS] h (fun _=>RU) fun r1 h=>by cases h;exact Wp.ret aj
theorem hP {u p0 p1 r} (h:ee u p0 p1=some r):ak Tryz.prog 72 [cO (g9 p0),V.i p1] (V.b r) []:=by
 unfold ee at h
 refine b8 Tryz.f72 false ?_
 exact ae<|aE<|ar 3 3 (aw .i64) p0.cy<|ag false 1 10 [.i p1,.i 0,.i (cu .i64 ((p0.cy.length:Int)) 1)] h (fun _=>bm) fun r1 h=>aa<|by cases h;exact Wp.ret aj
theorem qF {u p0 r} (h:iG u p0=some r):ak Tryz.prog 161 [cO (ai p0)] (V.b r) []:=by
 unfold iG at h
 refine b8 Tryz.f161 false ?_
 exact ae<|aE<|ah 4 6 h (fun h=>ah 5 11 h (fun h=>ah 5 16 h (fun h=>ar 2 176 aH p0.aD<|aa<|by cases h;exact Wp.ret aj) fun h=>aa<|by cases h;exact Wp.ret aj) fun h=>aa<|by cases h;exact Wp.ret aj) fun h=>aa<|by cases h;exact Wp.ret aj
theorem z8 {u p0 r} (h:lR u p0=some r):ak Tryz.prog 162 [cO (cJ p0)] (V.b r) []:=by
 unfold lR at h
 refine b8 Tryz.f162 false ?_
 exact ae<|aE<|ah 4 6 h (fun h=>ar 2 5 (aw .u8) p0.bh<|aa<|by cases h;exact Wp.ret aj) fun h=>aa<|by cases h;exact Wp.ret aj
theorem Hs {u p0 r} (h:t8 u p0=some r):ak Tryz.prog 109 [cO (ay p0)] (V.b r) []:=by
 unfold t8 at h
 refine b8 Tryz.f109 false ?_
 exact ae<|aE<|ah 4 6 h (fun h=>ah 5 11 h (fun h=>ah 5 16 h (fun h=>ag false 2 19 [.agg ((ai p0.av).map .t)] h (fun _=>qF) fun r1 h=>ah 2 21 h (fun h=>ag false 2 24 [.agg [.i p0.a7.aT,.s p0.a7.bh]] h (fun _=>z8) fun r2 h=>ah 2 26 h (fun h=>ah 5 31 h (fun h=>ar 2 149 aq p0.aN<|ah 3 37 h (fun h=>aa<|by cases h;exact Wp.ret aj) fun h=>aa<|by cases h;exact Wp.ret aj) fun h=>aa<|by cases h;exact Wp.ret aj) fun h=>aa<|by cases h;exact Wp.ret aj) fun h=>aa<|by cases h;exact Wp.ret aj) fun h=>aa<|by cases h;exact Wp.ret aj) fun h=>aa<|by cases h;exact Wp.ret aj) fun h=>aa<|by cases h;exact Wp.ret aj
theorem P5 {u p0 p1 r} (h:yB u p0 p1=some r):ak Tryz.prog 164 [cO (g9 p0),V.i p1] (.one (.ow 3 1 (r.map (aw .i64)))) []:=by
 unfold yB at h
 refine b8 Tryz.f164 true ?_
 refine ae<|ae<|kC (fun x11=>vU u x11=some r) (fun x11=>⟨[(4,.nil),(5,.own 327681)],[],[(327681,.live 3 1 (x11.map (aw .i64)))]⟩) (fun x11 h=>ae<|by cases h;exact Wp.ret aj)<|Wp.block<|ef (fun ia x3 x4 p0=>iH u ia x3 x4 p0=some r) (fun x3 x4 p0=>⟨[(1,.i x3),(2,.obj 2 0),(4,.nil),(5,.own 327681)],[(2,[.t (.sl 1 (p0.cy.map (aw .i64)))])],[(327681,.live 3 1 (x4.map (aw .i64)))]⟩) (fun ia x3 x4 p0 h=>?_) h (lo [(327681,393216)]) (fun _ _ _  h=>nomatch h)
 rw [iH] at h
 exact Wp.seq<|nO (fun x3 x4 x8 p0=>q9 u (fun z0 z1 z2=>iH u ia z0 z1 z2) x3 x4 x8 p0=some r) (fun x3 x4 x8 p0=>⟨[(1,.i x3),(2,.obj 2 0),(4,.nil),(5,.own 327681),(17,.b x8)],[(2,[.t (.sl 1 (p0.cy.map (aw .i64)))])],[(327681,.live 3 1 (x4.map (aw .i64)))]⟩) (fun x3 x4 x8 p0 h=>al h (fun h=>aC<|Wp.block<|aE<|cg 3 21 3 1 327681 (aw .i64) h fun h=>aa<|aV [] []<|aR 3 3 1 (aw .i64) h fun y10 h _=>ab.all kr<|b6<|aO<|⟨_,_,_,h,lo [(327681,1376256)]⟩) fun h=>Wp.exit<|aZ<|aZ<|dj<|aO<|⟨_,h,lo []⟩)<|aV [] []<|ag false 2 9 [.agg [.t (.sl 1 (p0.cy.map (aw .i64)))],.i x3] h (fun _=>hP) fun r7 h=>ah 1 10 h (fun h=>ar 1 3 (aw .i64) x4<|ar 2 3 (aw .i64) p0.cy<|aa<|⟨_,_,_,_,h,lo []⟩) fun h=>aa<|⟨_,_,_,_,h,lo []⟩
theorem By {u p0 p1 r} (h:lB u p0 p1=some r):ak Tryz.prog 210 [.one (.t (.sl 1 (p0.map (aw .i64)))),V.i p1] (V.i r) []:=by
 unfold lB at h
 refine b8 Tryz.f210 false ?_
 refine ae<|im (m1 u=some r) ⟨[(4,.i 0)],[],[]⟩ (fun h=>ae<|by cases h;exact Wp.ret aj)<|aE<|ar 1 3 (aw .i64) p0<|aa<|Wp.block<|ef (fun dV p0 p1 x2=>er u dV p0 p1 x2=some r) (fun p0 p1 x2=>⟨[(0,.t (.sl 1 (p0.map (aw .i64)))),(1,.i p1),(4,.i 0),(7,.i ((p0.length:Int))),(8,.i x2)],[],[]⟩) (fun dV p0 p1 x2 h=>?_) h (lo []) (fun _ _ _  h=>nomatch h)
 rw [er] at h
 exact ae<|Wp.seq<|al h (fun h=>aC<|Wp.seq<|Wp.block<|ae<|aE<|aR 3 3 1 (aw .i64) h fun y4 h _=>aa<|al h (fun h=>ae<|by cases h;exact Wp.ret aj) fun h=>Wp.skip<|b6<|aO<|aV [] []<|aa<|⟨_,_,_,h,lo []⟩) fun h=>Wp.exit<|aZ<|aZ<|dj<|aO<|⟨h,lo []⟩
theorem zB {u p0 p1 r} (h:fL u p0 p1=some r):ak Tryz.prog 163 [.one (.t (.sl 1 (p0.map (aw .i64)))),V.i p1] (V.b r) []:=by
 unfold fL at h
 refine b8 Tryz.f163 false ?_
 exact ae<|aL false 2 7 [.t (.sl 1 (p0.map (aw .i64))),.i p1] h (fun _=>By) fun r1 h=>by cases h;exact Wp.ret aj
theorem Dj {u p0 p1 p2 r} (h:qj u p0 p1 p2=some r):ak Tryz.prog 110 [cO (g9 p0),V.i p1,V.i p2] (V.b r) []:=by
 unfold qj at h
 refine b8 Tryz.f110 false ?_
 exact ae<|aE<|ah 4 10 h (fun h=>ag false 2 13 [.agg [.t (.sl 1 (p0.cy.map (aw .i64)))],.i p2] h (fun _=>P5) fun r1 h=>eX 1 15 [.own 851968,.i p1] h (fun _=>zB) fun r2 h=>aa<|by cases h;exact Wp.ret aj) fun h=>aa<|by cases h;exact Wp.ret aj
theorem Ep {u p0 r} (h:nG u p0=some r):ak Tryz.prog 254 [V.i p0] (.tup [.one (.ow 5 1 (r.1.map (aw .u8))),V.b r.2]) []:=by
 unfold nG at h
 refine b8 Tryz.f254 true ?_
 refine ae<|ae<|pk (fun p0 x5=>pM u p0 x5=some r) (fun p0 x5=>⟨[(0,.i p0),(2,.nil),(3,.b false),(4,.i x5)],[],[]⟩) (fun p0 x5 h=>?_) ?_
 ·refine Wp.seq<|lx (fun p0 x5 x6=>ni u p0 x5 x6=some r) (fun p0 x5 x6=>⟨[(0,.i p0),(2,.nil),(3,.b false),(4,.i x5),(26,.b x6)],[],[]⟩) (fun p0 x5 x6 h=>?_) ?_
  ·refine al h (fun h=>ae<|by cases h;exact Wp.ret aj) fun h=>aC<|aE<|bc 1 kr ?_
   obtain ⟨_,e_7,h⟩:=bind_some h
   obtain ⟨_,e_8,h⟩:=bind_some h
   refine nN (aw .u8) (0:Int) 28 5 1 1 x5 x5 rfl rfl kr kr kr kr kr kr (bj e_7) (of_decide_eq_true (bj e_8)) kr<|aa<|kC (fun x17=>zo u x17=some r) (fun x17=>⟨[(2,.nil),(3,.b false),(5,.own 327681)],[],[(327681,.live 5 1 (x17.map (aw .u8)))]⟩) (fun x17 h=>ae<|by cases h;exact Wp.ret aj)<|aE<|ar 1 5 (aw .u8) (List.replicate (Int.toNat x5) (0:Int))<|aa<|Wp.block<|GA (fun kE p0 x5 x11 x12=>nh u kE p0 x5 x11 x12=some r) (fun p0 x5 x11 x12=>⟨[(0,.i p0),(2,.nil),(3,.b false),(4,.i x5),(5,.own 327681),(30,.i (((List.replicate (Int.toNat x5) (0:Int)).length:Int))),(31,.i x12)],[],[(327681,.live 5 1 (x11.map (aw .u8)))]⟩) (fun kE p0 x5 x11 x12 h=>?_) h (lo [(327681,1835008)]) (fun _ _ _ _  h=>nomatch h)
   rw [nh] at h
   refine ae<|Wp.seq<|al h (fun h=>?_) (fun h=>?_)
   ·refine aC<|Wp.seq<|Wp.block<|ae<|aV [] []<|bc 8 kr ?_
    obtain ⟨_,e_15,h⟩:=bind_some h
    exact iM .shr (.int .i64 p0) (.int .i64 (gR .i64 8 (cu .i64 (cu .i64 x5 1) x12))) (.int .i64 (nY .i64 p0 (gR .i64 8 (cu .i64 (cu .i64 x5 1) x12)))) rfl kr kr kr kr (I4 _ _ _ _ _ (bj e_15))<|cI 1 5 1 327681 5 (aw .u8) h fun y16 h e_y16=>gm (e:=5) (sz:=1) (m:=1) (aw .u8) x11 327681 (Int.toNat x12) 0 (IntKind.wrap .u8 (nY .i64 p0 (gR .i64 8 (cu .i64 (cu .i64 x5 1) x12)))) (.t (.int .u8 (IntKind.wrap .u8 (nY .i64 p0 (gR .i64 8 (cu .i64 (cu .i64 x5 1) x12)))))) [.int .u8 (IntKind.wrap .u8 (nY .i64 p0 (gR .i64 8 (cu .i64 (cu .i64 x5 1) x12))))] rfl kr kr kr kr kr kr kr kr ((cq e_y16).2) kr kr<|ab.all kr<|b6<|aO<|aV [] []<|aa<|⟨_,_,_,_,h,lo []⟩
   exact Wp.exit<|aZ<|aZ<|dj<|aO<|⟨_,h,lo []⟩
  refine aV [] []<|ah 3 20 h (fun h=>aa<|⟨_,_,_,h,lo []⟩) fun h=>bc 3 kr ?_
  obtain ⟨_,e_6,h⟩:=bind_some h
  exact iM .shr (.int .i64 p0) (.int .i64 (gR .i64 8 x5)) (.int .i64 (nY .i64 p0 (gR .i64 8 x5))) rfl kr kr kr kr (I4 _ _ _ _ _ (bj e_6))<|aa<|⟨_,_,_,h,lo []⟩
 refine Wp.block<|yR (fun gp p0 x2=>gP u gp p0 x2=some r) (fun p0 x2=>⟨[(0,.i p0),(2,.nil),(3,.b false),(4,.i x2)],[],[]⟩) (fun gp p0 x2 h=>?_) h (lo []) (fun _ _  h=>nomatch h)
 rw [gP] at h
 refine Wp.seq<|lx (fun p0 x2 x4=>pN u (fun z0 z1=>gP u gp z0 z1) p0 x2 x4=some r) (fun p0 x2 x4=>⟨[(0,.i p0),(2,.nil),(3,.b false),(4,.i x2),(15,.b x4)],[],[]⟩) (fun p0 x2 x4 h=>al h (fun h=>aC<|Wp.block<|aV [] []<|ab.all kr<|b6<|aO<|⟨_,_,h,lo []⟩) fun h=>Wp.exit<|aZ<|aZ<|dj<|aO<|⟨_,_,h,lo []⟩)<|aV [] []<|ah 3 9 h (fun h=>?_) (fun h=>?_)
 ·refine bc 3 kr ?_
  obtain ⟨_,e_4,h⟩:=bind_some h
  exact iM .shr (.int .i64 p0) (.int .i64 (gR .i64 8 x2)) (.int .i64 (nY .i64 p0 (gR .i64 8 x2))) rfl kr kr kr kr (I4 _ _ _ _ _ (bj e_4))<|aa<|⟨_,_,_,h,lo []⟩
 exact aa<|⟨_,_,_,h,lo []⟩
theorem n4 {u p0 r} (h:mF u p0=some r):ak Tryz.prog 211 [cO (ai p0)] (V.b r) []:=by
 unfold mF at h
 refine b8 Tryz.f211 false ?_
 refine ae<|Wp.seq<|aL false 1 10 [.agg ((ai p0).map .t)] h (fun _=>qF) fun r1 h=>al h (fun h=>ae<|by cases h;exact Wp.ret aj) fun h=>aC<|Wp.seq<|pk (fun x5 p0=>tg u x5 p0=some r) (fun x5 p0=>⟨[(1,.obj 1 0),(2,.b false),(33,.b x5)],[(1,((ai p0).map .t))],[]⟩) (fun x5 p0 h=>?_) ?_
 ·refine al h (fun h=>ae<|by cases h;exact Wp.ret aj) fun h=>aC<|im (Ci u=some r) ⟨[(2,.b false)],[],[]⟩ (fun h=>ae<|by cases h;exact Wp.ret aj)<|aE<|ar 2 176 aH p0.aD<|aa<|Wp.block<|yR (fun gW p0 x7=>jN u gW p0 x7=some r) (fun p0 x7=>⟨[(1,.obj 1 0),(2,.b false),(35,.t (.sl 2 (p0.aD.map aH))),(36,.i ((p0.aD.length:Int))),(37,.i x7)],[(1,((ai p0).map .t))],[]⟩) (fun gW p0 x7 h=>?_) h (lo []) (fun _ _  h=>nomatch h)
  rw [jN] at h
  exact ae<|Wp.seq<|al h (fun h=>aC<|Wp.seq<|Wp.block<|aE<|aR 1 176 2 aH h fun y9 h _=>aa<|aL false 2 45 [.i y9.fS] h (fun _=>Ep) fun r10 h=>aL false 5 54 [.i p0.aS,.i p0.aY,.i x7] h (fun _=>oT) fun r11 h=>lx (fun p0 x7 x13=>lF u (fun z0 z1=>jN u gW z0 z1) p0 x7 x13=some r) (fun p0 x7 x13=>⟨[(1,.obj 1 0),(2,.b false),(35,.t (.sl 2 (p0.aD.map aH))),(36,.i ((p0.aD.length:Int))),(37,.i x7),(71,.b x13)],[(1,((ai p0).map .t))],[]⟩) (fun p0 x7 x13 h=>al h (fun h=>ae<|by cases h;exact Wp.ret aj) fun h=>Wp.skip<|b6<|aO<|aV [] []<|aa<|⟨_,_,h,lo []⟩)<|aK (jQ []) (bR [(4,.obj 4),(5,.own 45),(6,.frz),(8,.frz),(57,.frz),(58,.frz),(59,.frz),(60,.own 45),(61,.frz),(62,.frz),(64,.frz),(65,.frz),(66,.own 45),(67,.frz),(68,.obj 4),(69,.frz)]) kr kr<|ah 3 59 h (fun h=>aa<|⟨_,_,_,h,lo []⟩) fun h=>ar 1 5 (aw .u8) r10.1<|ah 4 65 h (fun h=>aa<|⟨_,_,_,h,lo []⟩) fun h=>eX 1 67 [.own 2949120] h (fun _=>Ba) fun r12 h=>aa<|⟨_,_,_,h,lo []⟩) fun h=>Wp.exit<|aZ<|aZ<|dj<|aO<|⟨h,lo []⟩
 exact aK (jQ []) (bR [(1,.obj 1),(11,.obj 1),(12,.frz),(13,.frz),(14,.frz),(15,.frz),(16,.obj 1),(17,.frz),(18,.obj 1),(19,.frz),(20,.frz),(22,.frz),(23,.frz),(24,.obj 1),(25,.frz),(26,.frz),(27,.obj 1),(28,.frz),(29,.obj 1),(30,.frz),(31,.frz)]) kr kr<|ag false 2 13 [.i p0.aP,.i 1,.i 1000000] h (fun _=>bm) fun r2 h=>ah 2 15 h (fun h=>aa<|⟨_,_,h,lo []⟩) fun h=>ag false 4 20 [.i p0.aS,.i p0.aY] h (fun _=>wN) fun r3 h=>ah 3 23 h (fun h=>aa<|⟨_,_,h,lo []⟩) fun h=>ar 2 176 aH p0.aD<|ag false 4 31 [.i p0.aS,.i p0.aY] h (fun _=>wO) fun r4 h=>aa<|⟨_,_,h,lo []⟩
theorem dz {u p0 r} (h:dr u p0=some r):ak Tryz.prog 168 [V.i p0] (V.b r) []:=by
 unfold dr at h
 refine b8 Tryz.f168 false ?_
 exact ae<|aL false 1 4 [.i p0,.i 0,.i 1099511627775] h (fun _=>bm) fun r1 h=>by cases h;exact Wp.ret aj
theorem Ns {u p0 r} (h:rV u p0=some r):ak Tryz.prog 255 [V.i p0] (V.i r) []:=by
 unfold rV at h
 refine b8 Tryz.f255 false ?_
 refine ae<|Wp.seq<|aL false 1 4 [.i p0,.i 0,.i 40] h (fun _=>bm) fun r1 h=>al h (fun h=>ae<|by cases h;exact Wp.ret aj) fun h=>aC<|aE<|bc 1 kr ?_
 obtain ⟨_,e_2,h⟩:=bind_some h
 exact iM .shl (.int .i64 1) (.int .i64 p0) (.int .i64 (i4 .i64 1 p0)) rfl kr kr kr kr (B2 _ _ _ _ _ (bj e_2))<|aa<|by cases h;exact Wp.ret aj
theorem Dk {u p0 r} (h:qk u p0=some r):ak Tryz.prog 212 [cO (ai p0)] (V.i r) []:=by
 unfold qk at h
 refine b8 Tryz.f212 false ?_
 exact ae<|aE<|ar 2 176 aH p0.aD<|ag false 0 6 [.i ((p0.aD.length:Int))] h (fun _=>Ns) fun r1 h=>aa<|by cases h;exact Wp.ret aj
theorem yS {u p0 p1 p2 r} (h:iI u p0 p1 p2=some r):ak Tryz.prog 213 [cO (cJ p0),cO (ai p1),V.i p2] (.one (.s r)) []:=by
 unfold iI at h
 refine b8 Tryz.f213 false ?_
 refine ae<|aL false 5 15 [.i p1.aS,.i p1.aY,.i p2] h (fun _=>oT) fun r1 h=>aE<|bc 6 kr ?_
 obtain ⟨_,e_2,h⟩:=bind_some h
 exact eS (e:=5) (ax:=.s p0.bh) (alo:=(some (.i r1.1))) (ahi:=(some (.i (aX .i64 r1.1 r1.2)))) (aw .u8) p0.bh 1 r1.1 (aX .i64 r1.1 r1.2) rfl kr kr kr kr kr kr kr kr kr kr kr (bj e_2)<|aa<|by cases h;exact Wp.ret aj
theorem Er {u p0 r} (h:pv u p0=some r):ak Tryz.prog 256 [V.i p0] (V.b r) []:=by
 unfold pv at h
 refine b8 Tryz.f256 false ?_
 exact ae<|aL false 1 4 [.i p0,.i 0,.i 39] h (fun _=>bm) fun r1 h=>by cases h;exact Wp.ret aj
theorem lJ {u p0 p1 r} (h:fk u p0 p1=some r):ak Tryz.prog 214 [V.i p0,V.i p1] (V.b r) []:=by
 unfold fk at h
 refine b8 Tryz.f214 false ?_
 refine ae<|aE<|ag false 1 6 [.i p0] h (fun _=>dz) fun r1 h=>ah 1 7 h (fun h=>?_) (fun h=>?_)
 ·refine ag false 1 9 [.i p1] h (fun _=>Er) fun r2 h=>ah 2 11 h (fun h=>?_) (fun h=>?_)
  ·refine bc 2 kr ?_
   obtain ⟨_,e_3,h⟩:=bind_some h
   exact iM .shr (.int .i64 p0) (.int .i64 p1) (.int .i64 (nY .i64 p0 p1)) rfl kr kr kr kr (I4 _ _ _ _ _ (bj e_3))<|aa<|by cases h;exact Wp.ret aj
  exact aa<|by cases h;exact Wp.ret aj
 exact aa<|by cases h;exact Wp.ret aj
theorem Jn {u p0 r} (h:vV u p0=some r):ak Tryz.prog 216 [.one (.t (.int .u8 p0))] (V.b r) []:=by
 unfold vV at h
 refine b8 Tryz.f216 false ?_
 exact ae<|ae<|by cases h;exact Wp.ret aj
theorem nP {u p0 r} (h:c9 u p0=some r):ak Tryz.prog 257 [.one (.s p0),.clo 216 []] (V.i r) []:=by
 unfold c9 at h
 refine b8 Tryz.f257 false ?_
 refine ae<|im (dH u=some r) ⟨[(4,.i 0)],[],[]⟩ (fun h=>ae<|by cases h;exact Wp.ret aj)<|aE<|ar 1 5 (aw .u8) p0<|aa<|Wp.block<|yR (fun bV p0 x2=>bY u bV p0 x2=some r) (fun p0 x2=>⟨[(0,.s p0),(1,.clo 216 []),(4,.i 0),(7,.i ((p0.length:Int))),(8,.i x2)],[],[]⟩) (fun bV p0 x2 h=>?_) h (lo []) (fun _ _  h=>nomatch h)
 rw [bY] at h
 exact ae<|Wp.seq<|al h (fun h=>aC<|Wp.seq<|Wp.block<|ae<|aE<|aR 3 5 1 (aw .u8) h fun y4 h _=>ag false 1 16 [.t (.int .u8 y4)] h (fun _=>Jn) fun r5 h=>aa<|al h (fun h=>ae<|by cases h;exact Wp.ret aj) fun h=>Wp.skip<|b6<|aO<|aV [] []<|aa<|⟨_,_,h,lo []⟩) fun h=>Wp.exit<|aZ<|aZ<|dj<|aO<|⟨h,lo []⟩
theorem fq {u p0 r} (h:bq u p0=some r):ak Tryz.prog 215 [.one (.s p0),.clo 216 []] (V.b r) []:=by
 unfold bq at h
 refine b8 Tryz.f215 false ?_
 exact ae<|aL false 2 7 [.s p0,.clo 216 []] h (fun _=>nP) fun r1 h=>by cases h;exact Wp.ret aj
theorem zC {u p0 p1 r} (h:pw u p0 p1=some r):ak Tryz.prog 165 [cO (ai p0),cO (cJ p1)] (V.b r) []:=by
 unfold pw at h
 refine b8 Tryz.f165 false ?_
 refine ae<|Wp.seq<|lx (fun x4 p0 p1=>nj u x4 p0 p1=some r) (fun x4 p0 p1=>⟨[(2,.obj 2 0),(3,.obj 3 0),(4,.b false),(32,.b x4)],[(2,((ai p0).map .t)),(3,[.i p1.aT,.s p1.bh])],[]⟩) (fun x4 p0 p1 h=>?_) ?_
 ·refine al h (fun h=>ae<|by cases h;exact Wp.ret aj) fun h=>aC<|im (zq u=some r) ⟨[(4,.b false)],[],[]⟩ (fun h=>ae<|by cases h;exact Wp.ret aj)<|aE<|ar 2 176 aH p0.aD<|aa<|Wp.block<|ef (fun dO p0 x6 p1=>eD u dO p0 x6 p1=some r) (fun p0 x6 p1=>⟨[(2,.obj 2 0),(3,.obj 3 0),(4,.b false),(34,.t (.sl 2 (p0.aD.map aH))),(35,.i ((p0.aD.length:Int))),(36,.i x6)],[(2,((ai p0).map .t)),(3,[.i p1.aT,.s p1.bh])],[]⟩) (fun dO p0 x6 p1 h=>?_) h (lo []) (fun _ _ _  h=>nomatch h)
  rw [eD] at h
  exact ae<|Wp.seq<|al h (fun h=>aC<|Wp.seq<|Wp.block<|aE<|aR 1 176 2 aH h fun y8 h _=>aa<|aL false 3 44 [.agg [.i p1.aT,.s p1.bh],.agg ((ai p0).map .t),.i x6] h (fun _=>yS) fun r9 h=>nO (fun p0 x6 x16 p1=>d5 u (fun z0 z1 z2=>eD u dO z0 z1 z2) p0 x6 x16 p1=some r) (fun p0 x6 x16 p1=>⟨[(2,.obj 2 0),(3,.obj 3 0),(4,.b false),(34,.t (.sl 2 (p0.aD.map aH))),(35,.i ((p0.aD.length:Int))),(36,.i x6),(65,.b x16)],[(2,((ai p0).map .t)),(3,[.i p1.aT,.s p1.bh])],[]⟩) (fun p0 x6 x16 p1 h=>al h (fun h=>ae<|by cases h;exact Wp.ret aj) fun h=>Wp.skip<|b6<|aO<|aV [] []<|aa<|⟨_,_,_,h,lo []⟩)<|aK (jQ []) (bR [(3,.obj 3),(5,.frz),(6,.obj 6),(7,.frz),(45,.obj 3),(46,.frz),(47,.frz),(48,.frz),(49,.frz),(50,.frz),(51,.frz),(52,.frz),(54,.frz),(55,.frz),(56,.obj 3),(57,.frz),(58,.frz),(59,.frz),(60,.frz),(61,.frz),(62,.frz)]) kr kr<|ag false 3 48 [.i p1.aT,.i x6] h (fun _=>lJ) fun r10 h=>ah 1 49 h (fun h=>ag false 1 51 [.s r9] h (fun _=>tv) fun r11 h=>ah 4 55 h (fun h=>aa<|⟨_,_,_,_,h,lo []⟩) fun h=>ag false 3 59 [.i p1.aT,.i x6] h (fun _=>lJ) fun r12 h=>ah 2 61 h (fun h=>ag false 1 63 [.s r9,.clo 216 []] h (fun _=>fq) fun r13 h=>aa<|⟨_,_,_,_,h,lo []⟩) fun h=>aa<|⟨_,_,_,_,h,lo []⟩) fun h=>ag false 9 59 [.i p1.aT,.i x6] h (fun _=>lJ) fun r14 h=>ah 2 61 h (fun h=>ag false 1 63 [.s r9,.clo 216 []] h (fun _=>fq) fun r15 h=>aa<|⟨_,_,_,_,h,lo []⟩) fun h=>aa<|⟨_,_,_,_,h,lo []⟩) fun h=>Wp.exit<|aZ<|aZ<|dj<|aO<|⟨h,lo []⟩
 exact aK (jQ []) (bR [(2,.obj 2),(3,.obj 3),(8,.frz),(9,.frz),(10,.frz),(11,.frz),(12,.obj 3),(13,.frz),(14,.frz),(16,.frz),(17,.frz),(18,.obj 3),(19,.frz),(20,.frz),(21,.frz),(22,.frz),(24,.frz),(25,.frz),(26,.obj 3),(27,.frz),(28,.frz),(29,.obj 2),(30,.frz)]) kr kr<|ag false 1 9 [.agg ((ai p0).map .t)] h (fun _=>n4) fun r1 h=>ah 2 11 h (fun h=>aa<|⟨_,_,_,h,lo []⟩) fun h=>ag false 2 14 [.i p1.aT] h (fun _=>dz) fun r2 h=>ah 3 17 h (fun h=>aa<|⟨_,_,_,h,lo []⟩) fun h=>ag false 3 21 [.agg ((ai p0).map .t)] h (fun _=>Dk) fun r3 h=>ah 4 25 h (fun h=>aa<|⟨_,_,_,h,lo []⟩) fun h=>ar 2 5 (aw .u8) p1.bh<|aa<|⟨_,_,_,h,lo []⟩
theorem Nt {u p0 p1 r} (h:vW u p0 p1=some r):ak Tryz.prog 217 [V.i p0,V.i p1] (V.i r) []:=by
 unfold vW at h
 refine b8 Tryz.f217 false ?_
 exact ae<|Wp.seq<|lx (fun p0 p1 x3=>t9 u p0 p1 x3=some r) (fun p0 p1 x3=>⟨[(0,.i p0),(1,.i p1),(4,.i 0),(12,.b x3)],[],[]⟩) (fun p0 p1 x3 h=>al h (fun h=>ae<|by cases h;exact Wp.ret aj) fun h=>aC<|ae<|by cases h;exact Wp.ret aj)<|aV [] []<|ag false 1 6 [.i p0] h (fun _=>dz) fun r1 h=>ah 2 8 h (fun h=>aa<|⟨_,_,_,h,lo []⟩) fun h=>ag false 1 10 [.i p1] h (fun _=>dz) fun r2 h=>aa<|⟨_,_,_,h,lo []⟩
theorem Nu {u p0 p1 r} (h:vX u p0 p1=some r):ak Tryz.prog 166 [cO (ai p0),cO (cJ p1)] (V.i r) []:=by
 unfold vX at h
 refine b8 Tryz.f166 false ?_
 exact ae<|Wp.seq<|aK (jQ []) (bR [(2,.obj 2),(3,.obj 3),(5,.frz),(6,.frz),(7,.obj 3),(8,.frz),(9,.frz)]) kr kr<|ag false 1 6 [.agg ((ai p0).map .t)] h (fun _=>Dk) fun r1 h=>ag false 2 9 [.i r1,.i p1.aT] h (fun _=>Nt) fun r2 h=>aa<|by cases h;exact Wp.ret aj
theorem EI {u p0 r} (h:mG u p0=some r):ak Tryz.prog 111 [cO (ay p0)] (V.b r) []:=by
 unfold mG at h
 refine b8 Tryz.f111 false ?_
 exact ae<|Wp.seq<|Wp.block<|ae<|al h (fun h=>aE<|ag false 2 9 [.agg ((ai p0.av).map .t)] h (fun _=>qF) fun r1 h=>ah 1 10 h (fun h=>ag false 2 13 [.agg [.i p0.a7.aT,.s p0.a7.bh]] h (fun _=>z8) fun r2 h=>aa<|by cases h;exact Wp.ret aj) fun h=>aa<|by cases h;exact Wp.ret aj) fun h=>pk (fun x4 p0=>mS u x4 p0=some r) (fun x4 p0=>⟨[(1,.obj 1 0),(2,.b false),(15,.b x4)],[(1,((ay p0).map .t))],[]⟩) (fun x4 p0 h=>al h (fun h=>ae<|by cases h;exact Wp.ret aj) fun h=>Wp.skip<|b6<|aO<|aE<|ah 4 31 h (fun h=>aa<|by cases h;exact Wp.ret aj) fun h=>ag false 4 36 [.agg ((ai p0.av).map .t),.agg [.i p0.a7.aT,.s p0.a7.bh]] h (fun _=>Nu) fun r5 h=>aa<|by cases h;exact Wp.ret aj)<|aV [] []<|ah 5 20 h (fun h=>aa<|⟨_,_,h,lo []⟩) fun h=>ag false 4 25 [.agg ((ai p0.av).map .t),.agg [.i p0.a7.aT,.s p0.a7.bh]] h (fun _=>zC) fun r3 h=>aa<|⟨_,_,h,lo []⟩
theorem Jo {u p0 r} (h:xy u p0=some r):ak Tryz.prog 167 [V.i p0] (V.b r) []:=by
 unfold xy at h
 refine b8 Tryz.f167 false ?_
 exact ae<|aL false 1 4 [.i p0,.i 0,.i 6] h (fun _=>bm) fun r1 h=>by cases h;exact Wp.ret aj
theorem P6 {u p0 r} (h:yC u p0=some r):ak Tryz.prog 112 [.one (.t (.sl 5 (p0.map aq)))] (V.b r) []:=by
 unfold yC at h
 refine b8 Tryz.f112 false ?_
 refine ae<|im (AV u=some r) ⟨[(2,.b false)],[],[]⟩ (fun h=>ae<|by cases h;exact Wp.ret aj)<|aE<|ar 1 149 aq p0<|aa<|Wp.block<|yR (fun dp p0 x2=>d8 u dp p0 x2=some r) (fun p0 x2=>⟨[(0,.t (.sl 5 (p0.map aq))),(2,.b false),(5,.t (.sl 5 (p0.map aq))),(6,.i ((p0.length:Int))),(7,.i x2)],[],[]⟩) (fun dp p0 x2 h=>?_) h (lo []) (fun _ _  h=>nomatch h)
 rw [d8] at h
 exact ae<|Wp.seq<|al h (fun h=>aC<|Wp.seq<|Wp.block<|aE<|aR 1 149 5 aq h fun y4 h _=>aa<|lx (fun p0 x2 x10=>dg u (fun z0 z1=>d8 u dp z0 z1) p0 x2 x10=some r) (fun p0 x2 x10=>⟨[(0,.t (.sl 5 (p0.map aq))),(2,.b false),(5,.t (.sl 5 (p0.map aq))),(6,.i ((p0.length:Int))),(7,.i x2),(53,.b x10)],[],[]⟩) (fun p0 x2 x10 h=>al h (fun h=>ae<|by cases h;exact Wp.ret aj) fun h=>Wp.skip<|b6<|aO<|aV [] []<|aa<|⟨_,_,h,lo []⟩)<|aK (jQ []) (bR [(0,.frz),(3,.frz),(4,.obj 4),(12,.obj 4),(13,.frz),(14,.frz),(15,.frz),(16,.frz),(17,.obj 4),(18,.frz),(19,.frz),(21,.frz),(22,.frz),(23,.obj 4),(24,.frz),(25,.frz),(27,.frz),(28,.frz),(29,.obj 4),(30,.frz),(32,.frz),(33,.frz),(34,.obj 4),(35,.frz),(36,.frz),(38,.frz),(39,.frz),(40,.frz),(41,.frz),(42,.frz),(43,.obj 4),(44,.frz),(45,.frz),(46,.frz),(47,.frz),(48,.frz),(49,.frz),(50,.frz)]) kr kr<|ag false 2 14 [.i y4.fb] h (fun _=>Jo) fun r5 h=>ah 2 16 h (fun h=>aa<|⟨_,_,_,h,lo []⟩) fun h=>ag false 2 19 [.i y4.bw] h (fun _=>dz) fun r6 h=>ah 3 22 h (fun h=>aa<|⟨_,_,_,h,lo []⟩) fun h=>ag false 2 25 [.i y4.bL] h (fun _=>dz) fun r7 h=>ah 3 28 h (fun h=>aa<|⟨_,_,_,h,lo []⟩) fun h=>ah 5 33 h (fun h=>aa<|⟨_,_,_,h,lo []⟩) fun h=>ag false 2 36 [.i y4.c8] h (fun _=>dz) fun r8 h=>ah 3 39 h (fun h=>aa<|⟨_,_,_,h,lo []⟩) fun h=>ah 3 42 h (fun h=>aR 5 149 5 aq h fun y9 h _=>aa<|⟨_,_,_,h,lo []⟩) fun h=>aa<|⟨_,_,_,h,lo []⟩) fun h=>Wp.exit<|aZ<|aZ<|dj<|aO<|⟨h,lo []⟩
theorem Ln {u p0 q0 q1 r} (h:th u p0 q0 q1=some r):ak Tryz.prog 114 [cO (aq p0),.fptr [.sl 1 (q0.cy.map (aw .i64))],.fptr [.int .i64 q1]] (V.b r) []:=by
 unfold th at h
 refine b8 Tryz.f114 false ?_
 exact ae<|aE<|ag false 3 8 [.agg [.t (.sl 1 (q0.cy.map (aw .i64)))],.i p0.fb] h (fun _=>hP) fun r1 h=>ah 2 10 h (fun h=>aa<|by cases h;exact Wp.ret aj) fun h=>aa<|by cases h;exact Wp.ret aj
theorem lh {u p0 p1_0 p1_1 r} (h:cC u p0 p1_0 p1_1=some r):ak Tryz.prog 169 [.one (.t (.sl 5 (p0.map aq))),.clo 114 [.fptr [.sl 1 (p1_0.cy.map (aw .i64))],.fptr [.int .i64 p1_1]]] (V.i r) []:=by
 unfold cC at h
 refine b8 Tryz.f169 false ?_
 refine ae<|im (db u=some r) ⟨[(4,.i 0)],[],[]⟩ (fun h=>ae<|by cases h;exact Wp.ret aj)<|aE<|ar 1 149 aq p0<|aa<|Wp.block<|GA (fun bD p0 p1_0 p1_1 x2=>bI u bD p0 p1_0 p1_1 x2=some r) (fun p0 p1_0 p1_1 x2=>⟨[(0,.t (.sl 5 (p0.map aq))),(1,.clo 114 [.fadr [.sl 1 (p1_0.cy.map (aw .i64))],.fadr [.int .i64 p1_1]]),(4,.i 0),(7,.i ((p0.length:Int))),(8,.i x2)],[],[]⟩) (fun bD p0 p1_0 p1_1 x2 h=>?_) h (lo []) (fun _ _ _ _  h=>nomatch h)
 rw [bI] at h
 exact ae<|Wp.seq<|al h (fun h=>aC<|Wp.seq<|Wp.block<|ae<|aE<|aR 3 149 5 aq h fun y4 h _=>ag false 1 16 [.agg ((aq y4).map .t),.fadr [.sl 1 (p1_0.cy.map (aw .i64))],.fadr [.int .i64 p1_1]] h (fun _=>Ln) fun r5 h=>aa<|al h (fun h=>ae<|by cases h;exact Wp.ret aj) fun h=>Wp.skip<|b6<|aO<|aV [] []<|aa<|⟨_,_,_,_,h,lo []⟩) fun h=>Wp.exit<|aZ<|aZ<|dj<|aO<|⟨h,lo []⟩
theorem jR {u p0 p1_0 p1_1 r} (h:bZ u p0 p1_0 p1_1=some r):ak Tryz.prog 113 [.one (.t (.sl 5 (p0.map aq))),.clo 114 [.fptr [.sl 1 (p1_0.cy.map (aw .i64))],.fptr [.int .i64 p1_1]]] (V.b r) []:=by
 unfold bZ at h
 refine b8 Tryz.f113 false ?_
 exact ae<|aL false 2 7 [.t (.sl 5 (p0.map aq)),.clo 114 [.fadr [.sl 1 (p1_0.cy.map (aw .i64))],.fadr [.int .i64 p1_1]]] h (fun _=>lh) fun r1 h=>by cases h;exact Wp.ret aj
theorem P7 {u p0 p1 p2 r} (h:uV u p0 p1 p2=some r):ak Tryz.prog 67 [cO (g9 p0),V.i p1,cO (ay p2)] (V.b r) []:=by
 unfold uV at h
 refine b8 Tryz.f67 false ?_
 exact ae<|Wp.seq<|nO (fun x3 p0 p1 p2=>vY u x3 p0 p1 p2=some r) (fun x3 p0 p1 p2=>⟨[(3,.obj 3 0),(4,.obj 4 0),(5,.obj 5 0),(6,.b false),(16,.b x3)],[(3,[.t (.sl 1 (p0.cy.map (aw .i64)))]),(4,[.i p1]),(5,((ay p2).map .t))],[]⟩) (fun x3 p0 p1 p2 h=>al h (fun h=>ae<|by cases h;exact Wp.ret aj) fun h=>aC<|Wp.seq<|ae<|al h (fun h=>aL false 1 21 [.agg ((ay p2).map .t)] h (fun _=>Hs) fun r4 h=>by cases h;exact Wp.ret aj) fun h=>aC<|nO (fun x7 p0 p1 p2=>mH u x7 p0 p1 p2=some r) (fun x7 p0 p1 p2=>⟨[(3,.obj 3 0),(4,.obj 4 0),(5,.obj 5 0),(6,.b false),(7,.b x7)],[(3,[.t (.sl 1 (p0.cy.map (aw .i64)))]),(4,[.i p1]),(5,((ay p2).map .t))],[]⟩) (fun x7 p0 p1 p2 h=>Wp.seq<|Wp.le (Le.trans (ru 3 [.sl 1 (p0.cy.map (aw .i64))] kr kr) (ru 4 [.int .i64 p1] kr kr))<|aV [] []<|ah 2 41 h (fun h=>ah 5 46 h (fun h=>ah 5 51 h (fun h=>ag false 2 54 [.i p2.aJ,.i 0,.i 6] h (fun _=>bm) fun r8 h=>ah 2 56 h (fun h=>ah 8 64 h (fun h=>ag false 1 66 [.agg ((ay p2).map .t)] h (fun _=>EI) fun r9 h=>ah 2 68 h (fun h=>ag false 2 71 [.t (.sl 5 (p2.aN.map aq))] h (fun _=>P6) fun r10 h=>ah 2 73 h (fun h=>ag false 3 77 [.t (.sl 5 (p2.aN.map aq)),.clo 114 [.fadr [.sl 1 (p0.cy.map (aw .i64))],.fadr [.int .i64 p1]]] h (fun _=>jR) fun r11 h=>aa<|by cases h;exact Wp.ret aj) fun h=>aa<|by cases h;exact Wp.ret aj) fun h=>aa<|by cases h;exact Wp.ret aj) fun h=>aa<|by cases h;exact Wp.ret aj) fun h=>aa<|by cases h;exact Wp.ret aj) fun h=>aa<|by cases h;exact Wp.ret aj) fun h=>aa<|by cases h;exact Wp.ret aj) fun h=>aa<|by cases h;exact Wp.ret aj)<|aV [] []<|ah 3 24 h (fun h=>ah 5 29 h (fun h=>aa<|⟨_,_,_,_,h,lo []⟩) fun h=>ah 3 32 h (fun h=>ag false 4 37 [.agg [.t (.sl 1 (p0.cy.map (aw .i64)))],.i p2.bf,.i p1] h (fun _=>Dj) fun r5 h=>aa<|⟨_,_,_,_,h,lo []⟩) fun h=>aa<|⟨_,_,_,_,h,lo []⟩) fun h=>ah 8 32 h (fun h=>ag false 4 37 [.agg [.t (.sl 1 (p0.cy.map (aw .i64)))],.i p2.bf,.i p1] h (fun _=>Dj) fun r6 h=>aa<|⟨_,_,_,_,h,lo []⟩) fun h=>aa<|⟨_,_,_,_,h,lo []⟩)<|aV [] []<|ag false 1 9 [.agg [.t (.sl 1 (p0.cy.map (aw .i64)))]] h (fun _=>Fa) fun r1 h=>ah 2 11 h (fun h=>aa<|⟨_,_,_,_,h,lo []⟩) fun h=>ag false 2 14 [.agg [.t (.sl 1 (p0.cy.map (aw .i64)))],.i p1] h (fun _=>hP) fun r2 h=>aa<|⟨_,_,_,_,h,lo []⟩
theorem Cm {u p0 r} (h:uv u p0=some r):ak Tryz.prog 170 [V.i p0] (V.b r) []:=by
 unfold uv at h
 refine b8 Tryz.f170 false ?_
 exact ae<|aL false 1 4 [.i p0,.i 0,.i 1000000] h (fun _=>bm) fun r1 h=>by cases h;exact Wp.ret aj
theorem Fc {u p0 r} (h:uW u p0=some r):ak Tryz.prog 171 [V.i p0] (V.b r) []:=by
 unfold uW at h
 refine b8 Tryz.f171 false ?_
 exact ae<|aE<|ah 3 5 h (fun h=>aa<|by cases h;exact Wp.ret aj) fun h=>aa<|by cases h;exact Wp.ret aj
theorem Dl {u p0 r} (h:ql u p0=some r):ak Tryz.prog 115 [cO (fi p0)] (V.b r) []:=by
 unfold ql at h
 refine b8 Tryz.f115 false ?_
 exact ae<|aE<|ag false 2 5 [.i p0.aP] h (fun _=>Cm) fun r1 h=>ah 1 6 h (fun h=>ag false 2 9 [.i p0.cL] h (fun _=>Fc) fun r2 h=>ah 2 11 h (fun h=>ag false 2 14 [.i p0.aY,.i 0,.i 240] h (fun _=>bm) fun r3 h=>aa<|by cases h;exact Wp.ret aj) fun h=>aa<|by cases h;exact Wp.ret aj) fun h=>aa<|by cases h;exact Wp.ret aj
theorem n5 {u p0 p1 r} (h:eP u p0 p1=some r):ak Tryz.prog 116 [.fptr [.sl 1 (p0.fA.map (aw .u8)),.sl 1 (p0.fB.map (aw .u8)),.int .i64 p0.fR.aP,.int .i64 p0.fR.cL,.int .i64 p0.fR.aY,.sl 6 (p0.fP.map aU)],V.i p1] (.fptr [.sl 1 (r.map (aw .u8))]) []:=by
 unfold eP at h
 refine b8 Tryz.f116 false ?_
 refine ae<|Wp.seq<|ae<|al h (fun h=>?_) (fun h=>?_)
 ·refine ae<|Wp.ret<|Zh ?_
  obtain rfl:=Option.some.inj h
  exact Z1 [.fadr (aB p0)] (.fptr ([.sl 1 (p0.fA.map (aw .u8))]++[.sl 1 (p0.fB.map (aw .u8)),.int .i64 p0.fR.aP,.int .i64 p0.fR.cL,.int .i64 p0.fR.aY,.sl 6 (p0.fP.map aU)])) [] kr kr (.cut _ _) .nil
 refine aC<|ae<|Wp.ret ?_
 obtain rfl:=Option.some.inj h
 exact Z1 [.fadr [.sl 1 (p0.fB.map (aw .u8)),.int .i64 p0.fR.aP,.int .i64 p0.fR.cL,.int .i64 p0.fR.aY,.sl 6 (p0.fP.map aU)]] (.fptr ([.sl 1 (p0.fB.map (aw .u8))]++[.int .i64 p0.fR.aP,.int .i64 p0.fR.cL,.int .i64 p0.fR.aY,.sl 6 (p0.fP.map aU)])) [] kr kr (.cut _ _) .nil
theorem RW {u p0 r} (h:AW u p0=some r):ak Tryz.prog 119 [cO (aU p0)] (V.b r) []:=by
 unfold AW at h
 refine b8 Tryz.f119 false ?_
 exact ae<|Wp.seq<|ae<|al h (fun h=>aE<|ah 4 9 h (fun h=>ar 2 5 (aw .u8) p0.fB<|ah 3 15 h (fun h=>ag false 2 18 [.agg ((fi p0.fR).map .t)] h (fun _=>Dl) fun r1 h=>aa<|by cases h;exact Wp.ret aj) fun h=>aa<|by cases h;exact Wp.ret aj) fun h=>aa<|by cases h;exact Wp.ret aj) fun h=>aC<|aE<|ag false 2 22 [.i p0.dY] h (fun _=>Fc) fun r2 h=>ah 1 23 h (fun h=>ah 6 29 h (fun h=>ar 4 5 (aw .u8) p0.fB<|ag false 1 36 [.i p0.Cf,.i 0,.i (cu .i64 240 ((p0.fB.length:Int)))] h (fun _=>bm) fun r3 h=>aa<|by cases h;exact Wp.ret aj) fun h=>aa<|by cases h;exact Wp.ret aj) fun h=>aa<|by cases h;exact Wp.ret aj
theorem Lo {u p0 r} (h:ti u p0=some r):ak Tryz.prog 118 [cO (aU p0)] (V.b r) []:=by
 unfold ti at h
 refine b8 Tryz.f118 false ?_
 exact ae<|aL false 1 4 [.agg ((aU p0).map .t)] h (fun _=>RW) fun r1 h=>by cases h;exact Wp.ret aj
theorem li {u p0 r} (h:cD u p0=some r):ak Tryz.prog 172 [.one (.t (.sl 6 (p0.map aU))),.clo 118 []] (V.i r) []:=by
 unfold cD at h
 refine b8 Tryz.f172 false ?_
 refine ae<|im (dd u=some r) ⟨[(4,.i 0)],[],[]⟩ (fun h=>ae<|by cases h;exact Wp.ret aj)<|aE<|ar 1 155 aU p0<|aa<|Wp.block<|yR (fun bE p0 x2=>bJ u bE p0 x2=some r) (fun p0 x2=>⟨[(0,.t (.sl 6 (p0.map aU))),(1,.clo 118 []),(4,.i 0),(7,.i ((p0.length:Int))),(8,.i x2)],[],[]⟩) (fun bE p0 x2 h=>?_) h (lo []) (fun _ _  h=>nomatch h)
 rw [bJ] at h
 exact ae<|Wp.seq<|al h (fun h=>aC<|Wp.seq<|Wp.block<|ae<|aE<|aR 3 155 6 aU h fun y4 h _=>ag false 1 16 [.agg ((aU y4).map .t)] h (fun _=>Lo) fun r5 h=>aa<|al h (fun h=>ae<|by cases h;exact Wp.ret aj) fun h=>Wp.skip<|b6<|aO<|aV [] []<|aa<|⟨_,_,h,lo []⟩) fun h=>Wp.exit<|aZ<|aZ<|dj<|aO<|⟨h,lo []⟩
theorem jS {u p0 r} (h:b5 u p0=some r):ak Tryz.prog 117 [.one (.t (.sl 6 (p0.map aU))),.clo 118 []] (V.b r) []:=by
 unfold b5 at h
 refine b8 Tryz.f117 false ?_
 exact ae<|aL false 2 7 [.t (.sl 6 (p0.map aU)),.clo 118 []] h (fun _=>li) fun r1 h=>by cases h;exact Wp.ret aj
theorem Bb {u p0 r} (h:pi u p0=some r):ak Tryz.prog 68 [cO (aB p0)] (V.b r) []:=by
 unfold pi at h
 refine b8 Tryz.f68 false ?_
 exact ae<|Wp.seq<|pk (fun p0 x3=>oF u p0 x3=some r) (fun p0 x3=>⟨[(1,.fadr (aB p0)),(2,.b false),(31,.b x3)],[],[]⟩) (fun p0 x3 h=>al h (fun h=>ae<|by cases h;exact Wp.ret aj) fun h=>aC<|aE<|ar 2 155 aU p0.fP<|ah 2 36 h (fun h=>ag false 2 39 [.t (.sl 6 (p0.fP.map aU)),.clo 118 []] h (fun _=>jS) fun r4 h=>aa<|by cases h;exact Wp.ret aj) fun h=>aa<|by cases h;exact Wp.ret aj)<|Wp.le (ru 1 (aB p0) kr kr)<|aK (jQ []) (bR [(1,.frz),(3,.frz),(4,.frz),(5,.frz),(6,.frz),(7,.frz),(8,.frz),(9,.frz),(10,.frz),(12,.frz),(13,.frz),(14,.frz),(15,.frz),(16,.frz),(18,.frz),(19,.frz),(20,.frz),(21,.frz),(22,.frz),(23,.frz),(24,.frz),(25,.frz),(26,.frz),(27,.frz),(28,.frz),(29,.frz)]) kr kr<|ar 2 5 (aw .u8) p0.fA<|ah 2 7 h (fun h=>aa<|⟨_,_,h,lo []⟩) fun h=>ar 2 5 (aw .u8) p0.fB<|ah 3 13 h (fun h=>aa<|⟨_,_,h,lo []⟩) fun h=>ag false 2 16 [.agg ((fi p0.fR).map .t)] h (fun _=>Dl) fun r1 h=>ah 3 19 h (fun h=>aa<|⟨_,_,h,lo []⟩) fun h=>ag false 6 26 [.fadr (aB p0),.i p0.fR.cL] h (fun _=>n5) fun r2 h=>ar 2 5 (aw .u8) r2<|aa<|⟨_,_,h,lo []⟩
theorem lK {u p0 p1 r} (h:da u p0 p1=some r):ak Tryz.prog 120 [.one (.t (.sl 2 (p0.map aH))),.one (.t (.sl 2 (p1.map aH)))] (V.b r) []:=by
 unfold da at h
 refine b8 Tryz.f120 false ?_
 refine ae<|Wp.seq<|aE<|ar 1 176 aH p0<|ar 1 176 aH p1<|aa<|al h (fun h=>ae<|by cases h;exact Wp.ret aj) fun h=>aC<|im (gF u=some r) ⟨[(4,.b false)],[],[]⟩ (fun h=>ae<|by cases h;exact Wp.ret aj)<|aE<|ar 1 176 aH p0<|aa<|Wp.block<|ef (fun cF p0 p1 x2=>cP u cF p0 p1 x2=some r) (fun p0 p1 x2=>⟨[(0,.t (.sl 2 (p0.map aH))),(1,.t (.sl 2 (p1.map aH))),(4,.b false),(12,.i ((p0.length:Int))),(13,.i x2)],[],[]⟩) (fun cF p0 p1 x2 h=>?_) h (lo []) (fun _ _ _  h=>nomatch h)
 rw [cP] at h
 exact ae<|Wp.seq<|al h (fun h=>aC<|Wp.seq<|Wp.block<|ae<|Wp.seq<|aK (jQ []) (bR [(0,.frz),(1,.frz),(5,.frz),(16,.frz),(17,.frz),(18,.frz),(19,.frz),(20,.frz),(21,.frz),(22,.frz),(23,.frz)]) kr kr<|aR 2 176 2 aH h fun y4 h _=>aR 3 176 2 aH h fun y5 h _=>aa<|al h (fun h=>ae<|by cases h;exact Wp.ret aj) fun h=>Wp.skip<|b6<|aO<|aV [] []<|aa<|⟨_,_,_,h,lo []⟩) fun h=>Wp.exit<|aZ<|aZ<|dj<|aO<|⟨h,lo []⟩
theorem zD {u p0 p1 r} (h:nH u p0 p1=some r):ak Tryz.prog 69 [cO (ai p0),cO (ai p1)] (V.b r) []:=by
 unfold nH at h
 refine b8 Tryz.f69 false ?_
 exact ae<|aE<|ah 6 10 h (fun h=>ah 7 17 h (fun h=>ah 7 24 h (fun h=>ag false 4 29 [.t (.sl 2 (p0.aD.map aH)),.t (.sl 2 (p1.aD.map aH))] h (fun _=>lK) fun r1 h=>aa<|by cases h;exact Wp.ret aj) fun h=>aa<|by cases h;exact Wp.ret aj) fun h=>aa<|by cases h;exact Wp.ret aj) fun h=>aa<|by cases h;exact Wp.ret aj
theorem zE {u p0 r} (h:pz u p0=some r):ak Tryz.prog 122 [cO (aB p0)] (.tup [V.i r.1,.one (.ow 5 1 (r.2.map (aw .u8)))]) []:=by
 unfold pz at h
 refine b8 Tryz.f122 true ?_
 refine ae<|Wp.seq<|aL false 1 5 [.agg ((aB p0).map .t)] h (fun _=>Bb) fun r1 h=>al h (fun h=>ae<|by cases h;exact Wp.ret aj) fun h=>aC<|Wp.seq<|Wp.le (ru 1 (aB p0) kr kr)<|aK (jQ []) (bR [(1,.frz),(7,.frz),(8,.frz),(9,.frz),(10,.frz),(11,.frz),(12,.frz),(13,.frz),(14,.frz),(15,.frz),(16,.frz),(17,.frz),(18,.frz),(19,.frz),(20,.own 20)]) kr kr<|ag false 6 13 [.fadr (aB p0),.i p0.fR.cL] h (fun _=>n5) fun r2 h=>bc 5 kr ?_
 obtain ⟨_,e_3,h⟩:=bind_some h
 exact eS (e:=5) (ax:=.s r2) (alo:=none) (ahi:=(some (.i p0.fR.aY))) (aw .u8) r2 1 0 p0.fR.aY rfl kr kr kr kr kr kr kr kr kr kr kr (bj e_3)<|ag false 0 20 [.t (.sl 1 (((r2.take (Int.toNat p0.fR.aY)).drop (Int.toNat 0)).map (aw .u8)))] h (fun _=>gI) fun r4 h=>aa<|by cases h;exact Wp.ret aj
theorem Fd {u p0 p1 r} (h:BP u p0 p1=some r):ak Tryz.prog 179 [.one (.s p0),.one (.s p1)] (V.b r) []:=by
 unfold BP at h
 refine b8 Tryz.f179 false ?_
 exact ae<|aE<|bc 1 kr<|xU (y:=.s p0) (e:=5) p0 1 rfl kr kr kr kr kr kr kr<|bc 1 kr<|xU (y:=.s p1) (e:=5) p1 1 rfl kr kr kr kr kr kr kr<|aa<|by cases h;exact Wp.ret aj
theorem wP {u p0 p1 r} (h:oG u p0 p1=some r):ak Tryz.prog 123 [.one (.s p0),.one (.s p1)] (V.b r) []:=by
 unfold oG at h
 refine b8 Tryz.f123 false ?_
 exact ae<|aL false 2 7 [.s p0,.s p1] h (fun _=>Fd) fun r1 h=>by cases h;exact Wp.ret aj
theorem Cn {u p0 p1 p2 r} (h:uw u p0 p1 p2=some r):ak Tryz.prog 73 [cO (aB p0),V.i p1,.one (.s p2)] (V.b r) []:=by
 unfold uw at h
 refine b8 Tryz.f73 false ?_
 exact ae<|aL false 1 11 [.agg ((aB p0).map .t)] h (fun _=>zE) fun r1 h=>aE<|ah 4 17 h (fun h=>eX 2 20 [.own 721920,.s p2] h (fun _=>wP) fun r2 h=>aa<|by cases h;exact Wp.ret aj) fun h=>aa<|by cases h;exact Wp.ret aj
theorem RX {u p0 r} (h:DF u p0=some r):ak Tryz.prog 173 [cO (aB p0)] (V.i r) []:=by
 unfold DF at h
 refine b8 Tryz.f173 false ?_
 exact ae<|ae<|by cases h;exact Wp.ret aj
theorem Gi {u p0 q0 r} (h:rZ u p0 q0=some r):ak Tryz.prog 176 [cO (aU p0),.fptr [.int .i64 q0]] (V.b r) []:=by
 unfold rZ at h
 refine b8 Tryz.f176 false ?_
 exact ae<|ae<|by cases h;exact Wp.ret aj
theorem jT {u p0 p1_0 r} (h:ct u p0 p1_0=some r):ak Tryz.prog 172 [.one (.t (.sl 6 (p0.map aU))),.clo 176 [.fptr [.int .i64 p1_0]]] (V.i r) []:=by
 unfold ct at h
 refine b8 Tryz.f172 false ?_
 refine ae<|im (cZ u=some r) ⟨[(4,.i 0)],[],[]⟩ (fun h=>ae<|by cases h;exact Wp.ret aj)<|aE<|ar 1 155 aU p0<|aa<|Wp.block<|ef (fun bu p0 p1_0 x2=>bx u bu p0 p1_0 x2=some r) (fun p0 p1_0 x2=>⟨[(0,.t (.sl 6 (p0.map aU))),(1,.clo 176 [.fadr [.int .i64 p1_0]]),(4,.i 0),(7,.i ((p0.length:Int))),(8,.i x2)],[],[]⟩) (fun bu p0 p1_0 x2 h=>?_) h (lo []) (fun _ _ _  h=>nomatch h)
 rw [bx] at h
 exact ae<|Wp.seq<|al h (fun h=>aC<|Wp.seq<|Wp.block<|ae<|aE<|aR 3 155 6 aU h fun y4 h _=>ag false 1 16 [.agg ((aU y4).map .t),.fadr [.int .i64 p1_0]] h (fun _=>Gi) fun r5 h=>aa<|al h (fun h=>ae<|by cases h;exact Wp.ret aj) fun h=>Wp.skip<|b6<|aO<|aV [] []<|aa<|⟨_,_,_,h,lo []⟩) fun h=>Wp.exit<|aZ<|aZ<|dj<|aO<|⟨h,lo []⟩
theorem jg {u p0 p1_0 r} (h:bT u p0 p1_0=some r):ak Tryz.prog 117 [.one (.t (.sl 6 (p0.map aU))),.clo 176 [.fptr [.int .i64 p1_0]]] (V.b r) []:=by
 unfold bT at h
 refine b8 Tryz.f117 false ?_
 exact ae<|aL false 2 7 [.t (.sl 6 (p0.map aU)),.clo 176 [.fadr [.int .i64 p1_0]]] h (fun _=>jT) fun r1 h=>by cases h;exact Wp.ret aj
theorem Nv {u p0 r} (h:vZ u p0=some r):ak Tryz.prog 293 [cO (aU p0)] (V.w [0,0,5,0,0,0] (aU r)) []:=by
 unfold vZ at h
 refine b8 Tryz.f293 true ?_
 exact ae<|aL false 2 5 [.s p0.fB] h (fun _=>gI) fun r1 h=>ae<|by cases h;exact Wp.ret aj
theorem Lp {u p0 r} (h:tj u p0=some r):ak Tryz.prog 258 [cO (aB p0)] (V.w [5,5,0,0,0,155] (aB r)) []:=by
 unfold tj at h
 refine b8 Tryz.f258 true ?_
 refine ae<|Wp.seq<|aK (jQ []) (bR [(1,.obj 1),(3,.obj 3),(6,.obj 1),(7,.frz),(8,.own 8),(9,.obj 1),(10,.frz),(11,.own 11),(12,.obj 1),(13,.frz)]) kr kr<|ag false 2 8 [.s p0.fA] h (fun _=>gI) fun r1 h=>ag false 2 11 [.s p0.fB] h (fun _=>gI) fun r2 h=>aa<|nO (fun r1 r2 p0 x11=>xz u r1 r2 p0 x11=some r) (fun r1 r2 p0 x11=>⟨[(2,.obj 2 0),(3,.obj 3 0)],[(2,[.nil,.nil,.i 0,.i 0,.i 0,.nil]),(3,[.own 197120,.own 197121,.i p0.fR.aP,.i p0.fR.cL,.i p0.fR.aY,.own 197125])],[(197120,.live 5 1 (r1.map (aw .u8))),(197121,.live 5 1 (r2.map (aw .u8))),(197125,.live 155 6 (x11.map aU))]⟩) (fun r1 r2 p0 x11 h=>ae<|by cases h;exact Wp.ret aj)<|aE<|ar 2 155 aU p0.fP<|aa<|Wp.block<|Jc (fun jB p0 x5 r1 r2 x6=>lS u jB p0 x5 r1 r2 x6=some r) (fun p0 x5 r1 r2 x6=>⟨[(2,.obj 2 0),(3,.obj 3 0),(16,.t (.sl 6 (p0.fP.map aU))),(17,.i ((p0.fP.length:Int))),(18,.i x5)],[(2,[.nil,.nil,.i 0,.i 0,.i 0,.nil]),(3,[.own 197120,.own 197121,.i p0.fR.aP,.i p0.fR.cL,.i p0.fR.aY,.own 197125])],[(197120,.live 5 1 (r1.map (aw .u8))),(197121,.live 5 1 (r2.map (aw .u8))),(197125,.live 155 6 (x6.map aU))]⟩) (fun jB p0 x5 r1 r2 x6 h=>?_) h (Le.trans (jv 3 5 197125 155 6 [.own 524288,.own 720896,.i p0.fR.aP,.i p0.fR.cL,.i p0.fR.aY,.nil] kr kr kr) (lo [(197120,524288),(197121,720896)])) (fun _ _ _ _ _  h=>nomatch h)
 rw [lS] at h
 exact ae<|Wp.seq<|al h (fun h=>aC<|Wp.seq<|Wp.block<|aE<|aR 0 155 6 aU h fun y9 h _=>aa<|aK (jQ []) (bR [(3,.obj 3),(5,.obj 5),(22,.obj 3),(23,.own 3),(24,.frz),(25,.own 25),(26,.own 26),(27,.own 27),(28,.obj 3)]) kr kr<|ag false 3 25 [.agg ((aU y9).map .t)] h (fun _=>Nv) fun r10 h=>cg (ys:=[r10]) 1 27 155 6 197125 aU h fun h=>ab.all kr<|b6<|aO<|aV [] []<|aa<|⟨_,_,_,_,_,h,lo [(197125,1769472)]⟩) fun h=>Wp.exit<|aZ<|aZ<|dj<|aO<|⟨_,_,_,_,h,lo []⟩
theorem P8 {u p0 r} (h:yD u p0=some r):ak Tryz.prog 219 [V.i p0] (V.b r) []:=by
 unfold yD at h
 refine b8 Tryz.f219 false ?_
 exact ae<|ae<|by cases h;exact Wp.ret aj
theorem je {u p0 p1 r} (h:ua u p0 p1=some r):uy Tryz.prog 116 [.ptr (cw [5,5,0,0,0,155] (aB p0)),V.i p1] r.1 [cw [5,5,0,0,0,155] (aB r.2)]:=by
 unfold ua at h
 refine MX (fn:=Tryz.f116) [.obj 900 0,.i p1] kr rfl kr kr kr kr kr rfl<|ae<|Wp.seq<|ae<|al h (fun h=>?_) (fun h=>?_)
 ·refine ae<|Wp.ret<|Zh ?_
  obtain rfl:=Option.some.inj h
  exact Zi [[.ow 5 1 (p0.fA.map (aw .u8)),.ow 5 1 (p0.fB.map (aw .u8)),.i p0.fR.aP,.i p0.fR.cL,.i p0.fR.aY,.ow 155 6 (p0.fP.map aU)]] kr kr (.cons ((.cons (.refl _) (.cons (.refl _) (.cons (.refl _) (.cons (.refl _) (.cons (.refl _) (.cons (.refl _) .nil))))))) .nil)
 refine aC<|ae<|Wp.ret ?_
 obtain rfl:=Option.some.inj h
 exact Zi [[.ow 5 1 (p0.fA.map (aw .u8)),.ow 5 1 (p0.fB.map (aw .u8)),.i p0.fR.aP,.i p0.fR.cL,.i p0.fR.aY,.ow 155 6 (p0.fP.map aU)]] kr kr (.cons ((.cons (.refl _) (.cons (.refl _) (.cons (.refl _) (.cons (.refl _) (.cons (.refl _) (.cons (.refl _) .nil))))))) .nil)
theorem wQ {u p0 p1 r} (h:js u p0 p1=some r):ak Tryz.prog 259 [.ptr (cw [5,5,0,0,0,155] (aB p0)),cO (aU p1)] (.tup []) [cw [5,5,0,0,0,155] (aB r)]:=by
 unfold js at h
 refine b8 Tryz.f259 false ?_
 refine ae<|Wp.seq<|ae<|al h (fun h=>ae<|by cases h;exact Wp.ret aj) fun h=>aC<|aE<|bc 3 kr ?_
 obtain ⟨r1,e_r1,h⟩:=bind_some h
 rcases tf (Nat.beq r1.1 0) with hc_r1 | hc_r1
 ·have h:=Tp h hc_r1
  refine Mq true 16 116 [] [.obj 900 0,.i p1.dY] [.ptr [.ow 5 1 (p0.fA.map (aw .u8)),.ow 5 1 (p0.fB.map (aw .u8)),.i p0.fR.aP,.i p0.fR.cL,.i p0.fR.aY,.ow 155 6 (p0.fP.map aU)],.one (.i p1.dY)] 900 0 ([cw [5,5,0,0,0,155] (aB r1.2)]) rfl rfl kr kr kr kr kr (S4 hc_r1 (je e_r1)) kr kr<|aa<|lx (fun p1 x9 r1=>mU u p1 x9 r1=some r) (fun p1 x9 r1=>⟨[(3,.obj 3 0),(4,.obj 900 0)],[(3,((aU p1).map .t)),(900,[.own 58982912,.own 58982913,.i r1.2.fR.aP,.i r1.2.fR.cL,.i r1.2.fR.aY,.own 58982917])],[(58982912,.live 5 1 (x9.map (aw .u8))),(58982913,.live 5 1 (r1.2.fB.map (aw .u8))),(58982917,.live 155 6 (r1.2.fP.map aU))]⟩) (fun p1 x9 r1 h=>?_) ?_
  ·refine aK (jQ []) (bR [(3,.obj 3),(4,.obj 900),(35,.obj 900),(36,.obj 900),(37,.own 900),(38,.obj 3),(39,.frz),(40,.win 900),(41,.obj 3),(42,.frz)]) kr kr<|bc 5 kr ?_
   obtain ⟨_,e_10,h⟩:=bind_some h
   exact K6 (e:=5) (e':=5) (alo:=(some (.i p1.Cf))) (aw .u8) x9 58982912 1 p1.Cf rfl kr kr kr kr kr kr kr kr kr (bj e_10)<|bc 2 kr<|Pt (y:=.s p1.fB) (e:=5) (e':=5) (aw .u8) x9 p1.fB 58982912 (Int.toNat p1.Cf) 1 rfl rfl rfl kr kr kr kr kr (.inl rfl) kr kr kr (X5 (bj e_10))<|ab.all kr<|by cases h;exact X7
  refine Wp.block<|ef (fun ff p1 x7 r1=>gC u ff p1 x7 r1=some r) (fun p1 x7 r1=>⟨[(3,.obj 3 0),(4,.obj 900 0)],[(3,((aU p1).map .t)),(900,[.own 58982912,.own 58982913,.i r1.2.fR.aP,.i r1.2.fR.cL,.i r1.2.fR.aY,.own 58982917])],[(58982912,.live 5 1 (x7.map (aw .u8))),(58982913,.live 5 1 (r1.2.fB.map (aw .u8))),(58982917,.live 155 6 (r1.2.fP.map aU))]⟩) (fun ff p1 x7 r1 h=>?_) h (lo [(58982912,1107200),(58982913,1107201),(58982917,1107205)]) (fun _ _ _  h=>nomatch h)
  rw [gC] at h
  exact Wp.seq<|Wp.seq<|aK (jQ []) (bR [(3,.obj 3),(4,.obj 900),(17,.obj 900),(18,.obj 900),(19,.own 900),(20,.frz),(21,.obj 3),(22,.frz),(23,.obj 3),(24,.frz),(25,.frz),(26,.frz)]) kr kr<|ar 3 5 (aw .u8) x7<|ar 4 5 (aw .u8) p1.fB<|aa<|al h (fun h=>aC<|Wp.block<|aV [] []<|cg 5 33 5 1 58982912 (aw .u8) h fun h=>ab.all kr<|b6<|aO<|⟨_,_,_,h,lo [(58982912,2162688)]⟩) fun h=>Wp.exit<|aZ<|aZ<|dj<|aO<|⟨_,_,_,h,lo []⟩
 have h:=Tq h hc_r1
 rcases tf (Nat.beq r1.1 1) with hc_r1 | hc_r1
 ·have h:=Tp h hc_r1
  refine Mq true 16 116 [] [.obj 900 0,.i p1.dY] [.ptr [.ow 5 1 (p0.fA.map (aw .u8)),.ow 5 1 (p0.fB.map (aw .u8)),.i p0.fR.aP,.i p0.fR.cL,.i p0.fR.aY,.ow 155 6 (p0.fP.map aU)],.one (.i p1.dY)] 900 1 ([cw [5,5,0,0,0,155] (aB r1.2)]) rfl rfl kr kr kr kr kr (S4 hc_r1 (je e_r1)) kr kr<|aa<|lx (fun p1 r1 x5=>mT u p1 r1 x5=some r) (fun p1 r1 x5=>⟨[(3,.obj 3 0),(4,.obj 900 1)],[(3,((aU p1).map .t)),(900,[.own 58982912,.own 58982913,.i r1.2.fR.aP,.i r1.2.fR.cL,.i r1.2.fR.aY,.own 58982917])],[(58982912,.live 5 1 (r1.2.fA.map (aw .u8))),(58982913,.live 5 1 (x5.map (aw .u8))),(58982917,.live 155 6 (r1.2.fP.map aU))]⟩) (fun p1 r1 x5 h=>?_) ?_
  ·refine aK (jQ []) (bR [(3,.obj 3),(4,.obj 900),(35,.obj 900),(36,.obj 900),(37,.own 900),(38,.obj 3),(39,.frz),(40,.win 900),(41,.obj 3),(42,.frz)]) kr kr<|bc 5 kr ?_
   obtain ⟨_,e_6,h⟩:=bind_some h
   exact K6 (e:=5) (e':=5) (alo:=(some (.i p1.Cf))) (aw .u8) x5 58982913 1 p1.Cf rfl kr kr kr kr kr kr kr kr kr (bj e_6)<|bc 2 kr<|Pt (y:=.s p1.fB) (e:=5) (e':=5) (aw .u8) x5 p1.fB 58982913 (Int.toNat p1.Cf) 1 rfl rfl rfl kr kr kr kr kr (.inl rfl) kr kr kr (X5 (bj e_6))<|ab.all kr<|by cases h;exact X7
  refine Wp.block<|ef (fun fe p1 r1 x3=>gB u fe p1 r1 x3=some r) (fun p1 r1 x3=>⟨[(3,.obj 3 0),(4,.obj 900 1)],[(3,((aU p1).map .t)),(900,[.own 58982912,.own 58982913,.i r1.2.fR.aP,.i r1.2.fR.cL,.i r1.2.fR.aY,.own 58982917])],[(58982912,.live 5 1 (r1.2.fA.map (aw .u8))),(58982913,.live 5 1 (x3.map (aw .u8))),(58982917,.live 155 6 (r1.2.fP.map aU))]⟩) (fun fe p1 r1 x3 h=>?_) h (lo [(58982912,1107200),(58982913,1107201),(58982917,1107205)]) (fun _ _ _  h=>nomatch h)
  rw [gB] at h
  exact Wp.seq<|Wp.seq<|aK (jQ []) (bR [(3,.obj 3),(4,.obj 900),(17,.obj 900),(18,.obj 900),(19,.own 900),(20,.frz),(21,.obj 3),(22,.frz),(23,.obj 3),(24,.frz),(25,.frz),(26,.frz)]) kr kr<|ar 3 5 (aw .u8) x3<|ar 4 5 (aw .u8) p1.fB<|aa<|al h (fun h=>aC<|Wp.block<|aV [] []<|cg 5 33 5 1 58982913 (aw .u8) h fun h=>ab.all kr<|b6<|aO<|⟨_,_,_,h,lo [(58982913,2162688)]⟩) fun h=>Wp.exit<|aZ<|aZ<|dj<|aO<|⟨_,_,_,h,lo []⟩
 have h:=Tq h hc_r1
 cases h
theorem uC {u p0 r} (h:fh u p0=some r):ak Tryz.prog 218 [cO (aB p0),.clo 219 []] (V.w [5,5,0,0,0,155] (aB r)) []:=by
 unfold fh at h
 refine b8 Tryz.f218 true ?_
 refine ae<|aL false 1 9 [.agg ((aB p0).map .t)] h (fun _=>Lp) fun r1 h=>Wp.seq<|aL false 1 11 [.agg ((aB p0).map .t)] h (fun _=>Bb) fun r2 h=>al h (fun h=>ae<|by cases h;exact Wp.ret aj) fun h=>aC<|Jb (fun x33 x34 x35 x36 x37 x38=>gZ u x33 x34 x35 x36 x37 x38=some r) (fun x33 x34 x35 x36 x37 x38=>⟨[(4,.obj 4 0),(5,.obj 5 0)],[(4,[.nil,.nil,.i 0,.i 0,.i 0,.nil]),(5,[.own 328192,.own 328193,.i x35,.i x36,.i x37,.own 328197])],[(328192,.live 5 1 (x33.map (aw .u8))),(328193,.live 5 1 (x34.map (aw .u8))),(328197,.live 155 6 (x38.map aU))]⟩) (fun x33 x34 x35 x36 x37 x38 h=>ae<|ae<|by cases h;exact Wp.ret aj)<|aE<|ar 2 155 aU p0.fP<|aa<|Wp.block<|PD (fun ca p0 x10 x11 x12 x13 x14 x15 x16=>bW u ca p0 x10 x11 x12 x13 x14 x15 x16=some r) (fun p0 x10 x11 x12 x13 x14 x15 x16=>⟨[(1,.clo 219 []),(4,.obj 4 0),(5,.obj 5 0),(15,.t (.sl 6 (p0.fP.map aU))),(16,.i ((p0.fP.length:Int))),(17,.i x10)],[(4,[.nil,.nil,.i 0,.i 0,.i 0,.nil]),(5,[.own 328192,.own 328193,.i x13,.i x14,.i x15,.own 328197])],[(328192,.live 5 1 (x11.map (aw .u8))),(328193,.live 5 1 (x12.map (aw .u8))),(328197,.live 155 6 (x16.map aU))]⟩) (fun ca p0 x10 x11 x12 x13 x14 x15 x16 h=>?_) h (lo [(328192,589824),(328193,589825),(328197,589829)]) (fun _ _ _ _ _ _ _ _  h=>nomatch h)
 rw [bW] at h
 exact ae<|Wp.seq<|al h (fun h=>aC<|PC (fun p0 x10 x27 x28 x29 x30 x31 x32=>cX u (fun z0 z1 z2 z3 z4 z5 z6 z7=>bW u ca z0 z1 z2 z3 z4 z5 z6 z7) p0 x10 x27 x28 x29 x30 x31 x32=some r) (fun p0 x10 x27 x28 x29 x30 x31 x32=>⟨[(1,.clo 219 []),(4,.obj 4 0),(5,.obj 5 0),(15,.t (.sl 6 (p0.fP.map aU))),(16,.i ((p0.fP.length:Int))),(17,.i x10)],[(4,[.nil,.nil,.i 0,.i 0,.i 0,.nil]),(5,[.own 328192,.own 328193,.i x29,.i x30,.i x31,.own 328197])],[(328192,.live 5 1 (x27.map (aw .u8))),(328193,.live 5 1 (x28.map (aw .u8))),(328197,.live 155 6 (x32.map aU))]⟩) (fun p0 x10 x27 x28 x29 x30 x31 x32 h=>aV [] []<|aa<|⟨_,_,_,_,_,_,_,_,h,lo []⟩)<|Wp.block<|aE<|aR 1 155 6 aU h fun y24 h _=>aa<|aL false 2 24 [.i x10] h (fun _=>P8) fun r25 h=>al h (fun h=>aV [] []<|ag true 1 26 [.obj 5 0,.agg ((aU y24).map .t)] h (fun _=>wQ) fun r26 h=>ab.all kr<|b6<|aO<|⟨_,_,_,_,_,_,_,_,h,lo [(328192,1705280),(328193,1705281),(328197,1705285)]⟩) fun h=>Wp.skip<|b6<|aO<|⟨_,_,_,_,_,_,_,_,h,lo []⟩) fun h=>Wp.exit<|aZ<|aZ<|dj<|aO<|⟨_,_,_,_,_,_,h,lo []⟩
theorem TD {u p0 r} (h:CZ u p0=some r):ak Tryz.prog 177 [cO (aB p0)] (V.w [5,5,0,0,0,155] (aB r)) []:=by
 unfold CZ at h
 refine b8 Tryz.f177 true ?_
 exact ae<|aL false 1 4 [.agg ((aB p0).map .t),.clo 219 []] h (fun _=>uC) fun r1 h=>by cases h;exact Wp.ret aj
theorem Ht {u p0 p1 r} (h:pO u p0 p1=some r):ak Tryz.prog 175 [.one (.s p0),.one (.s p1)] (V.b r) []:=by
 unfold pO at h
 refine b8 Tryz.f175 false ?_
 refine ae<|aE<|ar 1 5 (aw .u8) p0<|ar 1 5 (aw .u8) p1<|ah 2 10 h (fun h=>?_) (fun h=>?_)
 ·refine ar 2 5 (aw .u8) p1 ?_
  obtain ⟨_,e_1,h⟩:=bind_some h
  exact eS (e:=5) (ax:=.s p0) (alo:=none) (ahi:=(some (.i ((p1.length:Int))))) (aw .u8) p0 1 0 ((p1.length:Int)) rfl kr kr kr kr kr kr kr kr kr kr kr (bj e_1)<|ag false 1 16 [.t (.sl 1 (((p0.take (Int.toNat ((p1.length:Int)))).drop (Int.toNat 0)).map (aw .u8))),.s p1] h (fun _=>Fd) fun r2 h=>aa<|by cases h;exact Wp.ret aj
 exact aa<|by cases h;exact Wp.ret aj
theorem sO {u p0 q0 q1 r} (h:jt u p0 q0 q1=some r):ak Tryz.prog 174 [cO (aB p0),.fptr [.int .i64 q0],.fptr [.int .i64 q1.aT,.sl 1 (q1.bh.map (aw .u8))]] (V.b r) []:=by
 unfold jt at h
 refine b8 Tryz.f174 false ?_
 exact ae<|Wp.seq<|Wp.le (ru 3 (aB p0) kr kr)<|aK (jQ []) (bR [(1,.frz),(2,.frz),(3,.frz),(5,.frz),(6,.frz),(7,.frz),(8,.frz),(9,.frz),(10,.frz),(11,.frz)]) kr kr<|ag false 1 6 [.fadr (aB p0),.i q0] h (fun _=>n5) fun r1 h=>ag false 4 11 [.s r1,.s q1.bh] h (fun _=>Ht) fun r2 h=>aa<|by cases h;exact Wp.ret aj
theorem Jp {u p0 p1 p2 p3 r} (h:ra u p0 p1 p2 p3=some r):ak Tryz.prog 121 [cO (aB p0),cO (ai p1),cO (cJ p2),V.i p3] (V.b r) []:=by
 unfold ra at h
 refine b8 Tryz.f121 false ?_
 exact ae<|aL false 1 13 [.agg ((aB p0).map .t)] h (fun _=>RX) fun r1 h=>ae<|Jb (fun p3 p0 r1 x2 p1 p2=>nI u p3 p0 r1 x2 p1 p2=some r) (fun p3 p0 r1 x2 p1 p2=>⟨[(3,.i p3),(4,.obj 4 0),(5,.obj 5 0),(6,.obj 6 0),(8,.b false),(9,.obj 9 0),(10,.obj 10 0)],[(4,((aB p0).map .t)),(5,((ai p1).map .t)),(6,[.i p2.aT,.s p2.bh]),(9,[.i r1]),(10,[.i x2])],[]⟩) (fun p3 p0 r1 x2 p1 p2 h=>Wp.seq<|Wp.le (Le.trans (ru 10 [.int .i64 x2] kr kr) (ru 6 [.int .i64 p2.aT,.sl 1 (p2.bh.map (aw .u8))] kr kr))<|aV [] []<|aa<|Wp.seq<|ae<|Wp.block<|ae<|al h (fun h=>Wp.seq<|Wp.le (ru 9 [.int .i64 r1] kr kr)<|aV [] []<|ag false 3 23 [.t (.sl 6 (p0.fP.map aU)),.clo 176 [.fadr [.int .i64 r1]]] h (fun _=>jg) fun r3 h=>ah 2 25 h (fun h=>ag false 2 28 [.agg ((aB p0).map .t)] h (fun _=>TD) fun r4 h=>eX 0 29 [.agg [.own 1835008,.own 1835009,.i r4.fR.aP,.i r4.fR.cL,.i r4.fR.aY,.own 1835013],.fadr [.int .i64 x2],.fadr [.int .i64 p2.aT,.sl 1 (p2.bh.map (aw .u8))]] h (fun _=>sO) fun r5 h=>aa<|by cases h;exact Wp.ret aj) fun h=>aa<|by cases h;exact Wp.ret aj) fun h=>ae<|al h (fun h=>aE<|ar 2 155 aU p0.fP<|ah 2 37 h (fun h=>ag false 2 40 [.agg ((aB p0).map .t),.fadr [.int .i64 x2],.fadr [.int .i64 p2.aT,.sl 1 (p2.bh.map (aw .u8))]] h (fun _=>sO) fun r6 h=>aa<|by cases h;exact Wp.ret aj) fun h=>aa<|by cases h;exact Wp.ret aj) fun h=>ae<|al h (fun h=>Wp.seq<|aK (jQ []) (bR [(4,.obj 4),(5,.obj 5),(9,.obj 9),(44,.obj 4),(45,.frz),(46,.frz),(47,.frz),(48,.frz),(49,.obj 4),(50,.frz),(51,.frz),(52,.frz),(53,.frz),(55,.frz),(56,.frz),(57,.obj 4),(58,.frz),(59,.frz),(60,.frz),(61,.frz),(62,.obj 5),(63,.frz),(64,.frz),(65,.obj 5),(66,.frz),(67,.frz),(69,.frz),(70,.frz),(72,.frz),(74,.frz)]) kr kr<|ar 2 155 aU p0.fP<|ah 2 48 h (fun h=>aR 2 155 6 aU h fun y7 h _=>ah 5 56 h (fun h=>aR 2 155 6 aU h fun y8 h _=>ah 11 70 h (fun h=>ag false 2 73 [.agg ((aB p0).map .t),.fadr [.int .i64 x2],.fadr [.int .i64 p2.aT,.sl 1 (p2.bh.map (aw .u8))]] h (fun _=>sO) fun r9 h=>aa<|by cases h;exact Wp.ret aj) fun h=>aa<|by cases h;exact Wp.ret aj) fun h=>aa<|by cases h;exact Wp.ret aj) fun h=>aa<|by cases h;exact Wp.ret aj) fun h=>Wp.skip<|b6<|aO<|ae<|by cases h;exact Wp.ret aj)<|ae<|al h (fun h=>aV [] []<|aa<|⟨_,_,_,_,_,_,h,lo []⟩) fun h=>aC<|⟨_,_,_,_,_,_,h,lo []⟩
theorem Dm {u p0 p1 r} (h:kc u p0 p1=some r):ak Tryz.prog 70 [cO (bN p0),V.i p1] (V.b r) []:=by
 unfold kc at h
 refine b8 Tryz.f70 false ?_
 exact ae<|Wp.seq<|aK (jQ []) (bR [(1,.frz),(2,.obj 2),(5,.obj 5),(6,.obj 6),(11,.obj 2),(12,.frz),(13,.frz),(14,.frz),(15,.frz),(16,.obj 2),(17,.frz),(18,.frz),(19,.frz),(20,.frz),(21,.obj 2),(22,.frz),(23,.frz),(24,.frz),(25,.frz),(26,.frz)]) kr kr<|aR 3 111 12 ay h fun y1 h _=>aR 4 116 6 aB h fun y2 h _=>aR 4 121 1 bd h fun y3 h _=>aa<|aL false 2 29 [.agg ((aB y2).map .t),.i 0,.s y3.fB] h (fun _=>Cn) fun r4 h=>aL false 3 33 [.agg ((aB y2).map .t),.i 1,.s p0.jh] h (fun _=>Cn) fun r5 h=>aE<|ar 2 155 aU y2.fP<|aa<|Wp.seq<|Wp.block<|wF (fun r4 r5 y2 x6 y1=>kv u r4 r5 y2 x6 y1=some r) (fun r4 r5 y2 x6 y1=>⟨[(4,.b false),(5,.obj 5 0),(6,.obj 6 0),(8,.b r4),(9,.b r5),(10,.b (((y2.fP.length:Int)) == 0)),(38,.b x6)],[(5,((ay y1).map .t)),(6,((aB y2).map .t))],[]⟩) (fun r4 r5 y2 x6 y1 h=>al h (fun h=>aE<|ah 2 48 h (fun h=>ah 2 50 h (fun h=>aa<|by cases h;exact Wp.ret aj) fun h=>aa<|by cases h;exact Wp.ret aj) fun h=>aa<|by cases h;exact Wp.ret aj) fun h=>ae<|al h (fun h=>aE<|ah 2 59 h (fun h=>aa<|by cases h;exact Wp.ret aj) fun h=>aa<|by cases h;exact Wp.ret aj) fun h=>ae<|al h (fun h=>aE<|ah 2 67 h (fun h=>aa<|by cases h;exact Wp.ret aj) fun h=>aa<|by cases h;exact Wp.ret aj) fun h=>Wp.skip<|b6<|aO<|aE<|ah 2 71 h (fun h=>ag false 7 79 [.agg ((aB y2).map .t),.agg ((ai y1.av).map .t),.agg [.i y1.a7.aT,.s y1.a7.bh],.i y1.aJ] h (fun _=>Jp) fun r7 h=>aa<|by cases h;exact Wp.ret aj) fun h=>aa<|by cases h;exact Wp.ret aj)<|aV [] []<|ah 4 42 h (fun h=>aa<|⟨_,_,_,_,_,h,lo []⟩) fun h=>aa<|⟨_,_,_,_,_,h,lo []⟩
theorem Jq {u p0 q0 r} (h:rc u p0 q0=some r):ak Tryz.prog 71 [cO (aI p0),.fptr [.int .i64 q0.fC.aS,.int .i64 q0.fC.gA,.int .i64 q0.fC.ep,.int .i64 q0.fC.ij,.sl 1 (q0.fT.cy.map (aw .i64)),.sl 1 (q0.jh.map (aw .u8)),.sl 1 (q0.fZ.map bd),.sl 12 (q0.fN.map ay),.sl 6 (q0.fD.map aB),.sl 3 (q0.eo.map aI),.sl 3 (q0.pX.map cp),.int .i64 q0.qL]] (V.b r) []:=by
 unfold rc at h
 refine b8 Tryz.f71 false ?_
 exact ae<|aE<|ag false 4 8 [.agg [.t (.sl 1 (q0.fT.cy.map (aw .i64)))],.i p0.du] h (fun _=>hP) fun r1 h=>ah 2 10 h (fun h=>aa<|by cases h;exact Wp.ret aj) fun h=>ag false 4 15 [.agg [.t (.sl 1 (q0.fT.cy.map (aw .i64)))],.i p0.GU] h (fun _=>hP) fun r2 h=>aa<|by cases h;exact Wp.ret aj
theorem i7 {u p0 p1_0 r} (h:ck u p0 p1_0=some r):ak Tryz.prog 124 [.one (.t (.sl 3 (p0.map aI))),.clo 71 [.fptr [.int .i64 p1_0.fC.aS,.int .i64 p1_0.fC.gA,.int .i64 p1_0.fC.ep,.int .i64 p1_0.fC.ij,.sl 1 (p1_0.fT.cy.map (aw .i64)),.sl 1 (p1_0.jh.map (aw .u8)),.sl 1 (p1_0.fZ.map bd),.sl 12 (p1_0.fN.map ay),.sl 6 (p1_0.fD.map aB),.sl 3 (p1_0.eo.map aI),.sl 3 (p1_0.pX.map cp),.int .i64 p1_0.qL]]] (V.i r) []:=by
 unfold ck at h
 refine b8 Tryz.f124 false ?_
 refine ae<|im (cN u=some r) ⟨[(4,.i 0)],[],[]⟩ (fun h=>ae<|by cases h;exact Wp.ret aj)<|aE<|ar 1 118 aI p0<|aa<|Wp.block<|ef (fun bl p0 p1_0 x2=>bp u bl p0 p1_0 x2=some r) (fun p0 p1_0 x2=>⟨[(0,.t (.sl 3 (p0.map aI))),(1,.clo 71 [.fadr (bN p1_0)]),(4,.i 0),(7,.i ((p0.length:Int))),(8,.i x2)],[],[]⟩) (fun bl p0 p1_0 x2 h=>?_) h (lo []) (fun _ _ _  h=>nomatch h)
 rw [bp] at h
 exact ae<|Wp.seq<|al h (fun h=>aC<|Wp.seq<|Wp.block<|ae<|aE<|aR 3 118 3 aI h fun y4 h _=>ag false 1 16 [.agg ((aI y4).map .t),.fadr (bN p1_0)] h (fun _=>Jq) fun r5 h=>aa<|al h (fun h=>ae<|by cases h;exact Wp.ret aj) fun h=>Wp.skip<|b6<|aO<|aV [] []<|aa<|⟨_,_,_,h,lo []⟩) fun h=>Wp.exit<|aZ<|aZ<|dj<|aO<|⟨h,lo []⟩
theorem il {u p0 p1_0 r} (h:bQ u p0 p1_0=some r):ak Tryz.prog 74 [.one (.t (.sl 3 (p0.map aI))),.clo 71 [.fptr [.int .i64 p1_0.fC.aS,.int .i64 p1_0.fC.gA,.int .i64 p1_0.fC.ep,.int .i64 p1_0.fC.ij,.sl 1 (p1_0.fT.cy.map (aw .i64)),.sl 1 (p1_0.jh.map (aw .u8)),.sl 1 (p1_0.fZ.map bd),.sl 12 (p1_0.fN.map ay),.sl 6 (p1_0.fD.map aB),.sl 3 (p1_0.eo.map aI),.sl 3 (p1_0.pX.map cp),.int .i64 p1_0.qL]]] (V.b r) []:=by
 unfold bQ at h
 refine b8 Tryz.f74 false ?_
 exact ae<|aL false 2 7 [.t (.sl 3 (p0.map aI)),.clo 71 [.fadr (bN p1_0)]] h (fun _=>i7) fun r1 h=>by cases h;exact Wp.ret aj
theorem Nw {u p0 r} (h:wa u p0=some r):ak Tryz.prog 31 [cO (bN p0)] (V.b r) []:=by
 unfold wa at h
 refine b8 Tryz.f31 false ?_
 refine ae<|Wp.seq<|pk (fun x5 p0=>gQ u x5 p0=some r) (fun x5 p0=>⟨[(1,.obj 1 0),(2,.b false),(54,.b x5)],[(1,((bN p0).map .t))],[]⟩) (fun x5 p0 h=>?_) ?_
 ·refine al h (fun h=>ae<|by cases h;exact Wp.ret aj) fun h=>aC<|aL false 1 56 [.agg ((bN p0).map .t)] h (fun _=>RV) fun r6 h=>kC (fun p0=>nk u p0=some r) (fun p0=>⟨[(1,.obj 1 0),(2,.b false)],[(1,((bN p0).map .t))],[]⟩) (fun p0 h=>Wp.seq<|Wp.le (ru 1 (bN p0) kr kr)<|aV [] []<|aa<|Wp.seq<|aK (jQ []) (bR [(1,.frz),(102,.frz),(103,.frz),(104,.frz),(105,.frz),(106,.frz),(107,.frz),(108,.frz),(109,.frz),(110,.frz),(111,.frz),(112,.frz),(113,.frz),(114,.frz),(115,.frz),(116,.frz),(118,.frz),(119,.frz),(120,.frz),(121,.frz),(122,.frz),(123,.frz),(124,.frz),(125,.frz),(127,.frz),(128,.frz),(129,.frz),(130,.frz),(131,.frz),(133,.frz),(134,.frz),(135,.frz),(136,.frz),(138,.frz),(140,.frz),(141,.frz),(142,.frz),(143,.frz),(144,.frz),(146,.frz),(147,.frz),(148,.frz),(149,.frz),(151,.frz)]) kr kr<|aR 2 111 12 ay h fun y18 h _=>ah 3 107 h (fun h=>aR 2 116 6 aB h fun y19 h _=>aR 3 121 1 bd h fun y20 h _=>ag false 2 117 [.agg ((aB y19).map .t),.i 0,.s y20.fB] h (fun _=>Cn) fun r21 h=>ah 2 119 h (fun h=>aR 2 116 6 aB h fun y22 h _=>ar 2 155 aU y22.fP<|ah 3 128 h (fun h=>ar 2 118 aI p0.eo<|ah 3 134 h (fun h=>ag false 3 138 [.t (.sl 3 (p0.eo.map aI)),.clo 71 [.fadr (bN p0)]] h (fun _=>il) fun r23 h=>ah 3 141 h (fun h=>ar 2 127 cp p0.pX<|ah 3 147 h (fun h=>aa<|by cases h;exact Wp.ret aj) fun h=>aa<|by cases h;exact Wp.ret aj) fun h=>aa<|by cases h;exact Wp.ret aj) fun h=>aa<|by cases h;exact Wp.ret aj) fun h=>aa<|by cases h;exact Wp.ret aj) fun h=>aa<|by cases h;exact Wp.ret aj) fun h=>aa<|by cases h;exact Wp.ret aj)<|aE<|ar 2 111 ay p0.fN<|aa<|Wp.block<|ef (fun dP p0 x8 r6=>d6 u dP p0 x8 r6=some r) (fun p0 x8 r6=>⟨[(1,.obj 1 0),(2,.b false),(3,.obj 3 0),(58,.t (.sl 12 (p0.fN.map ay))),(59,.i ((p0.fN.length:Int))),(60,.i x8)],[(1,((bN p0).map .t)),(3,[.i r6.aP,.i r6.aS,.i r6.aY,.own 197123])],[(197123,.live 176 2 (r6.aD.map aH))]⟩) (fun dP p0 x8 r6 h=>?_) h (lo [(197123,3670019)]) (fun _ _ _  h=>nomatch h)
  rw [d6] at h
  exact ae<|Wp.seq<|al h (fun h=>aC<|Wp.seq<|Wp.block<|aE<|aR 1 111 12 ay h fun y10 h _=>aa<|Wp.seq<|nO (fun x8 p0 x15 r6=>fu u (fun z0 z1 z2=>d6 u dP z0 z1 z2) x8 p0 x15 r6=some r) (fun x8 p0 x15 r6=>⟨[(1,.obj 1 0),(2,.b false),(3,.obj 3 0),(4,.i x8),(58,.t (.sl 12 (p0.fN.map ay))),(59,.i ((p0.fN.length:Int))),(60,.i x8),(91,.b x15)],[(1,((bN p0).map .t)),(3,[.i r6.aP,.i r6.aS,.i r6.aY,.own 197123])],[(197123,.live 176 2 (r6.aD.map aH))]⟩) (fun x8 p0 x15 r6 h=>al h (fun h=>ae<|by cases h;exact Wp.ret aj) fun h=>aC<|nO (fun p0 x8 x17 r6=>ub u (fun z0 z1 z2=>d6 u dP z0 z1 z2) p0 x8 x17 r6=some r) (fun p0 x8 x17 r6=>⟨[(1,.obj 1 0),(2,.b false),(3,.obj 3 0),(58,.t (.sl 12 (p0.fN.map ay))),(59,.i ((p0.fN.length:Int))),(60,.i x8),(99,.b x17)],[(1,((bN p0).map .t)),(3,[.i r6.aP,.i r6.aS,.i r6.aY,.own 197123])],[(197123,.live 176 2 (r6.aD.map aH))]⟩) (fun p0 x8 x17 r6 h=>al h (fun h=>ae<|by cases h;exact Wp.ret aj) fun h=>Wp.skip<|b6<|aO<|aV [] []<|aa<|⟨_,_,_,h,lo []⟩)<|aV [] []<|ah 3 94 h (fun h=>ag false 2 97 [.agg ((bN p0).map .t),.i x8] h (fun _=>Dm) fun r16 h=>aa<|⟨_,_,_,_,h,lo []⟩) fun h=>aa<|⟨_,_,_,_,h,lo []⟩)<|aV [] []<|ag false 4 69 [.agg [.t (.sl 1 (p0.fT.cy.map (aw .i64)))],.i x8,.agg ((ay y10).map .t)] h (fun _=>P7) fun r11 h=>ah 2 71 h (fun h=>aa<|⟨_,_,_,_,h,lo []⟩) fun h=>aR 3 116 6 aB h fun y12 h _=>ag false 1 77 [.agg ((aB y12).map .t)] h (fun _=>Bb) fun r13 h=>ah 3 80 h (fun h=>aa<|⟨_,_,_,_,h,lo []⟩) fun h=>ah 4 84 h (fun h=>eX 3 88 [.agg ((ai y10.av).map .t),.agg [.i r6.aP,.i r6.aS,.i r6.aY,.own 197123]] h (fun _=>zD) fun r14 h=>aa<|⟨_,_,_,_,h,lo []⟩) fun h=>aa<|⟨_,_,_,_,h,lo []⟩) fun h=>Wp.exit<|aZ<|aZ<|dj<|aO<|⟨_,h,lo []⟩
 exact aV [] []<|ag false 2 9 [.agg ((pE p0.fC).map .t)] h (fun _=>P4) fun r1 h=>ah 2 11 h (fun h=>aa<|⟨_,_,h,lo []⟩) fun h=>ag false 2 14 [.agg [.t (.sl 1 (p0.fT.cy.map (aw .i64)))]] h (fun _=>Fa) fun r2 h=>ah 3 17 h (fun h=>aa<|⟨_,_,h,lo []⟩) fun h=>ar 5 5 (aw .u8) p0.jh<|ag false 0 24 [.i p0.fC.aS,.i ((p0.jh.length:Int))] h (fun _=>wN) fun r3 h=>ah 3 27 h (fun h=>aa<|⟨_,_,h,lo []⟩) fun h=>ag false 4 32 [.agg [.t (.sl 1 (p0.fT.cy.map (aw .i64)))],.t (.sl 1 (p0.fZ.map bd))] h (fun _=>Jl) fun r4 h=>ah 3 35 h (fun h=>aa<|⟨_,_,h,lo []⟩) fun h=>ar 2 111 ay p0.fN<|ar 3 3 (aw .i64) p0.fT.cy<|ah 3 45 h (fun h=>aa<|⟨_,_,h,lo []⟩) fun h=>ar 2 116 aB p0.fD<|ar 3 3 (aw .i64) p0.fT.cy<|aa<|⟨_,_,h,lo []⟩
theorem tw {u p0 r} (h:eU u p0=some r):ak Tryz.prog 260 [.one (.t (.sl 2 (p0.map aH)))] (.one (.ow 176 2 (r.map aH))) []:=by
 unfold eU at h
 refine Gz (fn:=Tryz.f260) (m:=true) kr rfl kr (by decide) kr (fun hn=>?_) ?_
 ·have hp:p0=[]:=by simpa using hn
  subst hp
  have h:some ([]:List bM)=some r:=h
  exact ae<|pj ⟨[(0,.nil),(2,.nil)],[],[]⟩<|Wp.seq<|ae<|pj ⟨[(0,.nil),(2,.nil),(4,.b true)],[],[]⟩<|UF kr<|ae<|pj ⟨[(0,.nil),(2,.nil)],[],[]⟩<|by cases h;exact Wp.ret aj
 exact ae<|pj ⟨[(0,.nn 2 (p0.map aH)),(2,.nil)],[],[]⟩<|Wp.seq<|ae<|pj ⟨[(0,.nn 2 (p0.map aH)),(2,.nil),(4,.b false)],[],[]⟩<|UG kr<|aC<|Wp.le (WC 0 2 (p0.map aH) rfl rfl)<|pj ⟨[(0,.t (.sl 2 (p0.map aH))),(2,.nil),(4,.b false)],[],[]⟩<|aE<|cg 2 7 176 2 327680 aH h fun h=>aa<|pj ⟨[(2,.own 458752)],[],[(458752,.live 176 2 (((([]:List bM))++p0).map aH))]⟩<|by cases h;exact Wp.ret aj
theorem Es {u p0 r} (h:sd u p0=some r):ak Tryz.prog 220 [cO (ai p0)] (V.w [0,0,0,176] (ai r)) []:=by
 unfold sd at h
 refine b8 Tryz.f220 true ?_
 exact ae<|aL false 2 5 [.t (.sl 2 (p0.aD.map aH))] h (fun _=>tw) fun r1 h=>ae<|by cases h;exact Wp.ret aj
theorem B4 {u p0 r} (h:oH u p0=some r):ak Tryz.prog 221 [cO (cJ p0)] (V.w [0,5] (cJ r)) []:=by
 unfold oH at h
 refine b8 Tryz.f221 true ?_
 exact ae<|Wp.seq<|aK (jQ []) (bR [(1,.obj 1),(2,.obj 2),(3,.obj 1),(4,.frz),(5,.obj 1),(6,.frz),(7,.own 7),(8,.own 7)]) kr kr<|ag false 4 7 [.s p0.bh] h (fun _=>gI) fun r1 h=>aa<|by cases h;exact Wp.ret aj
theorem gJ {u p0 r} (h:cG u p0=some r):ak Tryz.prog 222 [.one (.t (.sl 5 (p0.map aq)))] (.one (.ow 149 5 (r.map aq))) []:=by
 unfold cG at h
 refine Gz (fn:=Tryz.f222) (m:=true) kr rfl kr (by decide) kr (fun hn=>?_) ?_
 ·have hp:p0=[]:=by simpa using hn
  subst hp
  have h:some ([]:List Kid)=some r:=h
  exact ae<|pj ⟨[(0,.nil),(2,.nil)],[],[]⟩<|Wp.seq<|ae<|pj ⟨[(0,.nil),(2,.nil),(4,.b true)],[],[]⟩<|UF kr<|ae<|pj ⟨[(0,.nil),(2,.nil)],[],[]⟩<|by cases h;exact Wp.ret aj
 exact ae<|pj ⟨[(0,.nn 5 (p0.map aq)),(2,.nil)],[],[]⟩<|Wp.seq<|ae<|pj ⟨[(0,.nn 5 (p0.map aq)),(2,.nil),(4,.b false)],[],[]⟩<|UG kr<|aC<|Wp.le (WC 0 5 (p0.map aq) rfl rfl)<|pj ⟨[(0,.t (.sl 5 (p0.map aq))),(2,.nil),(4,.b false)],[],[]⟩<|aE<|cg 2 7 149 5 327680 aq h fun h=>aa<|pj ⟨[(2,.own 458752)],[],[(458752,.live 149 5 (((([]:List Kid))++p0).map aq))]⟩<|by cases h;exact Wp.ret aj
theorem jx {u p0 r} (h:gG u p0=some r):ak Tryz.prog 180 [cO (ay p0)] (V.w [0,0,0,0,0,0,176,0,5,0,149,0] (ay r)) []:=by
 unfold gG at h
 refine b8 Tryz.f180 true ?_
 exact ae<|Wp.seq<|aK (jQ []) (bR [(1,.obj 1),(3,.obj 1),(4,.frz),(5,.own 5),(6,.obj 1),(7,.frz),(8,.own 8),(9,.obj 1),(10,.frz),(11,.own 11),(12,.obj 1),(13,.obj 1),(14,.obj 1)]) kr kr<|ag false 2 5 [.agg ((ai p0.av).map .t)] h (fun _=>Es) fun r1 h=>ag false 2 8 [.agg [.i p0.a7.aT,.s p0.a7.bh]] h (fun _=>B4) fun r2 h=>ag false 2 11 [.t (.sl 5 (p0.aN.map aq))] h (fun _=>gJ) fun r3 h=>aa<|ae<|by cases h;exact Wp.ret aj
theorem Et {u p0 p1 p2 r} (h:pA u p0 p1 p2=some r):ak Tryz.prog 261 [.one (.s p0),V.i p1,V.i p2] (.tup [V.i r.1,V.i r.2.1,V.b r.2.2]) []:=by
 unfold pA at h
 refine b8 Tryz.f261 false ?_
 refine ae<|ae<|im (uc u=some r) ⟨[(6,.i 0),(7,.i 0),(8,.b false)],[],[]⟩ (fun h=>ae<|by cases h;exact Wp.ret aj)<|ae<|Wp.block<|Jc (fun kG p0 p1 x3 p2 x4=>fv u kG p0 p1 x3 p2 x4=some r) (fun p0 p1 x3 p2 x4=>⟨[(0,.s p0),(1,.i p1),(6,.i 0),(7,.i 0),(8,.b false),(9,.i x3),(12,.i p2),(13,.i x4)],[],[]⟩) (fun kG p0 p1 x3 p2 x4 h=>?_) h (lo []) (fun _ _ _ _ _  h=>nomatch h)
 rw [fv] at h
 refine ae<|Wp.seq<|al h (fun h=>?_) (fun h=>?_)
 ·refine aC<|Wp.seq<|Wp.block<|ae<|Wp.seq<|aE<|ar 2 5 (aw .u8) p0<|ag false 3 22 [.i p1,.i 0,.i (cu .i64 (cu .i64 ((p0.length:Int)) 1) x4)] h (fun _=>bm) fun r7 h=>aa<|al h (fun h=>ae<|by cases h;exact Wp.ret aj) fun h=>aC<|aE<|aR 4 5 1 (aw .u8) h fun y8 h _=>aa<|aE<|bc 5 kr ?_
  obtain ⟨_,e_9,h⟩:=bind_some h
  exact iM .shl (.int .i64 (fx .i64 (IntKind.wrap .i64 y8) 127)) (.int .i64 (gR .i64 7 x4)) (.int .i64 (i4 .i64 (fx .i64 (IntKind.wrap .i64 y8) 127) (gR .i64 7 x4))) rfl kr kr kr kr (B2 _ _ _ _ _ (bj e_9))<|aa<|ae<|al h (fun h=>aE<|ah 8 47 h (fun h=>aa<|by cases h;exact Wp.ret aj) fun h=>aa<|by cases h;exact Wp.ret aj) fun h=>Wp.skip<|b6<|aO<|aV [] []<|aa<|⟨_,_,_,_,_,h,lo []⟩
 exact Wp.exit<|aZ<|aZ<|dj<|aO<|⟨h,lo []⟩
theorem wR {u p0 p1 r} (h:nJ u p0 p1=some r):ak Tryz.prog 223 [.one (.s p0),V.i p1] (.tup [V.i r.1,V.i r.2.1,V.b r.2.2]) []:=by
 unfold nJ at h
 refine b8 Tryz.f223 false ?_
 exact ae<|aL false 2 13 [.s p0,.i p1,.i 6] h (fun _=>Et) fun r1 h=>Wp.seq<|pk (fun r1 x2=>re u r1 x2=some r) (fun r1 x2=>⟨[(4,.i 0),(5,.i 0),(6,.b false),(7,.i r1.1),(8,.i r1.2.1),(22,.b x2)],[],[]⟩) (fun r1 x2 h=>al h (fun h=>ae<|by cases h;exact Wp.ret aj) fun h=>aC<|ae<|by cases h;exact Wp.ret aj)<|aV [] []<|ah 3 19 h (fun h=>aa<|⟨_,_,h,lo []⟩) fun h=>aa<|⟨_,_,h,lo []⟩
theorem xK {u p0 p1 p2 r} (h:nU u p0 p1 p2=some r):ak Tryz.prog 263 [.one (.s p0),V.i p1,V.i p2] (.tup [.one (.ow 3 1 (r.1.map (aw .i64))),V.i r.2.1,V.b r.2.2]) []:=by
 unfold nU at h
 refine b8 Tryz.f263 true ?_
 refine ae<|ae<|pk (fun x11 x12=>se u x11 x12=some r) (fun x11 x12=>⟨[(1,.i x11),(6,.nil),(7,.i 0),(8,.b false),(9,.own 589825)],[],[(589825,.live 3 1 (x12.map (aw .i64)))]⟩) (fun x11 x12 h=>ae<|by cases h;exact Wp.ret aj)<|ae<|Wp.block<|Jc (fun jC p0 x4 x5 p2 x6=>fG u jC p0 x4 x5 p2 x6=some r) (fun p0 x4 x5 p2 x6=>⟨[(0,.s p0),(1,.i x4),(6,.nil),(7,.i 0),(8,.b false),(9,.own 589825),(14,.i p2),(15,.i x6)],[],[(589825,.live 3 1 (x5.map (aw .i64)))]⟩) (fun jC p0 x4 x5 p2 x6 h=>?_) h (lo [(589825,851968)]) (fun _ _ _ _ _  h=>nomatch h)
 rw [fG] at h
 exact ae<|Wp.seq<|al h (fun h=>aC<|Wp.seq<|Wp.block<|aL false 2 20 [.s p0,.i x4] h (fun _=>wR) fun r10 h=>Wp.seq<|ae<|al h (fun h=>ae<|by cases h;exact Wp.ret aj) fun h=>aC<|aE<|cg 3 29 3 1 589825 (aw .i64) h fun h=>aa<|aV [] []<|ab.all kr<|b6<|aO<|aV [] []<|aa<|⟨_,_,_,_,_,h,lo [(589825,1900544)]⟩) fun h=>Wp.exit<|aZ<|aZ<|dj<|aO<|⟨_,_,h,lo []⟩
theorem P9 {u p0 p1 r} (h:yE u p0 p1=some r):ak Tryz.prog 262 [.one (.s p0),V.i p1] (.tup [V.w [0,0,0,176] (ai r.1),V.i r.2.1,V.b r.2.2]) []:=by
 unfold yE at h
 refine b8 Tryz.f262 true ?_
 refine ae<|aL false 2 18 [.s p0,.i p1,.i 3] h (fun _=>xK) fun r1 h=>Wp.seq<|ae<|al h (fun h=>ae<|by cases h;exact Wp.ret aj) fun h=>aC<|Wp.seq<|aK (jQ []) (bR [(7,.own 18),(9,.obj 9),(25,.own 18),(26,.el 18),(27,.frz),(28,.own 18),(29,.el 18),(30,.frz),(31,.own 18),(32,.el 18),(33,.frz),(34,.frz)]) kr kr<|cI 1 3 1 1179648 3 (aw .i64) h fun y2 h e_y2=>iN 0 1 1 1179648 0 3 false (aw .i64) ((cq e_y2).2)<|cI 1 3 1 1179648 3 (aw .i64) h fun y3 h e_y3=>iN 0 1 1 1179648 0 3 false (aw .i64) ((cq e_y3).2)<|cI 1 3 1 1179648 3 (aw .i64) h fun y4 h e_y4=>iN 0 1 1 1179648 0 3 false (aw .i64) ((cq e_y4).2)<|aa<|wF (fun x19 y2 y3 y4 x20=>wb u x19 y2 y3 y4 x20=some r) (fun x19 y2 y3 y4 x20=>⟨[(1,.i x19),(4,.obj 4 0),(5,.i 0),(6,.b false),(9,.obj 9 0)],[(4,[.i 0,.i 0,.i 0,.nil]),(9,[.i y2,.i y3,.i y4,.own 590339])],[(590339,.live 176 2 (x20.map aH))]⟩) (fun x19 y2 y3 y4 x20 h=>Wp.seq<|aE<|eX 1 71 [.agg [.i y2,.i y3,.i y4,.own 590339]] h (fun _=>n4) fun r21 h=>aa<|al h (fun h=>ae<|by cases h;exact Wp.ret aj) fun h=>aC<|ae<|by cases h;exact Wp.ret aj)<|aL false 4 39 [.i y3,.i y4] h (fun _=>wO) fun r5 h=>Wp.block<|PD (fun hZ p0 x9 r5 x10 y2 y3 y4 x11=>fm u hZ p0 x9 r5 x10 y2 y3 y4 x11=some r) (fun p0 x9 r5 x10 y2 y3 y4 x11=>⟨[(0,.s p0),(1,.i x9),(4,.obj 4 0),(5,.i 0),(6,.b false),(9,.obj 9 0),(39,.i r5),(40,.i x10)],[(4,[.i 0,.i 0,.i 0,.nil]),(9,[.i y2,.i y3,.i y4,.own 590339])],[(590339,.live 176 2 (x11.map aH))]⟩) (fun hZ p0 x9 r5 x10 y2 y3 y4 x11 h=>?_) h (Le.trans (jv 9 3 590339 176 2 [.i y2,.i y3,.i y4,.nil] kr kr kr) (lo [])) (fun _ _ _ _ _ _ _ _  h=>nomatch h)
 rw [fm] at h
 exact ae<|Wp.seq<|al h (fun h=>aC<|Wp.seq<|Wp.block<|aL false 2 45 [.s p0,.i x9,.i 8] h (fun _=>Et) fun r15 h=>aL false 1 51 [.i r15.1] h (fun _=>Ep) fun r16 h=>Wp.seq<|Ye (fun p0 x9 r15 r16 r5 x10 x17 y2 y3 y4 x11=>oI u (fun z0 z1 z2 z3 z4 z5 z6 z7=>fm u hZ z0 z1 z2 z3 z4 z5 z6 z7) p0 x9 r15 r16 r5 x10 x17 y2 y3 y4 x11=some r) (fun p0 x9 r15 r16 r5 x10 x17 y2 y3 y4 x11=>⟨[(0,.s p0),(1,.i x9),(4,.obj 4 0),(5,.i 0),(6,.b false),(9,.obj 9 0),(11,.i r15.2.1),(13,.own 851969),(39,.i r5),(40,.i x10),(59,.b x17)],[(4,[.i 0,.i 0,.i 0,.nil]),(9,[.i y2,.i y3,.i y4,.own 590339])],[(590339,.live 176 2 (x11.map aH)),(851969,.live 5 1 (r16.1.map (aw .u8)))]⟩) (fun p0 x9 r15 r16 r5 x10 x17 y2 y3 y4 x11 h=>al h (fun h=>ae<|by cases h;exact Wp.ret aj) fun h=>aC<|Wp.seq<|aK (jQ []) (bR [(9,.obj 9),(13,.own 13),(61,.obj 9),(62,.own 9),(63,.own 13),(64,.frz),(65,.own 65),(66,.own 66),(67,.obj 9)]) kr kr<|eX 3 64 [.own 851969] h (fun _=>tv) fun r18 h=>cg (ys:=[r18]) 1 66 176 2 590339 aH h fun h=>aa<|aV [] []<|ab.all kr<|b6<|aO<|aV [] []<|aa<|⟨_,_,_,_,_,_,_,_,h,lo [(590339,4325376)]⟩)<|aV [] []<|ah 3 56 h (fun h=>aa<|⟨_,_,_,_,_,_,_,_,_,_,_,h,lo [(851969,3342336)]⟩) fun h=>aa<|⟨_,_,_,_,_,_,_,_,_,_,_,h,lo [(851969,3342336)]⟩) fun h=>Wp.exit<|aZ<|aZ<|dj<|aO<|⟨_,_,_,_,_,h,lo []⟩
theorem Nx {u p0 p1 p2 r} (h:wc u p0 p1 p2=some r):ak Tryz.prog 264 [.one (.s p0),V.i p1,V.i p2] (.tup [.one (.ow 5 1 (r.1.map (aw .u8))),V.i r.2.1,V.b r.2.2]) []:=by
 unfold wc at h
 refine b8 Tryz.f264 true ?_
 exact ae<|aL false 2 16 [.s p0,.i p1] h (fun _=>wR) fun r1 h=>Wp.seq<|lx (fun p0 r1 x2=>ud u p0 r1 x2=some r) (fun p0 r1 x2=>⟨[(0,.s p0),(6,.nil),(7,.i 0),(8,.b false),(9,.i r1.1),(10,.i r1.2.1),(26,.b x2)],[],[]⟩) (fun p0 r1 x2 h=>al h (fun h=>ae<|by cases h;exact Wp.ret aj) fun h=>aC<|aL false 3 31 [.s p0,.i r1.2.1,.i r1.1] h (fun _=>GF) fun r3 h=>Wp.seq<|ae<|al h (fun h=>ae<|by cases h;exact Wp.ret aj) fun h=>aC<|ae<|by cases h;exact Wp.ret aj)<|aV [] []<|ah 3 22 h (fun h=>aa<|⟨_,_,_,h,lo []⟩) fun h=>aa<|⟨_,_,_,h,lo []⟩
theorem Ny {u p0 p1 p2 r} (h:fH u p0 p1 p2=some r):ak Tryz.prog 224 [.one (.s p0),V.i p1,V.i p2] (.tup [V.w [0,0,0,0,0,176,0,0,0,5] (dA r.1),V.b r.2]) []:=by
 unfold fH at h
 refine b8 Tryz.f224 true ?_
 exact ae<|ae<|ae<|Ye (fun x13 p1 x14 x15 x16 x17 x18 x19 x20 x21 x22=>kY u x13 p1 x14 x15 x16 x17 x18 x19 x20 x21 x22=some r) (fun x13 p1 x14 x15 x16 x17 x18 x19 x20 x21 x22=>⟨[(6,.obj 6 0),(7,.b false),(8,.obj 8 0),(9,.b x13)],[(6,[.i 0,.i 0,.i 0,.i 0,.i 0,.nil,.i 0,.i 0,.i 0,.nil]),(8,[.i p1,.i x14,.i x15,.i x16,.i x17,.own 524805,.i x19,.i x20,.i x21,.own 524809])],[(524805,.live 176 2 (x18.map aH)),(524809,.live 5 1 (x22.map (aw .u8)))]⟩) (fun x13 p1 x14 x15 x16 x17 x18 x19 x20 x21 x22 h=>ae<|by cases h;exact Wp.ret aj)<|ae<|Wp.block<|ae<|al h (fun h=>aV [] []<|ag false 2 24 [.s p0,.i p2] h (fun _=>P9) fun r1 h=>ab.all kr<|b6<|aO<|⟨_,_,_,_,_,_,_,_,_,_,_,h,Le.trans (jv 8 9 524809 5 1 [.i p1,.i 0,.i r1.1.aP,.i r1.1.aS,.i r1.1.aY,.own 1572867,.i 0,.i 0,.i 0,.nil] kr kr kr) (lo [(524805,1572867)])⟩) fun h=>ae<|al h (fun h=>aL false 2 34 [.s p0,.i p2,.i 5] h (fun _=>xK) fun r2 h=>Wp.seq<|ae<|al h (fun h=>ae<|by cases h;exact Wp.ret aj) fun h=>aC<|aK (jQ []) (bR [(8,.obj 8),(10,.own 34),(41,.own 34),(42,.el 34),(43,.frz),(44,.own 34),(45,.el 34),(46,.frz),(47,.own 34),(48,.el 34),(49,.frz),(50,.frz),(51,.frz),(52,.own 34),(53,.el 34),(54,.frz),(55,.own 34),(56,.el 34),(57,.frz),(58,.frz),(59,.frz),(60,.obj 8),(61,.obj 8),(62,.obj 8)]) kr kr<|cI 1 3 1 2228224 3 (aw .i64) h fun y3 h e_y3=>iN 0 1 1 2228224 0 3 false (aw .i64) ((cq e_y3).2)<|cI 1 3 1 2228224 3 (aw .i64) h fun y4 h e_y4=>iN 0 1 1 2228224 0 3 false (aw .i64) ((cq e_y4).2)<|cI 1 3 1 2228224 3 (aw .i64) h fun y5 h e_y5=>iN 0 1 1 2228224 0 3 false (aw .i64) ((cq e_y5).2)<|cI 3 3 1 2228224 3 (aw .i64) h fun y6 h e_y6=>iN 0 1 1 2228224 0 3 false (aw .i64) ((cq e_y6).2)<|cI 1 3 1 2228224 3 (aw .i64) h fun y7 h e_y7=>iN 0 1 1 2228224 0 3 false (aw .i64) ((cq e_y7).2)<|ab.all kr<|b6<|aO<|⟨_,_,_,_,_,_,_,_,_,_,_,h,Le.trans (jv 8 5 524805 176 2 [.i p1,.i y3,.i 0,.i 0,.i 0,.nil,.i (sV .i64 y4 (i4 .i64 y5 20)),.i (sV .i64 y6 (i4 .i64 y7 20)),.i 0,.nil] kr kr kr) (Le.trans (jv 8 9 524809 5 1 [.i p1,.i y3,.i 0,.i 0,.i 0,.own 524805,.i (sV .i64 y4 (i4 .i64 y5 20)),.i (sV .i64 y6 (i4 .i64 y7 20)),.i 0,.nil] kr kr kr) (lo []))⟩) fun h=>ae<|al h (fun h=>aL false 2 68 [.s p0,.i p2,.i 2] h (fun _=>xK) fun r8 h=>Wp.seq<|ae<|al h (fun h=>ae<|by cases h;exact Wp.ret aj) fun h=>aC<|Wp.seq<|aK (jQ []) (bR [(8,.obj 8),(13,.own 68),(75,.own 68),(76,.el 68),(77,.frz),(78,.own 68),(79,.el 68),(80,.frz),(81,.obj 8),(82,.obj 8)]) kr kr<|cI 1 3 1 4456448 3 (aw .i64) h fun y9 h e_y9=>iN 0 1 1 4456448 0 3 false (aw .i64) ((cq e_y9).2)<|cI 1 3 1 4456448 3 (aw .i64) h fun y10 h e_y10=>iN 0 1 1 4456448 0 3 false (aw .i64) ((cq e_y10).2)<|aa<|aV [] []<|ag false 2 86 [.s p0,.i r8.2.1,.i 6] h (fun _=>Nx) fun r11 h=>ab.all kr<|b6<|aO<|⟨_,_,_,_,_,_,_,_,_,_,_,h,Le.trans (jv 8 5 524805 176 2 [.i p1,.i y9,.i 0,.i 0,.i 0,.nil,.i 0,.i 0,.i y10,.own 5636096] kr kr kr) (lo [(524809,5636096)])⟩) fun h=>ae<|al h (fun h=>aV [] []<|ag false 2 96 [.s p0,.i p2] h (fun _=>wR) fun r12 h=>ab.all kr<|b6<|aO<|⟨_,_,_,_,_,_,_,_,_,_,_,h,Le.trans (jv 8 5 524805 176 2 [.i p1,.i r12.1,.i 0,.i 0,.i 0,.nil,.i 0,.i 0,.i 0,.nil] kr kr kr) (Le.trans (jv 8 9 524809 5 1 [.i p1,.i r12.1,.i 0,.i 0,.i 0,.own 524805,.i 0,.i 0,.i 0,.nil] kr kr kr) (lo []))⟩) fun h=>Wp.skip<|b6<|aO<|⟨_,_,_,_,_,_,_,_,_,_,_,h,Le.trans (jv 8 5 524805 176 2 [.i p1,.i 0,.i 0,.i 0,.i 0,.nil,.i 0,.i 0,.i 0,.nil] kr kr kr) (Le.trans (jv 8 9 524809 5 1 [.i p1,.i 0,.i 0,.i 0,.i 0,.own 524805,.i 0,.i 0,.i 0,.nil] kr kr kr) (lo []))⟩
theorem oa {u p0 p1 p2 p3 r} (h:ju u p0 p1 p2 p3=some r):ak Tryz.prog 265 [cO (dA p0),V.b p1,V.b p2,V.b p3] (V.b r) []:=by
 unfold ju at h
 refine b8 Tryz.f265 false ?_
 exact ae<|aE<|ah 2 10 h (fun h=>ah 7 17 h (fun h=>ah 13 30 h (fun h=>aa<|by cases h;exact Wp.ret aj) fun h=>ah 4 34 h (fun h=>ar 2 5 (aw .u8) p0.fB<|aa<|by cases h;exact Wp.ret aj) fun h=>aa<|by cases h;exact Wp.ret aj) fun h=>ah 4 21 h (fun h=>ah 7 28 h (fun h=>ah 2 30 h (fun h=>aa<|by cases h;exact Wp.ret aj) fun h=>ah 4 34 h (fun h=>ar 2 5 (aw .u8) p0.fB<|aa<|by cases h;exact Wp.ret aj) fun h=>aa<|by cases h;exact Wp.ret aj) fun h=>aa<|by cases h;exact Wp.ret aj) fun h=>aa<|by cases h;exact Wp.ret aj) fun h=>ag false 2 13 [.agg ((ai p0.av).map .t)] h (fun _=>qF) fun r1 h=>ah 2 15 h (fun h=>ah 2 17 h (fun h=>ah 13 30 h (fun h=>aa<|by cases h;exact Wp.ret aj) fun h=>ah 4 34 h (fun h=>ar 2 5 (aw .u8) p0.fB<|aa<|by cases h;exact Wp.ret aj) fun h=>aa<|by cases h;exact Wp.ret aj) fun h=>ah 4 21 h (fun h=>ah 7 28 h (fun h=>ah 2 30 h (fun h=>aa<|by cases h;exact Wp.ret aj) fun h=>ah 4 34 h (fun h=>ar 2 5 (aw .u8) p0.fB<|aa<|by cases h;exact Wp.ret aj) fun h=>aa<|by cases h;exact Wp.ret aj) fun h=>aa<|by cases h;exact Wp.ret aj) fun h=>aa<|by cases h;exact Wp.ret aj) fun h=>aa<|by cases h;exact Wp.ret aj
theorem GG {u p0 r} (h:xA u p0=some r):ak Tryz.prog 225 [cO (dA p0)] (V.b r) []:=by
 unfold xA at h
 refine b8 Tryz.f225 false ?_
 exact ae<|Wp.seq<|ae<|Wp.block<|ae<|al h (fun h=>aE<|ag false 2 9 [.agg ((ai p0.av).map .t)] h (fun _=>n4) fun r1 h=>ah 1 10 h (fun h=>ah 6 16 h (fun h=>ah 5 21 h (fun h=>ag false 1 23 [.agg ((dA p0).map .t),.b true,.b false,.b false] h (fun _=>oa) fun r2 h=>aa<|by cases h;exact Wp.ret aj) fun h=>aa<|by cases h;exact Wp.ret aj) fun h=>aa<|by cases h;exact Wp.ret aj) fun h=>aa<|by cases h;exact Wp.ret aj) fun h=>ae<|al h (fun h=>aE<|ag false 2 29 [.i p0.aP] h (fun _=>Cm) fun r3 h=>ah 1 30 h (fun h=>ag false 2 33 [.i p0.bw] h (fun _=>dz) fun r4 h=>ah 2 35 h (fun h=>ag false 2 38 [.i p0.bL] h (fun _=>dz) fun r5 h=>ah 2 40 h (fun h=>ag false 1 42 [.agg ((dA p0).map .t),.b false,.b true,.b false] h (fun _=>oa) fun r6 h=>aa<|by cases h;exact Wp.ret aj) fun h=>aa<|by cases h;exact Wp.ret aj) fun h=>aa<|by cases h;exact Wp.ret aj) fun h=>aa<|by cases h;exact Wp.ret aj) fun h=>ae<|al h (fun h=>aE<|ag false 2 48 [.i p0.aP,.i 1,.i 1000000] h (fun _=>bm) fun r7 h=>ah 1 49 h (fun h=>ag false 2 52 [.i p0.fI] h (fun _=>Er) fun r8 h=>ah 2 54 h (fun h=>ar 2 5 (aw .u8) p0.fB<|ag false 0 58 [.i ((p0.fB.length:Int)),.i 1,.i 6] h (fun _=>bm) fun r9 h=>ah 2 60 h (fun h=>ag false 1 62 [.agg ((dA p0).map .t),.b false,.b false,.b true] h (fun _=>oa) fun r10 h=>aa<|by cases h;exact Wp.ret aj) fun h=>aa<|by cases h;exact Wp.ret aj) fun h=>aa<|by cases h;exact Wp.ret aj) fun h=>aa<|by cases h;exact Wp.ret aj) fun h=>ae<|al h (fun h=>aE<|ag false 2 68 [.i p0.aP] h (fun _=>Cm) fun r11 h=>ah 1 69 h (fun h=>ag false 1 71 [.agg ((dA p0).map .t),.b false,.b false,.b false] h (fun _=>oa) fun r12 h=>aa<|by cases h;exact Wp.ret aj) fun h=>aa<|by cases h;exact Wp.ret aj) fun h=>Wp.skip<|b6<|aO<|ae<|by cases h;exact Wp.ret aj
theorem B5 {u p0 p1 r} (h:oJ u p0 p1=some r):ak Tryz.prog 294 [.one (.ow 5 1 (p0.map (aw .u8))),V.i p1] (.one (.ow 5 1 (r.map (aw .u8)))) []:=by
 unfold oJ at h
 refine b8 Tryz.f294 true ?_
 refine ae<|pk (fun x7 x8=>qD u x7 x8=some r) (fun x7 x8=>⟨[(0,.own 1),(1,.i x8),(4,.nil)],[],[(1,.live 5 1 (x7.map (aw .u8)))]⟩) (fun x7 x8 h=>aE<|cg 4 19 5 1 1 (aw .u8) h fun h=>aa<|by cases h;exact Wp.ret aj)<|Wp.block<|yR (fun iU x3 x4=>iJ u iU x3 x4=some r) (fun x3 x4=>⟨[(0,.own 1),(1,.i x4),(4,.nil)],[],[(1,.live 5 1 (x3.map (aw .u8)))]⟩) (fun iU x3 x4 h=>?_) h (lo [(1,58982400)]) (fun _ _  h=>nomatch h)
 rw [iJ] at h
 exact Wp.seq<|ae<|al h (fun h=>aC<|Wp.block<|aE<|cg 5 12 5 1 1 (aw .u8) h fun h=>aa<|aV [] []<|ab.all kr<|b6<|aO<|⟨_,_,h,lo [(1,786432)]⟩) fun h=>Wp.exit<|aZ<|aZ<|dj<|aO<|⟨_,_,h,lo []⟩
theorem eE {u p0 p1 r} (h:eJ u p0 p1=some r):ak Tryz.prog 266 [.one (.s p0),V.i p1] (.one (.ow 5 1 (r.map (aw .u8)))) []:=by
 unfold eJ at h
 refine b8 Tryz.f266 true ?_
 exact ae<|aL false 1 7 [.s p0] h (fun _=>gI) fun r1 h=>Wp.seq<|aL false 1 9 [.i p1,.i 0,.i 1000000000000] h (fun _=>bm) fun r2 h=>al h (fun h=>ae<|by cases h;exact Wp.ret aj) fun h=>aC<|aL true 2 14 [.own 458752,.i p1] h (fun _=>B5) fun r3 h=>by cases h;exact Wp.ret aj
theorem Qa {u p0 p1 r} (h:yF u p0 p1=some r):ak Tryz.prog 267 [.one (.s p0),cO (ai p1)] (.one (.ow 5 1 (r.map (aw .u8)))) []:=by
 unfold yF at h
 refine b8 Tryz.f267 true ?_
 refine ae<|Wp.seq<|aL false 1 9 [.agg ((ai p1).map .t)] h (fun _=>n4) fun r1 h=>al h (fun h=>aL false 1 12 [.s p0] h (fun _=>gI) fun r2 h=>by cases h;exact Wp.ret aj) fun h=>aC<|Wp.seq<|aK (jQ []) (bR [(0,.frz),(3,.obj 3),(13,.frz),(14,.obj 3),(15,.frz),(16,.own 16),(17,.obj 3),(18,.frz),(19,.own 19),(20,.obj 3),(21,.frz),(22,.own 22)]) kr kr<|ag false 3 16 [.s p0,.i p1.aP] h (fun _=>eE) fun r3 h=>ag false 2 19 [.own 1048576,.i p1.aS] h (fun _=>eE) fun r4 h=>ag false 2 22 [.own 1245184,.i p1.aY] h (fun _=>eE) fun r5 h=>aa<|kC (fun x14=>AY u x14=some r) (fun x14=>⟨[(4,.nil),(5,.own 327681)],[],[(327681,.live 5 1 (x14.map (aw .u8)))]⟩) (fun x14 h=>ae<|by cases h;exact Wp.ret aj)<|aE<|ar 2 176 aH p1.aD<|aa<|Wp.block<|ef (fun l9 x8 p1 x9=>oK u l9 x8 p1 x9=some r) (fun x8 p1 x9=>⟨[(4,.nil),(5,.own 327681),(24,.t (.sl 2 (p1.aD.map aH))),(25,.i ((p1.aD.length:Int))),(26,.i x9)],[],[(327681,.live 5 1 (x8.map (aw .u8)))]⟩) (fun l9 x8 p1 x9 h=>?_) h (lo [(327681,1441792)]) (fun _ _ _  h=>nomatch h)
 rw [oK] at h
 exact ae<|Wp.seq<|al h (fun h=>aC<|Wp.seq<|Wp.block<|aE<|aR 0 176 2 aH h fun y12 h _=>aa<|aV [] []<|ag true 3 33 [.own 327681,.i y12.fS] h (fun _=>B5) fun r13 h=>ab.all kr<|b6<|aO<|aV [] []<|aa<|⟨_,_,_,h,lo [(327681,2162688)]⟩) fun h=>Wp.exit<|aZ<|aZ<|dj<|aO<|⟨_,h,lo []⟩
theorem Fe {u p0 p1 r} (h:yG u p0 p1=some r):ak Tryz.prog 268 [.one (.s p0),V.i p1] (.one (.ow 5 1 (r.map (aw .u8)))) []:=by
 unfold yG at h
 refine b8 Tryz.f268 true ?_
 exact ae<|aE<|ag false 3 8 [.s p0,.i (fx .i64 p1 1048575)] h (fun _=>eE) fun r1 h=>ag false 2 11 [.own 524288,.i (nY .i64 p1 20)] h (fun _=>eE) fun r2 h=>aa<|by cases h;exact Wp.ret aj
theorem Nz {u p0 p1 r} (h:Af u p0 p1=some r):ak Tryz.prog 269 [.one (.s p0),.one (.s p1)] (.one (.ow 5 1 (r.map (aw .u8)))) []:=by
 unfold Af at h
 refine b8 Tryz.f269 true ?_
 exact ae<|aE<|ar 2 5 (aw .u8) p1<|ag false 0 8 [.s p0,.i ((p1.length:Int))] h (fun _=>eE) fun r1 h=>cg 1 10 5 1 524288 (aw .u8) h fun h=>aa<|by cases h;exact Wp.ret aj
theorem Ff {u p0 r} (h:uX u p0=some r):ak Tryz.prog 226 [cO (dA p0)] (.one (.ow 5 1 (r.map (aw .u8)))) []:=by
 unfold uX at h
 refine b8 Tryz.f226 true ?_
 exact ae<|Wp.seq<|aL false 1 5 [.agg ((dA p0).map .t)] h (fun _=>GG) fun r1 h=>al h (fun h=>ae<|by cases h;exact Wp.ret aj) fun h=>aC<|aL false 2 9 [.nil,.i p0.bz] h (fun _=>eE) fun r2 h=>kC (fun x11=>kd u x11=some r) (fun x11=>⟨[(2,.nil),(3,.own 196609)],[],[(196609,.live 5 1 (x11.map (aw .u8)))]⟩) (fun x11 h=>aE<|eX 2 50 [.own 196609] h (fun _=>Ba) fun r12 h=>ag false 0 51 [.own 196609,.i r12] h (fun _=>eE) fun r13 h=>aa<|by cases h;exact Wp.ret aj)<|ae<|Wp.block<|ae<|al h (fun h=>aV [] []<|ag false 3 17 [.own 589824,.agg ((ai p0.av).map .t)] h (fun _=>Qa) fun r3 h=>ab.all kr<|b6<|aO<|⟨_,h,lo [(196609,1114112)]⟩) fun h=>ae<|al h (fun h=>aK (jQ []) (bR [(1,.obj 1),(3,.own 9),(20,.own 9),(21,.obj 1),(22,.frz),(23,.own 23),(24,.obj 1),(25,.frz),(26,.own 26),(27,.obj 1),(28,.frz),(29,.own 29)]) kr kr<|ag false 3 23 [.own 589824,.i p0.aP] h (fun _=>eE) fun r4 h=>ag false 2 26 [.own 1507328,.i p0.bw] h (fun _=>Fe) fun r5 h=>ag false 2 29 [.own 1703936,.i p0.bL] h (fun _=>Fe) fun r6 h=>ab.all kr<|b6<|aO<|⟨_,h,lo [(196609,1900544)]⟩) fun h=>ae<|al h (fun h=>aK (jQ []) (bR [(1,.obj 1),(3,.own 9),(32,.own 9),(33,.obj 1),(34,.frz),(35,.own 35),(36,.obj 1),(37,.frz),(38,.own 38),(39,.obj 1),(40,.frz),(41,.own 41)]) kr kr<|ag false 3 35 [.own 589824,.i p0.aP] h (fun _=>eE) fun r7 h=>ag false 2 38 [.own 2293760,.i p0.fI] h (fun _=>eE) fun r8 h=>ag false 2 41 [.own 2490368,.s p0.fB] h (fun _=>Nz) fun r9 h=>ab.all kr<|b6<|aO<|⟨_,h,lo [(196609,2686976)]⟩) fun h=>ae<|al h (fun h=>aV [] []<|ag false 3 47 [.own 589824,.i p0.aP] h (fun _=>eE) fun r10 h=>ab.all kr<|b6<|aO<|⟨_,h,lo [(196609,3080192)]⟩) fun h=>Wp.skip<|b6<|aO<|⟨_,h,lo [(196609,589824)]⟩
theorem Qb {u p0 r} (h:yH u p0=some r):ak Tryz.prog 181 [.one (.s p0)] (.tup [cO (dA r.1),V.b r.2]) []:=by
 unfold yH at h
 refine b8 Tryz.f181 false ?_
 exact ae<|aL false 1 10 [.s p0,.i 0] h (fun _=>wR) fun r1 h=>Wp.seq<|lx (fun p0 r1 x2=>wd u p0 r1 x2=some r) (fun p0 r1 x2=>⟨[(0,.s p0),(2,.obj 2 0),(3,.b false),(4,.i r1.1),(5,.i r1.2.1),(20,.b x2)],[(2,[.i 0,.i 0,.i 0,.i 0,.i 0,.nil,.i 0,.i 0,.i 0,.nil])],[]⟩) (fun p0 r1 x2 h=>al h (fun h=>ae<|by cases h;exact Wp.ret aj) fun h=>aC<|aL false 3 26 [.s p0,.i r1.1,.i r1.2.1] h (fun _=>Ny) fun r3 h=>Wp.seq<|pk (fun x7 r3=>rf u x7 r3=some r) (fun x7 r3=>⟨[(2,.obj 2 0),(3,.b false),(7,.obj 7 0),(42,.b x7)],[(2,[.i 0,.i 0,.i 0,.i 0,.i 0,.nil,.i 0,.i 0,.i 0,.nil]),(7,((dA r3.1).map .t))],[]⟩) (fun x7 r3 h=>al h (fun h=>ae<|by cases h;exact Wp.ret aj) fun h=>aC<|ae<|by cases h;exact Wp.ret aj)<|aV [] []<|ah 3 31 h (fun h=>aa<|⟨_,_,h,Le.trans (mV 7 5 1703941 176 2 [.i r3.1.bz,.i r3.1.aP,.i r3.1.av.aP,.i r3.1.av.aS,.i r3.1.av.aY,.own 1703941,.i r3.1.bw,.i r3.1.bL,.i r3.1.fI,.own 1703945] (r3.1.av.aD.map aH) kr kr kr) (Le.trans (mV 7 9 1703945 5 1 [.i r3.1.bz,.i r3.1.aP,.i r3.1.av.aP,.i r3.1.av.aS,.i r3.1.av.aY,.t (.sl 2 (r3.1.av.aD.map aH)),.i r3.1.bw,.i r3.1.bL,.i r3.1.fI,.own 1703945] (r3.1.fB.map (aw .u8)) kr kr kr) (lo []))⟩) fun h=>eX 1 33 [.agg [.i r3.1.bz,.i r3.1.aP,.i r3.1.av.aP,.i r3.1.av.aS,.i r3.1.av.aY,.own 1703941,.i r3.1.bw,.i r3.1.bL,.i r3.1.fI,.own 1703945]] h (fun _=>GG) fun r4 h=>ah 3 36 h (fun h=>aa<|⟨_,_,h,Le.trans (mV 7 5 1703941 176 2 [.i r3.1.bz,.i r3.1.aP,.i r3.1.av.aP,.i r3.1.av.aS,.i r3.1.av.aY,.own 1703941,.i r3.1.bw,.i r3.1.bL,.i r3.1.fI,.own 1703945] (r3.1.av.aD.map aH) kr kr kr) (Le.trans (mV 7 9 1703945 5 1 [.i r3.1.bz,.i r3.1.aP,.i r3.1.av.aP,.i r3.1.av.aS,.i r3.1.av.aY,.t (.sl 2 (r3.1.av.aD.map aH)),.i r3.1.bw,.i r3.1.bL,.i r3.1.fI,.own 1703945] (r3.1.fB.map (aw .u8)) kr kr kr) (lo []))⟩) fun h=>ag false 1 38 [.agg [.i r3.1.bz,.i r3.1.aP,.i r3.1.av.aP,.i r3.1.av.aS,.i r3.1.av.aY,.own 1703941,.i r3.1.bw,.i r3.1.bL,.i r3.1.fI,.own 1703945]] h (fun _=>Ff) fun r5 h=>eX 1 40 [.own 2490368,.s p0] h (fun _=>wP) fun r6 h=>aa<|⟨_,_,h,Le.trans (B3 7 5 1703941 2 [.i r3.1.bz,.i r3.1.aP,.i r3.1.av.aP,.i r3.1.av.aS,.i r3.1.av.aY,.own 1703941,.i r3.1.bw,.i r3.1.bL,.i r3.1.fI,.own 1703945] (r3.1.av.aD.map aH) kr kr kr) (Le.trans (B3 7 9 1703945 1 [.i r3.1.bz,.i r3.1.aP,.i r3.1.av.aP,.i r3.1.av.aS,.i r3.1.av.aY,.t (.sl 2 (r3.1.av.aD.map aH)),.i r3.1.bw,.i r3.1.bL,.i r3.1.fI,.own 1703945] (r3.1.fB.map (aw .u8)) kr kr kr) (lo []))⟩)<|aV [] []<|ah 3 16 h (fun h=>aa<|⟨_,_,_,h,lo []⟩) fun h=>ar 1 5 (aw .u8) p0<|aa<|⟨_,_,_,h,lo []⟩
theorem NA {u p0 q0 r} (h:Ag u p0 q0=some r):ak Tryz.prog 295 [cO (aq p0),.fptr [.int .i64 q0]] (V.b r) []:=by
 unfold Ag at h
 refine b8 Tryz.f295 false ?_
 exact ae<|ae<|by cases h;exact Wp.ret aj
theorem ly {u p0 p1_0 r} (h:cH u p0 p1_0=some r):ak Tryz.prog 169 [.one (.t (.sl 5 (p0.map aq))),.clo 295 [.fptr [.int .i64 p1_0]]] (V.i r) []:=by
 unfold cH at h
 refine b8 Tryz.f169 false ?_
 refine ae<|im (dh u=some r) ⟨[(4,.i 0)],[],[]⟩ (fun h=>ae<|by cases h;exact Wp.ret aj)<|aE<|ar 1 149 aq p0<|aa<|Wp.block<|ef (fun bH p0 p1_0 x2=>bO u bH p0 p1_0 x2=some r) (fun p0 p1_0 x2=>⟨[(0,.t (.sl 5 (p0.map aq))),(1,.clo 295 [.fadr [.int .i64 p1_0]]),(4,.i 0),(7,.i ((p0.length:Int))),(8,.i x2)],[],[]⟩) (fun bH p0 p1_0 x2 h=>?_) h (lo []) (fun _ _ _  h=>nomatch h)
 rw [bO] at h
 exact ae<|Wp.seq<|al h (fun h=>aC<|Wp.seq<|Wp.block<|ae<|aE<|aR 3 149 5 aq h fun y4 h _=>ag false 1 16 [.agg ((aq y4).map .t),.fadr [.int .i64 p1_0]] h (fun _=>NA) fun r5 h=>aa<|al h (fun h=>ae<|by cases h;exact Wp.ret aj) fun h=>Wp.skip<|b6<|aO<|aV [] []<|aa<|⟨_,_,_,h,lo []⟩) fun h=>Wp.exit<|aZ<|aZ<|dj<|aO<|⟨h,lo []⟩
theorem Co {u p0 p1 r} (h:ux u p0 p1=some r):ak Tryz.prog 270 [.one (.t (.sl 5 (p0.map aq))),V.i p1] (V.i r) []:=by
 unfold ux at h
 refine b8 Tryz.f270 false ?_
 exact ae<|Wp.seq<|Wp.le (ru 3 [.int .i64 p1] kr kr)<|aV [] []<|ag false 2 7 [.t (.sl 5 (p0.map aq)),.clo 295 [.fadr [.int .i64 p1]]] h (fun _=>ly) fun r1 h=>aa<|by cases h;exact Wp.ret aj
theorem Qc {u p0 q0 r} (h:BR u p0 q0=some r):ak Tryz.prog 271 [cO (aq p0),.fptr [.int .i64 q0]] (V.b r) []:=by
 unfold BR at h
 refine b8 Tryz.f271 false ?_
 exact ae<|ae<|by cases h;exact Wp.ret aj
theorem lC {u p0 p1_0 r} (h:ch u p0 p1_0=some r):ak Tryz.prog 169 [.one (.t (.sl 5 (p0.map aq))),.clo 271 [.fptr [.int .i64 p1_0]]] (V.i r) []:=by
 unfold ch at h
 refine b8 Tryz.f169 false ?_
 refine ae<|im (dm u=some r) ⟨[(4,.i 0)],[],[]⟩ (fun h=>ae<|by cases h;exact Wp.ret aj)<|aE<|ar 1 149 aq p0<|aa<|Wp.block<|ef (fun bK p0 p1_0 x2=>bS u bK p0 p1_0 x2=some r) (fun p0 p1_0 x2=>⟨[(0,.t (.sl 5 (p0.map aq))),(1,.clo 271 [.fadr [.int .i64 p1_0]]),(4,.i 0),(7,.i ((p0.length:Int))),(8,.i x2)],[],[]⟩) (fun bK p0 p1_0 x2 h=>?_) h (lo []) (fun _ _ _  h=>nomatch h)
 rw [bS] at h
 exact ae<|Wp.seq<|al h (fun h=>aC<|Wp.seq<|Wp.block<|ae<|aE<|aR 3 149 5 aq h fun y4 h _=>ag false 1 16 [.agg ((aq y4).map .t),.fadr [.int .i64 p1_0]] h (fun _=>Qc) fun r5 h=>aa<|al h (fun h=>ae<|by cases h;exact Wp.ret aj) fun h=>Wp.skip<|b6<|aO<|aV [] []<|aa<|⟨_,_,_,h,lo []⟩) fun h=>Wp.exit<|aZ<|aZ<|dj<|aO<|⟨h,lo []⟩
theorem sv {P:Program} {z:Value} (L:UP P 272 109 149 3 4 296 5 40 Tryz.f272 z):X9 P 272 149 5 40:=fun w b n c i vb vc cur arr2 vs H=>by
 have mixed:=L.mixed
 have u3:=run_underlying L.t3; have u4:=run_underlying L.t4; have u5:=run_underlying L.t5
 have t3:=L.t3; have t4:=L.t4; have t5:=L.t5
 obtain ⟨i0,hi0,hzs,_⟩:=L.size
 have z5:∀ w,(Go.sizeOf 149).run P w=.ok 5 w:=fun w=>by simp [sizeOf,typeInfo,hi0,hzs]
 have a5:∀ w,(isAgg 109).run P w=.ok false w:=fun w=>by simp [isAgg,run_underlying t5]
 have a3:∀ w,(isAgg 3).run P w=.ok false w:=fun w=>by simp [isAgg,run_underlying t3]
 have a4:∀ w,(isAgg 4).run P w=.ok false w:=fun w=>by simp [isAgg,run_underlying t4]
 have hi:=H.hi
 have hnc:=H.hnc
 have hc63:c≤9223372036854775807:=by have:=H.hc; unfold maxLen at this; omega
 have hbig:=H.big
 have hvb:=H.hvb
 have hz2:¬ ((i:Int)=(n:Int)):=by omega
 have hw1:IntKind.i64.wrap ((i:Int)+1)=(i:Int)+1:=by rw [IntKind.wrap_i64]; omega
 have hw2:IntKind.i64.wrap ((n:Int)+1)=(n:Int)+1:=by rw [IntKind.wrap_i64]; omega
 have hw3:IntKind.i64.wrap ((n:Int)+1 - (i:Int))=(n:Int)+1 - (i:Int):=by rw [IntKind.wrap_i64]; omega
 have hb1:(0:Int)≤(i:Int)+1:=by omega
 have hb2:(i:Int)≤(n:Int):=by omega
 have hb5:(i:Int)≤(n:Int)+1:=by omega
 have hb6:(i:Int)+1≤(n:Int)+1:=by omega
 have hin:i≤n:=by omega
 have hic:i≤c:=by omega
 have hci:¬ (c=i):=by omega
 have htn:((i:Int)+1).toNat=i+1:=by omega
 have htn2:((n:Int)+1).toNat=n+1:=by omega
 by_cases hroom:n+1≤c
 ·obtain ⟨W1,W2,hcp1,hcp2,hov,hpost⟩:=L.shift (vc:=vc) H hroom
  have hci1:¬ (c=i+1):=by omega
  clear H hi0 hzs
  go_enter L.hf,(show Tryz.f272.ntmps=95 from rfl)
  go_wp2_with (simp only [hov])
  go_region_law_o (refine PB rfl _ _ 109 109 rfl _ _ (by simp [Act.eval,Act.put]) (by simp [Act.eval,Act.put]) (hcp1 _ _ _) ?_)
  go_wp2_with (at_builtin; refine I9 _ rfl _ _ 109 109 rfl _ _ rfl rfl (hcp2 _ _) ?_)
  go_ret
  exact hpost.out
 ·obtain ⟨N,G,ROW,R1,R2,hGn,hG63,hrz,hcpA,hcpB,hpost⟩:=L.grow (vc:=vc) H (by omega)
  have hz3:(c:Int) < (n:Int)+1:=by omega
  have hGi:¬ (G=i):=by omega
  have hGim:¬ (G=i+1):=by omega
  clear H hi0 hzs
  go_enter L.hf,(show Tryz.f272.ntmps=95 from rfl)
  go_wp2_with (first
   | (at_builtin; refine Lib.wpList_append_run _ rfl _ _ _ _ rfl _ _ rfl rfl _ _ (hrz _) ?_)
   | (at_builtin; refine I9 _ rfl _ _ 109 109 rfl _ _ rfl rfl (hcpA _ _) ?_))
  go_region_law_o (refine PB rfl _ _ 109 109 rfl _ _ (by simp [Act.eval,Act.put]) (by simp [Act.eval,Act.put]) (hcpB _ _ _) ?_)
  go_wp2
  go_ret
  exact hpost.out
theorem sP:UP Tryz.prog 272 109 149 3 4 296 5 40 Tryz.f272 (.agg #[(.int .i64 0),(.int .i64 0),(.int .i64 0),(.int .i64 0),(.int .i64 0)]) :=
 ⟨kr,kr,run_callFunc_extern (fn:=Tryz.f296) kr kr kr kr kr,kr,kr,kr,kr,kr,kr,by decide,by decide⟩
theorem sQ {u p0 p1 p2 r} (h:eF u p0 p1 p2=some r):ak Tryz.prog 272 [.one (.ow 149 5 (p0.map aq)),V.i p1,.one (.ow 149 5 (p2.map aq))] (.one (.ow 149 5 (r.map aq))) []:=by
 unfold eF at h
 obtain ⟨e,h⟩:=Ya h
 obtain rfl:=oi h
 simp only [Bool.and_eq_true,decide_eq_true_eq] at e
 obtain ⟨⟨⟨e1,e4⟩,e3⟩,e2⟩:=e
 obtain ⟨x,rfl⟩:=List.length_eq_one_iff.1 e3
 by_cases hp:p1=p0.length
 ·subst hp
  have e0:(((p0.length:Int)).toNat)=p0.length:=Int.toNat_natCast _
  rw [e0,List.take_length,List.drop_length,List.append_nil]
  replace h:(dW (decide ((p0.length + [x].length)*40≤140737488355328))).bind (fun _=>some (p0++[x]))=some (p0++[x]):=by rw [decide_eq_true e2]; rfl
  refine b8 Tryz.f272 true ?_
  refine ae ?_
  refine Pw [] [(12,.win 900)] ?_
  refine bc 2 kr ?_
  refine K6 (e:=149) (e':=149) (alo:=some (.i ((p0.length:Int)))) aq p0 58982400 5 (p0.length:Int) rfl kr kr kr kr kr kr kr kr kr (by simp [Gy]) ?_
  refine aa ?_
  refine aE ?_
  refine ar 1 149 aq [x] ?_
  refine aa ?_
  refine Wp.seq ?_
  refine ae ?_
  refine Pl (b:=false) kr (fun hc=>nomatch hc) (fun _=>?_)
  refine aC ?_
  refine aE ?_
  refine ar 1 149 aq p0 ?_
  refine aa ?_
  refine Wp.seq ?_
  refine ae ?_
  refine Pl (b:=((p0.length:Int)) == (p0.length:Int)) kr (fun _=>?_) (fun hc=>by simp at hc)
  refine aE ?_
  refine cg 2 25 149 5 58982400 aq h (fun h=>?_)
  refine aa ?_
  exact Wp.ret aj
 ·obtain ⟨i,rfl⟩:=Int.eq_ofNat_of_zero_le e1
  have hi:i < p0.length:=by omega
  have hm:(p0.take i++[x]++p0.drop i).map aq=(p0.map aq).take i++aq x :: (p0.map aq).drop i:=by simp
  rw [show ((i:Int)).toNat=i from rfl,hm]
  exact Yc (row:=aq x) ⟨Tryz.f272,kr,kr,kr⟩ (sv sP) (by simpa using hi) (by simpa using e2)
end Go.Tm
