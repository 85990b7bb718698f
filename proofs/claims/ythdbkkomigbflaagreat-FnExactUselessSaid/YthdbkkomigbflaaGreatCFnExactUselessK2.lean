/- The functions as they are translated do what the pure functions say (printed). -/
import Derived.Test.YthdbkkomigbflaaGreatCFnExactUselessK1
import Derived.Test.YthdbkkomigbflaaGreatProg
set_option maxRecDepth 100000
set_option maxHeartbeats 20000000
set_option linter.unusedVariables false
set_option linter.unusedSimpArgs false
namespace Go.Tm
open Go.Proofs
theorem DZ {u p0 p1 r} (h:xB u p0 p1=some r):al Tryz.prog 312 [V.i p0,V.i p1] (V.i r) []:=by
 unfold xB at h
 refine b8 Tryz.f312 false ?_
 refine ae<|Wp.seq<|aK false 1 6 [.i p1,.i 1,.i 1000000000000] h (fun _=>bi) fun r1 h=>ak h (fun h=>ae<|by cases h;exact Wp.ret aj) fun h=>aC<|aE<|bc 2 kr ?_
 obtain ⟨_,e_2,h⟩:=bind_some h
 refine iN .rem (.int .i64 p0) (.int .i64 p1) (.int .i64 (ru .i64 p0 p1)) rfl kr kr kr kr (O5 _ _ _ _ (by simpa using bj e_2))<|bc 3 kr ?_
 obtain ⟨_,e_3,h⟩:=bind_some h
 exact iN .rem (.int .i64 (aW .i64 (ru .i64 p0 p1) p1)) (.int .i64 p1) (.int .i64 (ru .i64 (aW .i64 (ru .i64 p0 p1) p1) p1)) rfl kr kr kr kr (O5 _ _ _ _ (by simpa using bj e_3))<|aa<|by cases h;exact Wp.ret aj
theorem TI {u p0 p1 p2 p3 r} (h:At u p0 p1 p2 p3=some r):al Tryz.prog 309 [V.i p0,V.i p1,V.i p2,V.i p3] (V.i r) []:=by
 unfold At at h
 refine b8 Tryz.f309 false ?_
 exact ae<|Wp.seq<|wL (fun p0 p1 p2 p3 x5=>rQ u p0 p1 p2 p3 x5=some r) (fun p0 p1 p2 p3 x5=>⟨[(0,.i p0),(1,.i p1),(2,.i p2),(3,.i p3),(8,.i 0),(28,.b x5)],[],[]⟩) (fun p0 p1 p2 p3 x5 h=>ak h (fun h=>ae<|by cases h;exact Wp.ret aj) fun h=>aC<|aK false 1 32 [.i p0] h (fun _=>Hy) fun r6 h=>aK false 6 41 [.i (cy .i64 r6.2 (gS .i64 (ru .i64 p1 251) p2)),.i 251] h (fun _=>DZ) fun r7 h=>aK false 5 47 [.i (aW .i64 (cy .i64 r6.1 p2) p3),.i 251] h (fun _=>DZ) fun r8 h=>aK false 4 52 [.i (aW .i64 r7 r8),.i 251] h (fun _=>DZ) fun r9 h=>by cases h;exact Wp.ret aj)<|aV [] []<|ag false 1 12 [.i p0] h (fun _=>Jr) fun r1 h=>ah 2 14 h (fun h=>aa<|⟨_,_,_,_,_,h,lo []⟩) fun h=>ag false 1 16 [.i p1,.i 1,.i 1000000000000] h (fun _=>bi) fun r2 h=>ah 3 19 h (fun h=>aa<|⟨_,_,_,_,_,h,lo []⟩) fun h=>ag false 1 21 [.i p2,.i 0,.i 255] h (fun _=>bi) fun r3 h=>ah 3 24 h (fun h=>aa<|⟨_,_,_,_,_,h,lo []⟩) fun h=>ag false 1 26 [.i p3,.i 0,.i 255] h (fun _=>bi) fun r4 h=>aa<|⟨_,_,_,_,_,h,lo []⟩
theorem Nt {u p0 p1 r} (h:vQ u p0 p1=some r):al Tryz.prog 307 [.one (.s p0),V.i p1] (.one (.ow 3 1 (r.map (aw .i64)))) []:=by
 unfold vQ at h
 refine b8 Tryz.f307 true ?_
 refine ae<|ae<|Wp.seq<|kh (fun p0 p1 x1=>tW u p0 p1 x1=some r) (fun p0 p1 x1=>⟨[(0,.s p0),(1,.i p1),(4,.nil),(5,.own 327681),(16,.b x1)],[],[(327681,.live 3 1 ((([]:List Int)).map (aw .i64)))]⟩) (fun p0 p1 x1 h=>?_) ?_
 ·refine ak h (fun h=>ae<|by cases h;exact Wp.ret aj) fun h=>aC<|aE<|bc 2 kr ?_
  obtain ⟨_,e_2,h⟩:=bind_some h
  refine eT (e:=5) (ax:=.s p0) (alo:=none) (ahi:=(some (.i p1))) (aw .u8) p0 1 0 p1 rfl kr kr kr kr kr kr kr kr kr kr kr (bj e_2)<|ag false 0 21 [.t (.sl 1 (((p0.take (Int.toNat p1)).drop (Int.toNat 0)).map (aw .u8)))] h (fun _=>wO) fun r3 h=>aa<|aE<|cg 3 25 3 1 327681 (aw .i64) h fun h=>aa<|jL (fun x17=>tU u x17=some r) (fun x17=>⟨[(4,.nil),(5,.own 327681)],[],[(327681,.live 3 1 (x17.map (aw .i64)))]⟩) (fun x17 h=>ae<|by cases h;exact Wp.ret aj)<|ae<|Wp.block<|Jl (fun kU p0 p1 x8 x9 x10=>gP u kU p0 p1 x8 x9 x10=some r) (fun p0 p1 x8 x9 x10=>⟨[(0,.s p0),(1,.i p1),(4,.nil),(5,.own 327681),(6,.i x9),(7,.i x10)],[],[(327681,.live 3 1 (x8.map (aw .i64)))]⟩) (fun kU p0 p1 x8 x9 x10 h=>?_) h (lo [(327681,1638400)]) (fun _ _ _ _ _  h=>nomatch h)
  rw [gP] at h
  exact Wp.seq<|aE<|ar 2 5 (aw .u8) p0<|aa<|ak h (fun h=>aC<|Wp.seq<|Wp.block<|Wp.seq<|aL (jS []) (bR [(0,.frz),(1,.frz),(6,.frz),(7,.frz),(33,.frz),(34,.frz),(35,.frz),(36,.frz),(37,.frz),(38,.frz),(39,.frz),(40,.frz),(41,.frz),(42,.frz),(43,.frz),(44,.frz),(45,.frz),(46,.frz),(47,.frz)]) kr kr<|aR 6 5 1 (aw .u8) h fun y14 h _=>aR 4 5 1 (aw .u8) h fun y15 h _=>ag false 2 47 [.i x9,.i p1,.i (IntKind.wrap .i64 y14),.i (IntKind.wrap .i64 y15)] h (fun _=>TI) fun r16 h=>aa<|aV [] []<|cg 3 51 3 1 327681 (aw .i64) h fun h=>ab.all kr<|bY<|aN<|aV [] []<|aa<|⟨_,_,_,_,_,h,lo [(327681,3342336)]⟩) fun h=>Wp.exit<|aZ<|aZ<|de<|aN<|⟨_,h,lo []⟩
 exact aV [] []<|ah 3 11 h (fun h=>aa<|⟨_,_,_,h,lo [(327681,524288)]⟩) fun h=>ar 2 5 (aw .u8) p0<|aa<|⟨_,_,_,h,lo [(327681,524288)]⟩
theorem Nu {u p0 p1 p2 r} (h:vR u p0 p1 p2=some r):al Tryz.prog 303 [.one (.s p0),cO (aH p1),V.i p2] (V.i r) []:=by
 unfold vR at h
 refine b8 Tryz.f303 false ?_
 refine ae<|Wp.seq<|aK false 1 10 [.i p2,.i 1,.i 6] h (fun _=>bi) fun r1 h=>ak h (fun h=>ae<|by cases h;exact Wp.ret aj) fun h=>aC<|aK false 2 14 [.s p0,.i p2] h (fun _=>Nt) fun r2 h=>io (tX u=some r) ⟨[(6,.i 0)],[],[]⟩ (fun h=>ae<|by cases h;exact Wp.ret aj)<|ae<|Wp.block<|Jl (fun gw p0 p2 r2 x4 p1=>ez u gw p0 p2 r2 x4 p1=some r) (fun p0 p2 r2 x4 p1=>⟨[(0,.s p0),(2,.i p2),(4,.obj 4 0),(6,.i 0),(7,.own 458753),(8,.i x4)],[(4,[.i p1.fW,.i p1.fS])],[(458753,.live 3 1 (r2.map (aw .i64)))]⟩) (fun gw p0 p2 r2 x4 p1 h=>?_) h (lo [(458753,917504)]) (fun _ _ _ _ _  h=>nomatch h)
 rw [ez] at h
 refine Wp.seq<|aE<|ar 2 3 (aw .i64) r2<|aa<|ak h (fun h=>?_) (fun h=>?_)
 ·refine aC<|Wp.seq<|Wp.block<|Jk (fun p0 p2 r2 x4 x9 p1=>nh u (fun z0 z1 z2 z3 z4=>ez u gw z0 z1 z2 z3 z4) p0 p2 r2 x4 x9 p1=some r) (fun p0 p2 r2 x4 x9 p1=>⟨[(0,.s p0),(2,.i p2),(4,.obj 4 0),(6,.i 0),(7,.own 458753),(8,.i x4),(38,.b x9)],[(4,[.i p1.fW,.i p1.fS])],[(458753,.live 3 1 (r2.map (aw .i64)))]⟩) (fun p0 p2 r2 x4 x9 p1 h=>ak h (fun h=>ae<|by cases h;exact Wp.ret aj) fun h=>Wp.skip<|bY<|aN<|aV [] []<|aa<|⟨_,_,_,_,_,h,lo []⟩)<|aL (jS []) (bR [(0,.frz),(2,.frz),(4,.obj 4),(7,.own 7),(8,.frz),(21,.own 7),(22,.frz),(23,.el 7),(24,.frz),(25,.obj 4),(26,.frz),(27,.frz),(28,.frz),(29,.frz),(30,.frz),(31,.frz),(32,.frz),(33,.frz),(34,.frz),(35,.frz),(36,.frz)]) kr kr<|cI 2 3 1 458753 3 (aw .i64) h fun y6 h e_y6=>iO 0 1 1 458753 0 3 false (aw .i64) ((cq e_y6).2)<|ah 4 28 h (fun h=>?_) (fun h=>?_)
  ·refine bc 5 kr ?_
   obtain ⟨_,e_7,h⟩:=bind_some h
   exact eT (e:=5) (ax:=.s p0) (alo:=(some (.i x4))) (ahi:=(some (.i (aW .i64 x4 p2)))) (aw .u8) p0 1 x4 (aW .i64 x4 p2) rfl kr kr kr kr kr kr kr kr kr kr kr (bj e_7)<|ag false 0 35 [.t (.sl 1 (((p0.take (Int.toNat (aW .i64 x4 p2))).drop (Int.toNat x4)).map (aw .u8)))] h (fun _=>qt) fun r8 h=>aa<|⟨_,_,_,_,_,_,h,lo []⟩
  exact aa<|⟨_,_,_,_,_,_,h,lo []⟩
 exact Wp.exit<|aZ<|aZ<|de<|aN<|⟨h,lo []⟩
theorem Nv {u p0 p1 p2 r} (h:rS u p0 p1 p2=some r):al Tryz.prog 289 [.one (.s p0),cO (ai p1),V.i p2] (V.i r) []:=by
 unfold rS at h
 refine b8 Tryz.f289 false ?_
 exact ae<|aK false 5 15 [.i p1.aS,.i p1.aY,.i p2] h (fun _=>mN) fun r1 h=>Wp.seq<|wL (fun p0 p2 r1 x2 p1=>tY u p0 p2 r1 x2 p1=some r) (fun p0 p2 r1 x2 p1=>⟨[(0,.s p0),(2,.i p2),(4,.obj 4 0),(6,.i 0),(8,.i r1.2),(26,.b x2)],[(4,((ai p1).map .t))],[]⟩) (fun p0 p2 r1 x2 p1 h=>ak h (fun h=>ae<|by cases h;exact Wp.ret aj) fun h=>aC<|aE<|aR 4 176 2 aH h fun y3 h _=>ag false 2 34 [.s p0,.agg [.i y3.fW,.i y3.fS],.i r1.2] h (fun _=>Nu) fun r4 h=>aa<|by cases h;exact Wp.ret aj)<|aV [] []<|ah 3 20 h (fun h=>aa<|⟨_,_,_,_,_,h,lo []⟩) fun h=>ar 3 176 aH p1.aD<|aa<|⟨_,_,_,_,_,h,lo []⟩
theorem Dn {u p0 p1 r} (h:nV u p0 p1=some r):al Tryz.prog 291 [V.i p0,V.i p1] (V.i r) []:=by
 unfold nV at h
 refine b8 Tryz.f291 false ?_
 refine ae<|Wp.seq<|kh (fun p0 p1 x3=>rT u p0 p1 x3=some r) (fun p0 p1 x3=>⟨[(0,.i p0),(1,.i p1),(4,.i 0),(12,.b x3)],[],[]⟩) (fun p0 p1 x3 h=>?_) ?_
 ·refine ak h (fun h=>ae<|by cases h;exact Wp.ret aj) fun h=>aC<|aE<|bc 2 kr ?_
  obtain ⟨_,e_4,h⟩:=bind_some h
  exact iN .shl (.int .i64 1) (.int .i64 p1) (.int .i64 (i7 .i64 1 p1)) rfl kr kr kr kr (B8 _ _ _ _ _ (bj e_4))<|aa<|by cases h;exact Wp.ret aj
 exact aV [] []<|ag false 1 6 [.i p0] h (fun _=>cR) fun r1 h=>ah 2 8 h (fun h=>aa<|⟨_,_,_,h,lo []⟩) fun h=>ag false 1 10 [.i p1,.i 0,.i 39] h (fun _=>bi) fun r2 h=>aa<|⟨_,_,_,h,lo []⟩
theorem GM {u p0 p1 p2 p3 r} (h:uw u p0 p1 p2 p3=some r):al Tryz.prog 290 [cO (ai p0),.ptr (cw [0,5] (cJ p1)),V.i p2,.one (.s p3)] (V.b r.1) [cw [0,5] (cJ r.2)]:=by
 unfold uw at h
 refine b8 Tryz.f290 false ?_
 refine ae<|Wp.seq<|wL (fun p2 p3 x5 p0 p1=>qj u p2 p3 x5 p0 p1=some r) (fun p2 p3 x5 p0 p1=>⟨[(1,.obj 901 0),(2,.i p2),(3,.s p3),(4,.obj 4 0),(8,.b false),(41,.b x5)],[(4,((ai p0).map .t)),(901,[.i p1.aT,.own 59048449])],[(59048449,.live 5 1 (p1.bg.map (aw .u8)))]⟩) (fun p2 p3 x5 p0 p1 h=>?_) ?_
 ·refine ak h (fun h=>ae<|by cases h;exact Wp.ret aj) fun h=>aC<|aK false 5 48 [.i p0.aS,.i p0.aY,.i p2] h (fun _=>mN) fun r6 h=>kh (fun p2 p1 x15=>xW u p2 p1 x15=some r) (fun p2 p1 x15=>⟨[(1,.obj 901 0),(2,.i p2),(8,.b false)],[(901,[.i p1.aT,.own 59048449])],[(59048449,.live 5 1 (x15.map (aw .u8)))]⟩) (fun p2 p1 x15 h=>aK false 6 75 [.i p1.aT,.i p2] h (fun _=>Dn) fun r16 h=>ae<|by cases h;exact Wp.ret aj)<|ae<|Wp.block<|Zu (fun nE p2 p3 r6 x9 p1 x10=>qi u nE p2 p3 r6 x9 p1 x10=some r) (fun p2 p3 r6 x9 p1 x10=>⟨[(1,.obj 901 0),(2,.i p2),(3,.s p3),(8,.b false),(9,.i r6.1),(11,.i x9)],[(901,[.i p1.aT,.own 59048449])],[(59048449,.live 5 1 (x10.map (aw .u8)))]⟩) (fun nE p2 p3 r6 x9 p1 x10 h=>?_) h (lo []) (fun _ _ _ _ _ _  h=>nomatch h)
  rw [qi] at h
  exact Wp.seq<|aE<|ar 2 5 (aw .u8) p3<|aa<|ak h (fun h=>aC<|Wp.seq<|Wp.block<|aL (jS []) (bR [(1,.obj 901),(3,.frz),(9,.frz),(11,.frz),(57,.obj 901),(58,.obj 901),(59,.obj 901),(60,.own 901),(61,.frz),(62,.frz),(63,.frz),(64,.frz),(65,.frz),(66,.frz),(67,.frz),(68,.el 901)]) kr kr<|aR 9 5 1 (aw .u8) h fun y13 h _=>cI 1 5 1 59048449 5 (aw .u8) h fun y14 h e_y14=>gm (e:=5) (sz:=1) (m:=1) (aw .u8) x10 59048449 (Int.toNat (aW .i64 r6.1 x9)) 0 y13 (.t (.int .u8 y13)) [.int .u8 y13] rfl kr kr kr kr kr kr kr kr ((cq e_y14).2) kr kr<|ab.all kr<|bY<|aN<|aV [] []<|aa<|⟨_,_,_,_,_,_,h,lo []⟩) fun h=>Wp.exit<|aZ<|aZ<|de<|aN<|⟨_,_,_,h,lo []⟩
 exact aL (jS []) (bR [(1,.obj 901),(2,.frz),(3,.frz),(4,.obj 4),(12,.frz),(13,.obj 4),(14,.frz),(15,.frz),(16,.frz),(17,.frz),(18,.frz),(19,.frz),(20,.obj 901),(21,.obj 901),(22,.obj 901),(23,.frz),(24,.frz),(26,.frz),(27,.frz),(28,.frz),(29,.frz),(30,.obj 4),(31,.frz),(32,.frz),(33,.frz),(34,.frz),(36,.frz),(37,.frz),(38,.frz),(39,.frz)]) kr kr<|ar 3 176 aH p0.aD<|ag false 1 17 [.i p2,.i 0,.i (cy .i64 ((p0.aD.length:Int)) 1)] h (fun _=>bi) fun r1 h=>ah 2 19 h (fun h=>aa<|⟨_,_,_,_,_,h,lo [(59048449,59047937)]⟩) fun h=>ag false 5 25 [.i p1.aT,.i p2] h (fun _=>lI) fun r2 h=>ah 2 27 h (fun h=>aa<|⟨_,_,_,_,_,h,lo [(59048449,59047937)]⟩) fun h=>ag false 1 29 [.s p3] h (fun _=>qt) fun r3 h=>aR 3 176 2 aH h fun y4 h _=>ah 4 37 h (fun h=>aa<|⟨_,_,_,_,_,h,lo [(59048449,59047937)]⟩) fun h=>ar 1 5 (aw .u8) p3<|aa<|⟨_,_,_,_,_,h,lo [(59048449,59047937)]⟩
theorem Js {u p0 p1 r} (h:q8 u p0 p1=some r):al Tryz.prog 246 [cO (ai p0),.one (.s p1)] (V.w [0,5] (cJ r)) []:=by
 unfold q8 at h
 refine b8 Tryz.f246 true ?_
 refine ae<|aK false 1 11 [.agg ((ai p0).map .t)] h (fun _=>Lq) fun r1 h=>Wp.seq<|aK false 1 13 [.agg ((ai p0).map .t)] h (fun _=>n5) fun r2 h=>ak h (fun h=>ae<|by cases h;exact Wp.ret aj) fun h=>aC<|pn (fun x18 x19=>vS u x18 x19=some r) (fun x18 x19=>⟨[(4,.obj 4 0),(5,.obj 5 0)],[(4,[.i 0,.nil]),(5,[.i x18,.own 328193])],[(328193,.live 5 1 (x19.map (aw .u8)))]⟩) (fun x18 x19 h=>ae<|by cases h;exact Wp.ret aj)<|ae<|Wp.block<|Jl (fun eO p1 x6 p0 x7 x8=>gf u eO p1 x6 p0 x7 x8=some r) (fun p1 x6 p0 x7 x8=>⟨[(1,.s p1),(2,.obj 2 0),(4,.obj 4 0),(5,.obj 5 0),(6,.i x6)],[(2,((ai p0).map .t)),(4,[.i 0,.nil]),(5,[.i x7,.own 328193])],[(328193,.live 5 1 (x8.map (aw .u8)))]⟩) (fun eO p1 x6 p0 x7 x8 h=>?_) h (lo [(328193,720897)]) (fun _ _ _ _ _  h=>nomatch h)
 rw [gf] at h
 refine Wp.seq<|aE<|ar 3 176 aH p0.aD<|aa<|ak h (fun h=>?_) (fun h=>?_)
 ·refine aC<|wL (fun p1 x6 p0 x16 x17=>kw u (fun z0 z1 z2 z3 z4=>gf u eO z0 z1 z2 z3 z4) p1 x6 p0 x16 x17=some r) (fun p1 x6 p0 x16 x17=>⟨[(1,.s p1),(2,.obj 2 0),(4,.obj 4 0),(5,.obj 5 0),(6,.i x6)],[(2,((ai p0).map .t)),(4,[.i 0,.nil]),(5,[.i x16,.own 328193])],[(328193,.live 5 1 (x17.map (aw .u8)))]⟩) (fun p1 x6 p0 x16 x17 h=>aV [] []<|aa<|⟨_,_,_,_,_,h,lo []⟩)<|Wp.block<|aK false 3 26 [.s p1,.agg ((ai p0).map .t),.i x6] h (fun _=>Nv) fun r12 h=>aK false 5 33 [.i p0.aS,.i p0.aY,.i x6] h (fun _=>mN) fun r13 h=>ae<|ak h (fun h=>?_) (fun h=>?_)
  ·refine aL (jS []) (bR [(1,.frz),(2,.obj 2),(5,.obj 5),(6,.frz),(7,.frz),(9,.frz),(38,.frz),(39,.frz),(40,.frz),(41,.frz),(42,.frz),(43,.frz),(44,.frz),(45,.frz)]) kr kr<|bc 7 kr ?_
   obtain ⟨_,e_14,h⟩:=bind_some h
   exact eT (e:=5) (ax:=.s p1) (alo:=(some (.i r12))) (ahi:=(some (.i (aW .i64 r12 r13.2)))) (aw .u8) p1 1 r12 (aW .i64 r12 r13.2) rfl kr kr kr kr kr kr kr kr kr kr kr (bj e_14)<|ag true 0 46 [.agg ((ai p0).map .t),.obj 5 0,.i x6,.t (.sl 1 (((p1.take (Int.toNat (aW .i64 r12 r13.2))).drop (Int.toNat r12)).map (aw .u8)))] h (fun _=>GM) fun r15 h=>ab.all kr<|bY<|aN<|⟨_,_,_,_,_,h,lo [(328193,3016001)]⟩
  exact Wp.skip<|bY<|aN<|⟨_,_,_,_,_,h,lo []⟩
 exact Wp.exit<|aZ<|aZ<|de<|aN<|⟨_,_,h,lo []⟩
theorem R5 {u p0 p1 r} (h:AW u p0 p1=some r):al Tryz.prog 247 [cO (ai p0),.one (.s p1)] (V.b r) []:=by
 unfold AW at h
 refine b8 Tryz.f247 false ?_
 exact ae<|Wp.seq<|aL (jS []) (bR [(1,.frz),(2,.obj 2),(5,.frz),(6,.frz),(7,.obj 2),(8,.frz),(9,.frz),(10,.frz),(11,.frz),(12,.obj 2),(13,.frz),(14,.own 14),(15,.obj 2),(16,.frz),(18,.frz)]) kr kr<|ar 1 5 (aw .u8) p1<|ah 4 10 h (fun h=>ag false 3 14 [.s p1,.i p0.aS] h (fun _=>Fb) fun r1 h=>eY 2 17 [.own 917504,.t (.sl 2 (p0.aD.map aH))] h (fun _=>Be) fun r2 h=>aa<|by cases h;exact Wp.ret aj) fun h=>aa<|by cases h;exact Wp.ret aj
theorem Nw {u p0 p1 p2 r} (h:vT u p0 p1 p2=some r):al Tryz.prog 204 [cO (ay p0),cO (aB p1),cO (ai p2)] (V.w [0,0,0,0,0,0,176,0,5,0,149,0] (ay r)) []:=by
 unfold vT at h
 refine b8 Tryz.f204 true ?_
 exact ae<|aK false 1 11 [.agg ((ay p0).map .t)] h (fun _=>gT) fun r1 h=>Wp.seq<|ae<|ak h (fun h=>Wp.seq<|aK false 3 18 [.agg ((ai p0.av).map .t),.agg ((ai p2).map .t)] h (fun _=>pU) fun r2 h=>ak h (fun h=>aK false 1 21 [.agg ((ay p0).map .t)] h (fun _=>pV) fun r3 h=>by cases h;exact Wp.ret aj) fun h=>aC<|ae<|by cases h;exact Wp.ret aj) fun h=>aC<|Wp.seq<|m2 (fun x5 p1 p2 r1=>t2 u x5 p1 p2 r1=some r) (fun x5 p1 p2 r1=>⟨[(4,.obj 4 0),(5,.obj 5 0),(6,.obj 6 0),(7,.obj 7 0),(30,.b x5)],[(4,((aB p1).map .t)),(5,((ai p2).map .t)),(6,[.b false,.i 0,.i 0,.i 0,.i 0,.i 0,.nil,.i 0,.nil,.i 0,.nil,.i 0]),(7,[.b r1.fM,.i r1.bf,.i r1.be,.i r1.av.aP,.i r1.av.aS,.i r1.av.aY,.own 459270,.i r1.a7.aT,.own 459272,.i r1.aJ,.own 459274,.i r1.a8])],[(459270,.live 176 2 (r1.av.aD.map aH)),(459272,.live 5 1 (r1.a7.bg.map (aw .u8))),(459274,.live 149 5 (r1.aO.map am))]⟩) (fun x5 p1 p2 r1 h=>ak h (fun h=>ae<|by cases h;exact Wp.ret aj) fun h=>aC<|aK false 1 34 [.agg ((aB p1).map .t)] h (fun _=>Es) fun r6 h=>aK false 1 38 [.agg ((ai p2).map .t)] h (fun _=>Fe) fun r7 h=>aK false 2 42 [.agg ((ai p2).map .t),.own 2229248] h (fun _=>Js) fun r8 h=>ae<|m2 (fun r1 r7 r8 x11=>tZ u r1 r7 r8 x11=some r) (fun r1 r7 r8 x11=>⟨[(6,.obj 6 0),(7,.obj 7 0)],[(6,[.b false,.i 0,.i 0,.i 0,.i 0,.i 0,.nil,.i 0,.nil,.i 0,.nil,.i 0]),(7,[.b r1.fM,.i r1.bf,.i r1.be,.i r7.aP,.i r7.aS,.i r7.aY,.own 459270,.i r8.aT,.own 459272,.i x11,.own 459274,.i r1.a8])],[(459270,.live 176 2 (r7.aD.map aH)),(459272,.live 5 1 (r8.bg.map (aw .u8))),(459274,.live 149 5 (r1.aO.map am))]⟩) (fun r1 r7 r8 x11 h=>ae<|by cases h;exact Wp.ret aj)<|m2 (fun x10 r1 r7 r8=>t1 u x10 r1 r7 r8=some r) (fun x10 r1 r7 r8=>⟨[(6,.obj 6 0),(7,.obj 7 0),(53,.b x10)],[(6,[.b false,.i 0,.i 0,.i 0,.i 0,.i 0,.nil,.i 0,.nil,.i 0,.nil,.i 0]),(7,[.b r1.fM,.i r1.bf,.i r1.be,.i r7.aP,.i r7.aS,.i r7.aY,.own 459270,.i r8.aT,.own 459272,.i 1,.own 459274,.i r1.a8])],[(459270,.live 176 2 (r7.aD.map aH)),(459272,.live 5 1 (r8.bg.map (aw .u8))),(459274,.live 149 5 (r1.aO.map am))]⟩) (fun x10 r1 r7 r8 h=>ak h (fun h=>aV [] []<|aa<|⟨_,_,_,_,h,lo []⟩) fun h=>aC<|⟨_,_,_,_,h,lo []⟩)<|aV [] []<|ah 5 49 h (fun h=>ag false 2 52 [.agg ((ai p2).map .t),.own 2229248] h (fun _=>R5) fun r9 h=>aa<|⟨_,_,_,_,h,lo [(459270,2490371),(459272,2752513)]⟩) fun h=>aa<|⟨_,_,_,_,h,lo [(459270,2490371),(459272,2752513)]⟩)<|aV [] []<|ag false 1 24 [.agg ((ai p2).map .t)] h (fun _=>n5) fun r4 h=>ah 2 26 h (fun h=>aa<|⟨_,_,_,_,h,lo [(459270,720902),(459272,720904),(459274,720906)]⟩) fun h=>aa<|⟨_,_,_,_,h,lo [(459270,720902),(459272,720904),(459274,720906)]⟩
theorem Lr {u p0 p1 p2 p3 r} (h:tc u p0 p1 p2 p3=some r):al Tryz.prog 248 [cO (ai p0),cO (cJ p1),V.i p2,.one (.s p3)] (.tup [V.w [0,5] (cJ r.1),V.b r.2]) []:=by
 unfold tc at h
 refine b8 Tryz.f248 true ?_
 exact ae<|aK false 1 12 [.agg [.i p1.aT,.s p1.bg]] h (fun _=>Ff) fun r1 h=>Wp.seq<|kh (fun x4 x5 x6=>rU u x4 x5 x6=some r) (fun x4 x5 x6=>⟨[(8,.obj 8 0),(9,.b false),(10,.obj 10 0),(23,.b x4)],[(8,[.i 0,.nil]),(10,[.i x5,.own 655873])],[(655873,.live 5 1 (x6.map (aw .u8)))]⟩) (fun x4 x5 x6 h=>ak h (fun h=>ae<|by cases h;exact Wp.ret aj) fun h=>aC<|ae<|by cases h;exact Wp.ret aj)<|aV [] []<|ag false 2 15 [.agg ((ai p0).map .t),.agg [.i p1.aT,.s p1.bg]] h (fun _=>ul) fun r2 h=>ah 2 17 h (fun h=>aa<|⟨_,_,_,h,lo [(655873,786433)]⟩) fun h=>ag true 3 21 [.agg ((ai p0).map .t),.obj 10 0,.i p2,.s p3] h (fun _=>GM) fun r3 h=>aa<|⟨_,_,_,h,lo [(655873,1377921)]⟩
theorem Nx {u p0 p1 p2 r} (h:vU u p0 p1 p2=some r):al Tryz.prog 249 [cO (ay p0),V.i p1,V.i p2] (V.w [0,0,0,0,0,0,176,0,5,0,149,0,118] (tM r)) []:=by
 unfold vU at h
 refine b8 Tryz.f249 true ?_
 refine ae<|aK false 1 13 [.agg ((ay p0).map .t)] h (fun _=>gT) fun r1 h=>aK false 5 22 [.agg ((ai p0.av).map .t),.agg [.i p0.a7.aT,.s p0.a7.bg],.i p2] h (fun _=>Ev) fun r2 h=>kh (fun r1 x24 x25=>t6 u r1 x24 x25=some r) (fun r1 x24 x25=>⟨[(6,.obj 6 0),(7,.obj 7 0)],[(6,[.b false,.i 0,.i 0,.i 0,.i 0,.i 0,.nil,.i 0,.nil,.i 0,.nil,.i 0,.nil]),(7,[.b r1.fM,.i r1.bf,.i r1.be,.i r1.av.aP,.i r1.av.aS,.i r1.av.aY,.own 459270,.i r1.a7.aT,.own 459272,.i r1.aJ,.own 459274,.i r1.a8,.own 459276])],[(459270,.live 176 2 (r1.av.aD.map aH)),(459272,.live 5 1 (r1.a7.bg.map (aw .u8))),(459274,.live 149 5 (x24.map am)),(459276,.live 118 3 (x25.map aI))]⟩) (fun r1 x24 x25 h=>ae<|by cases h;exact Wp.ret aj)<|ae<|Wp.block<|PN (fun fb p1 p2 r2 x6 p0 r1 x7 x8=>eA u fb p1 p2 r2 x6 p0 r1 x7 x8=some r) (fun p1 p2 r2 x6 p0 r1 x7 x8=>⟨[(1,.i p1),(2,.i p2),(3,.obj 3 0),(6,.obj 6 0),(7,.obj 7 0),(8,.s r2.1),(9,.b r2.2),(10,.i x6)],[(3,((ay p0).map .t)),(6,[.b false,.i 0,.i 0,.i 0,.i 0,.i 0,.nil,.i 0,.nil,.i 0,.nil,.i 0,.nil]),(7,[.b r1.fM,.i r1.bf,.i r1.be,.i r1.av.aP,.i r1.av.aS,.i r1.av.aY,.own 459270,.i r1.a7.aT,.own 459272,.i r1.aJ,.own 459274,.i r1.a8,.own 459276])],[(459270,.live 176 2 (r1.av.aD.map aH)),(459272,.live 5 1 (r1.a7.bg.map (aw .u8))),(459274,.live 149 5 (x7.map am)),(459276,.live 118 3 (x8.map aI))]⟩) (fun fb p1 p2 r2 x6 p0 r1 x7 x8 h=>?_) h (Le.trans (Le.frz 8 1441792 5 1 (r2.1.map (aw .u8)) kr kr kr) (lo [(459270,851974),(459272,851976),(459274,851978),(459276,917504)])) (fun _ _ _ _ _ _ _ _  h=>nomatch h)
 rw [eA] at h
 exact Wp.seq<|Zt (fun p1 p2 r2 x6 x12 p0 r1 x7 x8=>ni u (fun z0 z1 z2 z3 z4 z5 z6 z7=>eA u fb z0 z1 z2 z3 z4 z5 z6 z7) p1 p2 r2 x6 x12 p0 r1 x7 x8=some r) (fun p1 p2 r2 x6 x12 p0 r1 x7 x8=>⟨[(1,.i p1),(2,.i p2),(3,.obj 3 0),(6,.obj 6 0),(7,.obj 7 0),(8,.s r2.1),(9,.b r2.2),(10,.i x6),(32,.b x12)],[(3,((ay p0).map .t)),(6,[.b false,.i 0,.i 0,.i 0,.i 0,.i 0,.nil,.i 0,.nil,.i 0,.nil,.i 0,.nil]),(7,[.b r1.fM,.i r1.bf,.i r1.be,.i r1.av.aP,.i r1.av.aS,.i r1.av.aY,.own 459270,.i r1.a7.aT,.own 459272,.i r1.aJ,.own 459274,.i r1.a8,.own 459276])],[(459270,.live 176 2 (r1.av.aD.map aH)),(459272,.live 5 1 (r1.a7.bg.map (aw .u8))),(459274,.live 149 5 (x7.map am)),(459276,.live 118 3 (x8.map aI))]⟩) (fun p1 p2 r2 x6 x12 p0 r1 x7 x8 h=>ak h (fun h=>aC<|PM (fun p1 p2 r2 x6 p0 r1 x22 x23=>t7 u (fun z0 z1 z2 z3 z4 z5 z6 z7=>eA u fb z0 z1 z2 z3 z4 z5 z6 z7) p1 p2 r2 x6 p0 r1 x22 x23=some r) (fun p1 p2 r2 x6 p0 r1 x22 x23=>⟨[(1,.i p1),(2,.i p2),(3,.obj 3 0),(6,.obj 6 0),(7,.obj 7 0),(8,.s r2.1),(9,.b r2.2),(10,.i x6)],[(3,((ay p0).map .t)),(6,[.b false,.i 0,.i 0,.i 0,.i 0,.i 0,.nil,.i 0,.nil,.i 0,.nil,.i 0,.nil]),(7,[.b r1.fM,.i r1.bf,.i r1.be,.i r1.av.aP,.i r1.av.aS,.i r1.av.aY,.own 459270,.i r1.a7.aT,.own 459272,.i r1.aJ,.own 459274,.i r1.a8,.own 459276])],[(459270,.live 176 2 (r1.av.aD.map aH)),(459272,.live 5 1 (r1.a7.bg.map (aw .u8))),(459274,.live 149 5 (x22.map am)),(459276,.live 118 3 (x23.map aI))]⟩) (fun p1 p2 r2 x6 p0 r1 x22 x23 h=>aV [] []<|aa<|⟨_,_,_,_,_,_,_,_,h,lo []⟩)<|Wp.block<|aE<|aR 3 149 5 am h fun y13 h _=>aa<|Wp.seq<|aL (jS []) (bR [(2,.frz),(3,.obj 3),(7,.obj 7),(11,.frz),(41,.obj 7),(42,.obj 7),(43,.own 7),(44,.frz),(45,.frz),(46,.frz),(47,.frz),(48,.frz)]) kr kr<|ag false 5 46 [.agg ((ay p0).map .t)] h (fun _=>Fg) fun r14 h=>eY 0 47 [.own 459274,.i y13.fd,.i r14] h (fun _=>Fh) fun r15 h=>ag false 1 49 [.i r15,.i p2] h (fun _=>lI) fun r16 h=>aa<|ak h (fun h=>Wp.seq<|aL (jS []) (bR [(1,.frz),(2,.frz),(3,.obj 3),(7,.obj 7),(8,.frz),(11,.frz),(50,.obj 7),(51,.own 7),(52,.frz),(53,.frz),(54,.obj 3),(55,.obj 3),(56,.frz),(57,.frz),(58,.frz),(59,.own 59),(60,.own 60),(61,.own 61),(62,.own 62),(63,.obj 7)]) kr kr<|ag false 9 59 [.i p0.av.aP,.i p2,.s r2.1] h (fun _=>Ew) fun r17 h=>ag false 0 60 [.i p1,.i y13.fd,.agg [.i r17.bA,.i r17.aP,.i r17.av.aP,.i r17.av.aS,.i r17.av.aY,.t (.sl 2 (r17.av.aD.map aH)),.i r17.bx,.i r17.bL,.i r17.fI,.own 3866633]] h (fun _=>oU) fun r18 h=>cg (ys:=[r18]) 1 62 118 3 459276 aI h fun h=>aa<|aL (jS []) (bR [(2,.frz),(7,.obj 7),(11,.frz),(64,.obj 7),(65,.obj 7),(66,.own 7),(67,.frz),(68,.frz),(69,.frz),(70,.own 70),(71,.obj 7),(72,.obj 7)]) kr kr<|ag false 5 69 [.i 0,.i p2] h (fun _=>Dn) fun r20 h=>ag false 0 70 [.own 459274,.i y13.fd,.i r20] h (fun _=>Dm) fun r21 h=>ab.all kr<|bY<|aN<|⟨_,_,_,_,_,_,_,_,h,lo [(459274,4587520),(459276,4063232)]⟩) fun h=>Wp.skip<|bY<|aN<|⟨_,_,_,_,_,_,_,_,h,lo []⟩) fun h=>Wp.exit<|aZ<|aZ<|de<|aN<|⟨_,_,_,h,lo []⟩)<|aV [] []<|ar 3 149 am p0.aO<|ah 2 30 h (fun h=>aa<|⟨_,_,_,_,_,_,_,_,_,h,lo []⟩) fun h=>aa<|⟨_,_,_,_,_,_,_,_,_,h,lo []⟩
theorem Ls {u p0 p1 p2 r} (h:td u p0 p1 p2=some r):al Tryz.prog 205 [cO (ay p0),V.i p1,cO (dA p2)] (V.w [0,0,0,0,0,0,176,0,5,0,149,0,118] (tM r)) []:=by
 unfold td at h
 refine b8 Tryz.f205 true ?_
 exact ae<|Wp.seq<|m2 (fun p1 x1 p0 p2=>rV u p1 x1 p0 p2=some r) (fun p1 x1 p0 p2=>⟨[(1,.i p1),(3,.obj 3 0),(5,.obj 5 0),(6,.obj 6 0),(20,.b x1)],[(3,((ay p0).map .t)),(5,((dA p2).map .t)),(6,[.b false,.i 0,.i 0,.i 0,.i 0,.i 0,.nil,.i 0,.nil,.i 0,.nil,.i 0,.nil])],[]⟩) (fun p1 x1 p0 p2 h=>ak h (fun h=>aK false 1 22 [.agg ((ay p0).map .t)] h (fun _=>pV) fun r2 h=>by cases h;exact Wp.ret aj) fun h=>aC<|Wp.seq<|aK false 5 30 [.i p0.a7.aT,.i p2.fI] h (fun _=>lI) fun r3 h=>ak h (fun h=>aK false 1 32 [.agg ((ay p0).map .t)] h (fun _=>gT) fun r4 h=>by cases h;exact Wp.ret aj) fun h=>aC<|aK false 8 44 [.agg ((ai p0.av).map .t),.agg [.i p0.a7.aT,.s p0.a7.bg],.i p2.fI,.s p2.fB] h (fun _=>Lr) fun r5 h=>Wp.seq<|ae<|ak h (fun h=>aK false 1 50 [.agg ((ay p0).map .t)] h (fun _=>pV) fun r6 h=>by cases h;exact Wp.ret aj) fun h=>aC<|aK false 1 54 [.agg ((ay p0).map .t)] h (fun _=>gT) fun r7 h=>ae<|aK false 4 61 [.agg [.b r7.fM,.i r7.bf,.i r7.be,.i r7.av.aP,.i r7.av.aS,.i r7.av.aY,.own 3538950,.i r5.1.aT,.own 2883585,.i r7.aJ,.own 3538954,.i r7.a8],.i p1,.i p2.fI] h (fun _=>Nx) fun r8 h=>pm ⟨[(6,.obj 6 0)],[(6,[.b r8.fN.fM,.i r8.fN.bf,.i r8.fN.be,.i r8.fN.av.aP,.i r8.fN.av.aS,.i r8.fN.av.aY,.own 3997702,.i r8.fN.a7.aT,.own 3997704,.i r8.fN.aJ,.own 3997706,.i r8.fN.a8,.own 3997708])],[(3997702,.live 176 2 (r8.fN.av.aD.map aH)),(3997704,.live 5 1 (r8.fN.a7.bg.map (aw .u8))),(3997706,.live 149 5 (r8.fN.aO.map am)),(3997708,.live 118 3 (r8.sW.map aI))]⟩<|by cases h;exact Wp.ret aj)<|aV [] []<|ah 4 13 h (fun h=>aa<|⟨_,_,_,_,h,lo []⟩) fun h=>aa<|⟨_,_,_,_,h,lo []⟩
theorem Lt {u p0 p1 p2 p3 r} (h:te u p0 p1 p2 p3=some r):al Tryz.prog 155 [cO (ay p0),V.i p1,cO (aB p2),cO (dA p3)] (V.w [0,0,0,0,0,0,176,0,5,0,149,0,118] (tM r)) []:=by
 unfold te at h
 refine b8 Tryz.f155 true ?_
 exact ae<|aK false 1 11 [.agg ((ay p0).map .t)] h (fun _=>gT) fun r1 h=>ae<|ZH (fun x4 x5 x6 x7 x8 x9 x10 x11 x12 x13 x14 x15=>oE u x4 x5 x6 x7 x8 x9 x10 x11 x12 x13 x14 x15=some r) (fun x4 x5 x6 x7 x8 x9 x10 x11 x12 x13 x14 x15=>⟨[(8,.obj 8 0),(9,.obj 9 0)],[(8,[.b false,.i 0,.i 0,.i 0,.i 0,.i 0,.nil,.i 0,.nil,.i 0,.nil,.i 0,.nil]),(9,[.b x4,.i x5,.i x6,.i x7,.i x8,.i x9,.own 590342,.i x11,.own 590344,.i x13,.own 590346,.i x15])],[(590342,.live 176 2 (x10.map aH)),(590344,.live 5 1 (x12.map (aw .u8))),(590346,.live 149 5 (x14.map am))]⟩) (fun x4 x5 x6 x7 x8 x9 x10 x11 x12 x13 x14 x15 h=>ae<|by cases h;exact Wp.ret aj)<|ae<|Wp.block<|ae<|ak h (fun h=>aV [] []<|ag false 4 21 [.agg [.b r1.fM,.i r1.bf,.i 0,.i r1.av.aP,.i r1.av.aS,.i r1.av.aY,.own 720902,.i r1.a7.aT,.own 720904,.i r1.aJ,.own 720906,.i r1.a8],.agg ((aB p2).map .t),.agg ((ai p3.av).map .t)] h (fun _=>Nw) fun r2 h=>ab.all kr<|bY<|aN<|⟨_,_,_,_,_,_,_,_,_,_,_,_,h,lo [(590342,1376262),(590344,1376264),(590346,1376266)]⟩) fun h=>ae<|ak h (fun h=>aK false 3 27 [.agg [.b r1.fM,.i r1.bf,.i 0,.i r1.av.aP,.i r1.av.aS,.i r1.av.aY,.own 720902,.i r1.a7.aT,.own 720904,.i r1.aJ,.own 720906,.i r1.a8],.i p1,.agg ((dA p3).map .t)] h (fun _=>Ls) fun r3 h=>by cases h;exact Wp.ret aj) fun h=>ae<|ak h (fun h=>aV [] []<|ab.all kr<|bY<|aN<|⟨_,_,_,_,_,_,_,_,_,_,_,_,h,lo [(590342,720902),(590344,720904),(590346,720906)]⟩) fun h=>Wp.skip<|bY<|aN<|⟨_,_,_,_,_,_,_,_,_,_,_,_,h,lo [(590342,720902),(590344,720904),(590346,720906)]⟩
theorem TJ {u p0 p1 p2 p3 p4 r} (h:CX u p0 p1 p2 p3 p4=some r):al Tryz.prog 99 [cO (hH p0),V.i p1,cO (ay p2),cO (aB p3),cO (aI p4)] (V.w [0,0,0,0,0,0,176,0,5,0,149,0,118] (tM r)) []:=by
 unfold CX at h
 refine b8 Tryz.f99 true ?_
 exact ae<|ae<|Wp.seq<|ae<|ak h (fun h=>aK false 1 19 [.agg ((ay p2).map .t)] h (fun _=>gT) fun r1 h=>by cases h;exact Wp.ret aj) fun h=>aC<|aK false 2 25 [.s p4.fB] h (fun _=>Qb) fun r2 h=>Wp.seq<|Wp.block<|Jk (fun p1 x4 p2 p3 p4 r2=>vV u p1 x4 p2 p3 p4 r2=some r) (fun p1 x4 p2 p3 p4 r2=>⟨[(1,.i p1),(7,.obj 7 0),(8,.obj 8 0),(9,.obj 9 0),(10,.obj 10 0),(11,.own 720897),(12,.obj 12 0),(28,.b x4)],[(7,((ay p2).map .t)),(8,((aB p3).map .t)),(9,((aI p4).map .t)),(10,[.b false,.i 0,.i 0,.i 0,.i 0,.i 0,.nil,.i 0,.nil,.i 0,.nil,.i 0,.nil]),(12,[.i r2.1.bA,.i r2.1.aP,.i r2.1.av.aP,.i r2.1.av.aS,.i r2.1.av.aY,.own 786949,.i r2.1.bx,.i r2.1.bL,.i r2.1.fI,.own 786953])],[(720897,.live 118 3 ((([]:List au)).map aI)),(786949,.live 176 2 (r2.1.av.aD.map aH)),(786953,.live 5 1 (r2.1.fB.map (aw .u8)))]⟩) (fun p1 x4 p2 p3 p4 r2 h=>ak h (fun h=>aK false 1 48 [.agg ((ay p2).map .t)] h (fun _=>pV) fun r5 h=>by cases h;exact Wp.ret aj) fun h=>ae<|ak h (fun h=>aK false 5 60 [.agg ((ay p2).map .t),.i p1,.i p4.du,.agg [.i r2.1.bA,.i r2.1.aP,.i r2.1.av.aP,.i r2.1.av.aS,.i r2.1.av.aY,.own 786949,.i r2.1.bx,.i r2.1.bL,.i r2.1.fI,.own 786953]] h (fun _=>Hx) fun r6 h=>by cases h;exact Wp.ret aj) fun h=>ae<|ak h (fun h=>aK false 4 71 [.agg ((ay p2).map .t),.i p1,.agg ((aB p3).map .t),.agg [.i r2.1.bA,.i r2.1.aP,.i r2.1.av.aP,.i r2.1.av.aS,.i r2.1.av.aY,.own 786949,.i r2.1.bx,.i r2.1.bL,.i r2.1.fI,.own 786953]] h (fun _=>Lt) fun r7 h=>by cases h;exact Wp.ret aj) fun h=>Wp.skip<|bY<|aN<|aK false 1 73 [.agg ((ay p2).map .t)] h (fun _=>pV) fun r8 h=>by cases h;exact Wp.ret aj)<|aV [] []<|ah 3 31 h (fun h=>aa<|⟨_,_,_,_,_,_,h,lo [(720897,917504),(786949,1638405),(786953,1638409)]⟩) fun h=>ar 4 3 (aw .i64) p0.cx<|ag false 1 38 [.i p4.du,.i 0,.i (cy .i64 ((p0.cx.length:Int)) 1)] h (fun _=>bi) fun r3 h=>ah 3 41 h (fun h=>aa<|⟨_,_,_,_,_,_,h,lo [(720897,917504),(786949,1638405),(786953,1638409)]⟩) fun h=>aa<|⟨_,_,_,_,_,_,h,lo [(720897,917504),(786949,1638405),(786953,1638409)]⟩
theorem Lu {u p0 p1 r} (h:qk u p0 p1=some r):al Tryz.prog 100 [cO (ay p0),cO (ay p1)] (V.b r) []:=by
 unfold qk at h
 refine b8 Tryz.f100 false ?_
 refine ae<|Wp.seq<|kh (fun x3 p0 p1=>d8 u x3 p0 p1=some r) (fun x3 p0 p1=>⟨[(2,.obj 2 0),(3,.obj 3 0),(4,.b false),(74,.b x3)],[(2,((ay p0).map .t)),(3,((ay p1).map .t))],[]⟩) (fun x3 p0 p1 h=>?_) ?_
 ·refine ak h (fun h=>ae<|by cases h;exact Wp.ret aj) fun h=>aC<|io (xC u=some r) ⟨[(4,.b false)],[],[]⟩ (fun h=>ae<|by cases h;exact Wp.ret aj)<|ae<|Wp.block<|dZ (fun jH x5 p0 p1=>js u jH x5 p0 p1=some r) (fun x5 p0 p1=>⟨[(2,.obj 2 0),(3,.obj 3 0),(4,.b false),(5,.i x5)],[(2,((ay p0).map .t)),(3,((ay p1).map .t))],[]⟩) (fun jH x5 p0 p1 h=>?_) h (lo []) (fun _ _ _  h=>nomatch h)
  rw [js] at h
  exact Wp.seq<|aE<|ar 3 149 am p0.aO<|aa<|ak h (fun h=>aC<|Wp.seq<|Wp.block<|Wp.seq<|aL (jS []) (bR [(2,.obj 2),(3,.obj 3),(5,.frz),(82,.obj 2),(83,.frz),(84,.frz),(85,.frz),(86,.frz),(87,.obj 3),(88,.frz),(89,.frz),(90,.frz),(91,.frz)]) kr kr<|aR 3 149 5 am h fun y7 h _=>aR 4 149 5 am h fun y8 h _=>aa<|ak h (fun h=>ae<|by cases h;exact Wp.ret aj) fun h=>Wp.skip<|bY<|aN<|aV [] []<|aa<|⟨_,_,_,h,lo []⟩) fun h=>Wp.exit<|aZ<|aZ<|de<|aN<|⟨h,lo []⟩
 exact aV [] []<|ah 6 11 h (fun h=>aa<|⟨_,_,_,h,lo []⟩) fun h=>ah 7 18 h (fun h=>aa<|⟨_,_,_,h,lo []⟩) fun h=>ah 7 25 h (fun h=>aa<|⟨_,_,_,h,lo []⟩) fun h=>ag false 4 30 [.agg ((ai p0.av).map .t),.agg ((ai p1.av).map .t)] h (fun _=>pU) fun r1 h=>ah 3 33 h (fun h=>aa<|⟨_,_,_,h,lo []⟩) fun h=>ah 9 42 h (fun h=>aa<|⟨_,_,_,h,lo []⟩) fun h=>ag false 6 49 [.s p0.a7.bg,.s p1.a7.bg] h (fun _=>wR) fun r2 h=>ah 3 52 h (fun h=>aa<|⟨_,_,_,h,lo []⟩) fun h=>ah 7 59 h (fun h=>aa<|⟨_,_,_,h,lo []⟩) fun h=>ar 2 149 am p0.aO<|ar 2 149 am p1.aO<|ah 3 68 h (fun h=>aa<|⟨_,_,_,h,lo []⟩) fun h=>aa<|⟨_,_,_,h,lo []⟩
theorem Ny {u p0 p1 p2 p3 p4 r} (h:Ai u p0 p1 p2 p3 p4=some r):al Tryz.prog 55 [cO (hH p0),V.i p1,cO (ay p2),cO (aB p3),cO (aI p4)] (V.b r) []:=by
 unfold Ai at h
 refine b8 Tryz.f55 false ?_
 exact ae<|aK false 5 17 [.agg [.t (.sl 1 (p0.cx.map (aw .i64)))],.i p1,.agg ((ay p2).map .t),.agg ((aB p3).map .t),.agg ((aI p4).map .t)] h (fun _=>TJ) fun r1 h=>ae<|aE<|ar 2 118 aI r1.sW<|ah 2 26 h (fun h=>eY 3 30 [.agg [.b r1.fN.fM,.i r1.fN.bf,.i r1.fN.be,.i r1.fN.av.aP,.i r1.fN.av.aS,.i r1.fN.av.aY,.own 1114118,.i r1.fN.a7.aT,.own 1114120,.i r1.fN.aJ,.own 1114122,.i p2.a8],.agg ((ay p2).map .t)] h (fun _=>Lu) fun r2 h=>aa<|by cases h;exact Wp.ret aj) fun h=>aa<|by cases h;exact Wp.ret aj
theorem Hz {u p0 p1 r} (h:pN u p0 p1=some r):al Tryz.prog 21 [cO (bw p0),V.i p1] (V.b r) []:=by
 unfold pN at h
 refine b8 Tryz.f21 false ?_
 exact ae<|aE<|aR 3 118 3 aI h fun y1 h _=>aa<|Wp.seq<|aL (jS []) (bR [(2,.obj 2),(5,.obj 5),(11,.obj 2),(12,.frz),(13,.obj 5),(14,.frz),(15,.obj 2),(16,.frz),(17,.obj 5),(18,.frz),(19,.frz),(20,.frz),(21,.obj 2),(22,.frz),(23,.obj 5),(24,.frz),(25,.frz),(26,.frz),(27,.frz),(28,.frz)]) kr kr<|aR 8 111 12 ay h fun y2 h _=>aR 5 116 6 aB h fun y3 h _=>ag false 2 28 [.agg [.t (.sl 1 (p0.fT.cx.map (aw .i64)))],.i y1.G2,.agg ((ay y2).map .t),.agg ((aB y3).map .t),.agg ((aI y1).map .t)] h (fun _=>Ny) fun r4 h=>aa<|by cases h;exact Wp.ret aj
theorem Nz {u p0 r} (h:vW u p0=some r):al Tryz.prog 10 [cO (bw p0)] (V.i r) []:=by
 unfold vW at h
 refine b8 Tryz.f10 false ?_
 refine ae<|ae<|jL (fun x11=>Eh u x11=some r) (fun x11=>⟨[(2,.i 0),(3,.i x11)],[],[]⟩) (fun x11 h=>ae<|by cases h;exact Wp.ret aj)<|ae<|Wp.block<|dZ (fun fc x3 x4 p0=>eB u fc x3 x4 p0=some r) (fun x3 x4 p0=>⟨[(1,.obj 1 0),(2,.i 0),(3,.i x3),(4,.i x4)],[(1,((bw p0).map .t))],[]⟩) (fun fc x3 x4 p0 h=>?_) h (lo []) (fun _ _ _  h=>nomatch h)
 rw [eB] at h
 exact Wp.seq<|m2 (fun x3 x4 x8 p0=>t9 u (fun z0 z1 z2=>eB u fc z0 z1 z2) x3 x4 x8 p0=some r) (fun x3 x4 x8 p0=>⟨[(1,.obj 1 0),(2,.i 0),(3,.i x3),(4,.i x4),(13,.b x8)],[(1,((bw p0).map .t))],[]⟩) (fun x3 x4 x8 p0 h=>ak h (fun h=>aC<|kh (fun x10 x4 p0=>t8 u (fun z0 z1 z2=>eB u fc z0 z1 z2) x10 x4 p0=some r) (fun x10 x4 p0=>⟨[(1,.obj 1 0),(2,.i 0),(3,.i x10),(4,.i x4)],[(1,((bw p0).map .t))],[]⟩) (fun x10 x4 p0 h=>aV [] []<|aa<|⟨_,_,_,h,lo []⟩)<|Wp.block<|aK false 2 18 [.agg ((bw p0).map .t),.i x4] h (fun _=>Hz) fun r9 h=>ak h (fun h=>aV [] []<|ab.all kr<|bY<|aN<|⟨_,_,_,h,lo []⟩) fun h=>Wp.skip<|bY<|aN<|⟨_,_,_,h,lo []⟩) fun h=>Wp.exit<|aZ<|aZ<|de<|aN<|⟨_,h,lo []⟩)<|aV [] []<|ar 3 118 aI p0.dX<|ah 2 10 h (fun h=>ag false 1 12 [.agg ((bw p0).map .t)] h (fun _=>No) fun r7 h=>aa<|⟨_,_,_,_,h,lo []⟩) fun h=>aa<|⟨_,_,_,_,h,lo []⟩
theorem bp {u p0 p1 p2 r} (h:bH u p0 p1 p2=some r):al Tryz.prog 30 [V.i p0,V.i p1,V.i p2] (V.b r) []:=by
 unfold bH at h
 refine b8 Tryz.f30 false ?_
 exact ae<|aE<|ah 4 10 h (fun h=>aa<|by cases h;exact Wp.ret aj) fun h=>aa<|by cases h;exact Wp.ret aj
theorem Qe {u p0 r} (h:yF u p0=some r):al Tryz.prog 62 [cO (pG p0)] (V.b r) []:=by
 unfold yF at h
 refine b8 Tryz.f62 false ?_
 exact ae<|aE<|ag false 2 5 [.i p0.aS,.i 2,.i 6] h (fun _=>bp) fun r1 h=>ah 1 6 h (fun h=>ag false 2 9 [.i p0.gB,.i 1,.i 40] h (fun _=>bp) fun r2 h=>ah 2 11 h (fun h=>ag false 2 14 [.i p0.eo,.i 1,.i 5] h (fun _=>bp) fun r3 h=>ah 2 16 h (fun h=>ag false 2 19 [.i p0.ik,.i 2,.i 8] h (fun _=>bp) fun r4 h=>aa<|by cases h;exact Wp.ret aj) fun h=>aa<|by cases h;exact Wp.ret aj) fun h=>aa<|by cases h;exact Wp.ret aj) fun h=>aa<|by cases h;exact Wp.ret aj
theorem Fi {u p0 r} (h:uW u p0=some r):al Tryz.prog 63 [cO (hH p0)] (V.b r) []:=by
 unfold uW at h
 refine b8 Tryz.f63 false ?_
 refine ae<|jL (fun p0=>vX u p0=some r) (fun p0=>⟨[(1,.obj 1 0),(2,.b false)],[(1,[.t (.sl 1 (p0.cx.map (aw .i64)))])],[]⟩) (fun p0 h=>aE<|ar 2 3 (aw .i64) p0.cx<|ag false 0 34 [.i ((p0.cx.length:Int)),.i 1,.i 7] h (fun _=>bp) fun r8 h=>aa<|by cases h;exact Wp.ret aj)<|aE<|ar 2 3 (aw .i64) p0.cx<|aa<|Wp.block<|yW (fun ee p0 x2=>fm u ee p0 x2=some r) (fun p0 x2=>⟨[(1,.obj 1 0),(2,.b false),(6,.t (.sl 1 (p0.cx.map (aw .i64)))),(7,.i ((p0.cx.length:Int))),(8,.i x2)],[(1,[.t (.sl 1 (p0.cx.map (aw .i64)))])],[]⟩) (fun ee p0 x2 h=>?_) h (lo []) (fun _ _  h=>nomatch h)
 rw [fm] at h
 exact ae<|Wp.seq<|ak h (fun h=>aC<|Wp.seq<|Wp.block<|aE<|aR 1 3 1 (aw .i64) h fun y4 h _=>aa<|kh (fun p0 x2 x7=>eC u (fun z0 z1=>fm u ee z0 z1) p0 x2 x7=some r) (fun p0 x2 x7=>⟨[(1,.obj 1 0),(2,.b false),(6,.t (.sl 1 (p0.cx.map (aw .i64)))),(7,.i ((p0.cx.length:Int))),(8,.i x2),(29,.b x7)],[(1,[.t (.sl 1 (p0.cx.map (aw .i64)))])],[]⟩) (fun p0 x2 x7 h=>ak h (fun h=>ae<|by cases h;exact Wp.ret aj) fun h=>Wp.skip<|bY<|aN<|aV [] []<|aa<|⟨_,_,h,lo []⟩)<|aV [] []<|ah 3 15 h (fun h=>ah 4 19 h (fun h=>aa<|⟨_,_,_,h,lo []⟩) fun h=>ah 3 22 h (fun h=>ag false 3 26 [.i y4,.i 0,.i (cy .i64 x2 1)] h (fun _=>bp) fun r5 h=>aa<|⟨_,_,_,h,lo []⟩) fun h=>aa<|⟨_,_,_,h,lo []⟩) fun h=>ah 7 22 h (fun h=>ag false 3 26 [.i y4,.i 0,.i (cy .i64 x2 1)] h (fun _=>bp) fun r6 h=>aa<|⟨_,_,_,h,lo []⟩) fun h=>aa<|⟨_,_,_,h,lo []⟩) fun h=>Wp.exit<|aZ<|aZ<|de<|aN<|⟨_,h,lo []⟩
theorem wT {u p0 p1 r} (h:pg u p0 p1=some r):al Tryz.prog 64 [V.i p0,V.i p1] (V.b r) []:=by
 unfold pg at h
 refine b8 Tryz.f64 false ?_
 exact ae<|aE<|ag false 1 6 [.i p0,.i 2,.i 6] h (fun _=>bp) fun r1 h=>ah 1 7 h (fun h=>ag false 3 11 [.i p1,.i 0,.i (gS .i64 40 p0)] h (fun _=>bp) fun r2 h=>aa<|by cases h;exact Wp.ret aj) fun h=>aa<|by cases h;exact Wp.ret aj
theorem Gq {u p0 r} (h:rX u p0=some r):al Tryz.prog 107 [cO (bd p0)] (V.b r) []:=by
 unfold rX at h
 refine b8 Tryz.f107 false ?_
 exact ae<|aE<|ar 2 5 (aw .u8) p0.fB<|aa<|by cases h;exact Wp.ret aj
theorem i8 {u p0 r} (h:cj u p0=some r):al Tryz.prog 159 [.one (.t (.sl 1 (p0.map bd))),.clo 107 []] (V.i r) []:=by
 unfold cj at h
 refine b8 Tryz.f159 false ?_
 refine ae<|io (cM u=some r) ⟨[(4,.i 0)],[],[]⟩ (fun h=>ae<|by cases h;exact Wp.ret aj)<|aE<|ar 1 121 bd p0<|aa<|Wp.block<|yW (fun bk p0 x2=>bm u bk p0 x2=some r) (fun p0 x2=>⟨[(0,.t (.sl 1 (p0.map bd))),(1,.clo 107 []),(4,.i 0),(7,.i ((p0.length:Int))),(8,.i x2)],[],[]⟩) (fun bk p0 x2 h=>?_) h (lo []) (fun _ _  h=>nomatch h)
 rw [bm] at h
 exact ae<|Wp.seq<|ak h (fun h=>aC<|Wp.seq<|Wp.block<|ae<|aE<|aR 3 121 1 bd h fun y4 h _=>ag false 1 16 [.agg [.s y4.fB]] h (fun _=>Gq) fun r5 h=>aa<|ak h (fun h=>ae<|by cases h;exact Wp.ret aj) fun h=>Wp.skip<|bY<|aN<|aV [] []<|aa<|⟨_,_,h,lo []⟩) fun h=>Wp.exit<|aZ<|aZ<|de<|aN<|⟨h,lo []⟩
theorem il {u p0 r} (h:cf u p0=some r):al Tryz.prog 106 [.one (.t (.sl 1 (p0.map bd))),.clo 107 []] (V.b r) []:=by
 unfold cf at h
 refine b8 Tryz.f106 false ?_
 exact ae<|aK false 2 7 [.t (.sl 1 (p0.map bd)),.clo 107 []] h (fun _=>i8) fun r1 h=>by cases h;exact Wp.ret aj
theorem Jt {u p0 p1 r} (h:q9 u p0 p1=some r):al Tryz.prog 65 [cO (hH p0),.one (.t (.sl 1 (p1.map bd)))] (V.b r) []:=by
 unfold q9 at h
 refine b8 Tryz.f65 false ?_
 exact ae<|aE<|ar 1 121 bd p1<|ar 2 3 (aw .i64) p0.cx<|ah 2 11 h (fun h=>ag false 1 13 [.t (.sl 1 (p1.map bd)),.clo 107 []] h (fun _=>il) fun r1 h=>aa<|by cases h;exact Wp.ret aj) fun h=>aa<|by cases h;exact Wp.ret aj
theorem NA {u p0 p1 r} (h:vY u p0 p1=some r):al Tryz.prog 250 [V.i p0,V.i p1] (V.i r) []:=by
 unfold vY at h
 refine b8 Tryz.f250 false ?_
 refine ae<|Wp.seq<|kh (fun p0 p1 x3=>ua u p0 p1 x3=some r) (fun p0 p1 x3=>⟨[(0,.i p0),(1,.i p1),(4,.i 0),(12,.b x3)],[],[]⟩) (fun p0 p1 x3 h=>?_) ?_
 ·refine ak h (fun h=>ae<|by cases h;exact Wp.ret aj) fun h=>aC<|aE<|bc 5 kr ?_
  obtain ⟨_,e_4,h⟩:=bind_some h
  exact iN .quo (.int .i64 (cy .i64 (aW .i64 p0 p1) 1)) (.int .i64 p1) (.int .i64 (VG .i64 (cy .i64 (aW .i64 p0 p1) 1) p1)) rfl kr kr kr kr (WM _ _ _ _ (by simpa using bj e_4))<|aa<|by cases h;exact Wp.ret aj
 exact aV [] []<|ag false 1 6 [.i p0,.i 0,.i 1000000000000] h (fun _=>bp) fun r1 h=>ah 2 8 h (fun h=>aa<|⟨_,_,_,h,lo []⟩) fun h=>ag false 1 10 [.i p1,.i 1,.i 1000000000000] h (fun _=>bp) fun r2 h=>aa<|⟨_,_,_,h,lo []⟩
theorem wU {u p0 p1 r} (h:pi u p0 p1=some r):al Tryz.prog 207 [V.i p0,V.i p1] (V.i r) []:=by
 unfold pi at h
 refine b8 Tryz.f207 false ?_
 exact ae<|Wp.seq<|aK false 2 7 [.i p0,.i p1] h (fun _=>wT) fun r1 h=>ak h (fun h=>ae<|by cases h;exact Wp.ret aj) fun h=>aC<|aK false 2 11 [.i p1,.i p0] h (fun _=>NA) fun r2 h=>by cases h;exact Wp.ret aj
theorem oV {u p0 p1 p2 r} (h:jc u p0 p1 p2=some r):al Tryz.prog 251 [V.i p0,V.i p1,V.i p2] (.tup [V.i r.1,V.i r.2]) []:=by
 unfold jc at h
 refine b8 Tryz.f251 false ?_
 exact ae<|Wp.seq<|aE<|ag false 3 11 [.i p0,.i p1] h (fun _=>wU) fun r1 h=>ag false 1 13 [.i p2,.i 0,.i (cy .i64 r1 1)] h (fun _=>bp) fun r2 h=>aa<|ak h (fun h=>ae<|by cases h;exact Wp.ret aj) fun h=>aC<|ae<|by cases h;exact Wp.ret aj
theorem gJ {u p0 r} (h:gj u p0=some r):al Tryz.prog 178 [.one (.s p0)] (.one (.ow 5 1 (r.map (aw .u8)))) []:=by
 unfold gj at h
 refine b8 Tryz.f178 true ?_
 refine ae<|aE<|ar 1 5 (aw .u8) p0 ?_
 obtain ⟨_,e_1,h⟩:=bind_some h
 obtain ⟨_,e_2,h⟩:=bind_some h
 exact nQ (aw .u8) (0:Int) 5 5 1 1 0 ((p0.length:Int)) rfl rfl kr kr kr kr kr kr (bj e_1) (of_decide_eq_true (bj e_2)) kr<|cg 1 7 5 1 327680 (aw .u8) h fun h=>aa<|by cases h;exact Wp.ret aj
theorem GN {u p0 p1 p2 r} (h:ux u p0 p1 p2=some r):al Tryz.prog 252 [.one (.s p0),V.i p1,V.i p2] (.tup [.one (.ow 5 1 (r.1.map (aw .u8))),V.b r.2]) []:=by
 unfold ux at h
 refine b8 Tryz.f252 true ?_
 refine ae<|Wp.seq<|m2 (fun p0 p1 p2 x3=>tg u p0 p1 p2 x3=some r) (fun p0 p1 p2 x3=>⟨[(0,.s p0),(1,.i p1),(2,.i p2),(6,.nil),(7,.b false),(21,.b x3)],[],[]⟩) (fun p0 p1 p2 x3 h=>?_) ?_
 ·refine ak h (fun h=>ae<|by cases h;exact Wp.ret aj) fun h=>aC<|aE<|bc 5 kr ?_
  obtain ⟨_,e_4,h⟩:=bind_some h
  exact eT (e:=5) (ax:=.s p0) (alo:=(some (.i p1))) (ahi:=(some (.i (aW .i64 p1 p2)))) (aw .u8) p0 1 p1 (aW .i64 p1 p2) rfl kr kr kr kr kr kr kr kr kr kr kr (bj e_4)<|ag false 0 28 [.t (.sl 1 (((p0.take (Int.toNat (aW .i64 p1 p2))).drop (Int.toNat p1)).map (aw .u8)))] h (fun _=>gJ) fun r5 h=>aa<|by cases h;exact Wp.ret aj
 exact aV [] []<|ar 2 5 (aw .u8) p0<|ag false 0 11 [.i p1,.i 0,.i ((p0.length:Int))] h (fun _=>bp) fun r1 h=>ah 2 13 h (fun h=>aa<|⟨_,_,_,_,h,lo []⟩) fun h=>ar 2 5 (aw .u8) p0<|ag false 2 19 [.i p2,.i 0,.i (cy .i64 ((p0.length:Int)) p1)] h (fun _=>bp) fun r2 h=>aa<|⟨_,_,_,_,h,lo []⟩
theorem NB {u p0 p1 p2 r} (h:rY u p0 p1 p2=some r):al Tryz.prog 208 [.one (.s p0),V.i p1,V.i p2] (.tup [.one (.ow 5 1 (r.1.map (aw .u8))),V.b r.2]) []:=by
 unfold rY at h
 refine b8 Tryz.f208 true ?_
 exact ae<|aE<|ar 2 5 (aw .u8) p0<|ag false 1 15 [.i p1,.i ((p0.length:Int)),.i p2] h (fun _=>oV) fun r1 h=>aa<|Wp.seq<|ae<|ak h (fun h=>ae<|by cases h;exact Wp.ret aj) fun h=>aC<|aK false 3 23 [.s p0,.i r1.1,.i r1.2] h (fun _=>GN) fun r2 h=>by cases h;exact Wp.ret aj
theorem Ju {u p0 p1 r} (h:Au u p0 p1=some r):al Tryz.prog 304 [V.i p0,V.i p1] (V.i r) []:=by
 unfold Au at h
 refine b8 Tryz.f304 false ?_
 refine ae<|Wp.seq<|aK false 1 6 [.i p1,.i 1,.i 1000000000000] h (fun _=>bp) fun r1 h=>ak h (fun h=>ae<|by cases h;exact Wp.ret aj) fun h=>aC<|aE<|bc 2 kr ?_
 obtain ⟨_,e_2,h⟩:=bind_some h
 refine iN .rem (.int .i64 p0) (.int .i64 p1) (.int .i64 (ru .i64 p0 p1)) rfl kr kr kr kr (O5 _ _ _ _ (by simpa using bj e_2))<|bc 3 kr ?_
 obtain ⟨_,e_3,h⟩:=bind_some h
 exact iN .rem (.int .i64 (aW .i64 (ru .i64 p0 p1) p1)) (.int .i64 p1) (.int .i64 (ru .i64 (aW .i64 (ru .i64 p0 p1) p1) p1)) rfl kr kr kr kr (O5 _ _ _ _ (by simpa using bj e_3))<|aa<|by cases h;exact Wp.ret aj
theorem TK {u p0 p1 r} (h:C0 u p0 p1=some r):al Tryz.prog 292 [V.i p0,V.i p1] (V.i r) []:=by
 unfold C0 at h
 refine b8 Tryz.f292 false ?_
 exact ae<|aE<|ag false 1 6 [.i p0,.i 251] h (fun _=>Ju) fun r1 h=>ag false 1 8 [.i p1,.i 251] h (fun _=>Ju) fun r2 h=>aa<|by cases h;exact Wp.ret aj
theorem Bg {u p0 r} (h:pj u p0=some r):al Tryz.prog 253 [.one (.s p0)] (V.i r) []:=by
 unfold pj at h
 refine b8 Tryz.f253 false ?_
 refine ae<|ae<|pn (fun x11 x12=>ra u x11 x12=some r) (fun x11 x12=>⟨[(2,.i 0),(3,.i x11),(4,.i x12)],[],[]⟩) (fun x11 x12 h=>aK false 2 25 [.i x11,.i x12] h (fun _=>TK) fun r13 h=>by cases h;exact Wp.ret aj)<|aE<|ar 1 5 (aw .u8) p0<|aa<|Wp.block<|GI (fun mc x4 x5 p0 x6=>oF u mc x4 x5 p0 x6=some r) (fun x4 x5 p0 x6=>⟨[(2,.i 0),(3,.i x4),(4,.i x5),(7,.s p0),(8,.i ((p0.length:Int))),(9,.i x6)],[],[]⟩) (fun mc x4 x5 p0 x6 h=>?_) h (lo []) (fun _ _ _ _  h=>nomatch h)
 rw [oF] at h
 exact ae<|Wp.seq<|ak h (fun h=>aC<|Wp.seq<|Wp.block<|aE<|aR 0 5 1 (aw .u8) h fun y10 h _=>aa<|ae<|aV [] []<|ab.all kr<|bY<|aN<|aV [] []<|aa<|⟨_,_,_,_,h,lo []⟩) fun h=>Wp.exit<|aZ<|aZ<|de<|aN<|⟨_,_,h,lo []⟩
theorem tx {u p0 r} (h:kZ u p0=some r):al Tryz.prog 209 [.one (.s p0)] (cO (aH r)) []:=by
 unfold kZ at h
 refine b8 Tryz.f209 false ?_
 refine ae<|Wp.seq<|aE<|ar 1 5 (aw .u8) p0<|aa<|ak h (fun h=>ae<|by cases h;exact Wp.ret aj) fun h=>aC<|ae<|pn (fun p0 x8=>th u p0 x8=some r) (fun p0 x8=>⟨[(0,.s p0),(2,.obj 2 0),(3,.i x8)],[(2,[.i 0,.i 0])],[]⟩) (fun p0 x8 h=>aK false 1 23 [.s p0] h (fun _=>Bg) fun r9 h=>by cases h;exact Wp.ret aj)<|aE<|ar 1 5 (aw .u8) p0<|aa<|Wp.block<|dZ (fun nB p0 x3 x4=>ql u nB p0 x3 x4=some r) (fun p0 x3 x4=>⟨[(0,.s p0),(2,.obj 2 0),(3,.i x3),(10,.s p0),(11,.i ((p0.length:Int))),(12,.i x4)],[(2,[.i 0,.i 0])],[]⟩) (fun nB p0 x3 x4 h=>?_) h (lo []) (fun _ _ _  h=>nomatch h)
 rw [ql] at h
 exact ae<|Wp.seq<|ak h (fun h=>aC<|Wp.seq<|Wp.block<|aE<|aR 0 5 1 (aw .u8) h fun y7 h _=>aa<|aV [] []<|ab.all kr<|bY<|aN<|aV [] []<|aa<|⟨_,_,_,h,lo []⟩) fun h=>Wp.exit<|aZ<|aZ<|de<|aN<|⟨_,_,h,lo []⟩
theorem Fj {u p0 p1 r} (h:uX u p0 p1=some r):al Tryz.prog 160 [.one (.s p0),V.i p1] (.one (.ow 176 2 (r.map aH))) []:=by
 unfold uX at h
 refine b8 Tryz.f160 true ?_
 refine ae<|ae<|jL (fun x10=>AY u x10=some r) (fun x10=>⟨[(4,.nil),(5,.own 327681)],[],[(327681,.live 176 2 (x10.map aH))]⟩) (fun x10 h=>ae<|by cases h;exact Wp.ret aj)<|aE<|ar 2 5 (aw .u8) p0<|ag false 0 13 [.i p1,.i ((p0.length:Int))] h (fun _=>wU) fun r1 h=>aa<|Wp.block<|Jl (fun mb p0 p1 x4 r1 x5=>oG u mb p0 p1 x4 r1 x5=some r) (fun p0 p1 x4 r1 x5=>⟨[(0,.s p0),(1,.i p1),(4,.nil),(5,.own 327681),(13,.i r1),(14,.i x5)],[],[(327681,.live 176 2 (x4.map aH))]⟩) (fun mb p0 p1 x4 r1 x5 h=>?_) h (lo [(327681,589824)]) (fun _ _ _ _ _  h=>nomatch h)
 rw [oG] at h
 exact ae<|Wp.seq<|ak h (fun h=>aC<|Wp.seq<|Wp.block<|ae<|aK false 3 21 [.s p0,.i p1,.i x5] h (fun _=>NB) fun r8 h=>aV [] []<|eY 2 26 [.own 1376256] h (fun _=>tx) fun r9 h=>cg (ys:=[r9]) 1 28 176 2 327681 aH h fun h=>ab.all kr<|bY<|aN<|aV [] []<|aa<|⟨_,_,_,_,_,h,lo [(327681,1835008)]⟩) fun h=>Wp.exit<|aZ<|aZ<|de<|aN<|⟨_,h,lo []⟩
theorem R6 {u p0 p1 p2 r} (h:AZ u p0 p1 p2=some r):al Tryz.prog 108 [V.i p0,.one (.s p1),V.i p2] (V.w [0,0,0,176] (ai r)) []:=by
 unfold AZ at h
 refine b8 Tryz.f108 true ?_
 exact ae<|Wp.seq<|m2 (fun p0 p1 p2 x3=>xX u p0 p1 p2 x3=some r) (fun p0 p1 p2 x3=>⟨[(0,.i p0),(1,.s p1),(2,.i p2),(6,.obj 6 0),(16,.b x3)],[(6,[.i 0,.i 0,.i 0,.nil])],[]⟩) (fun p0 p1 p2 x3 h=>ak h (fun h=>ae<|by cases h;exact Wp.ret aj) fun h=>aC<|aE<|ar 3 5 (aw .u8) p1<|ag false 2 24 [.s p1,.i p2] h (fun _=>Fj) fun r4 h=>aa<|by cases h;exact Wp.ret aj)<|aV [] []<|ag false 1 8 [.i p0,.i 1,.i 1000000] h (fun _=>bp) fun r1 h=>ah 2 10 h (fun h=>aa<|⟨_,_,_,_,h,lo []⟩) fun h=>ar 2 5 (aw .u8) p1<|ag false 0 14 [.i p2,.i ((p1.length:Int))] h (fun _=>wT) fun r2 h=>aa<|⟨_,_,_,_,h,lo []⟩
theorem R7 {u p0 r} (h:A0 u p0=some r):al Tryz.prog 66 [cO (bw p0)] (V.w [0,0,0,176] (ai r)) []:=by
 unfold A0 at h
 refine b8 Tryz.f66 true ?_
 exact ae<|aK false 5 8 [.i 1,.s p0.jj,.i p0.fC.aS] h (fun _=>R6) fun r1 h=>by cases h;exact Wp.ret aj
theorem hU {u p0 p1 r} (h:ef u p0 p1=some r):al Tryz.prog 72 [cO (hH p0),V.i p1] (V.b r) []:=by
 unfold ef at h
 refine b8 Tryz.f72 false ?_
 exact ae<|aE<|ar 3 3 (aw .i64) p0.cx<|ag false 1 10 [.i p1,.i 0,.i (cy .i64 ((p0.cx.length:Int)) 1)] h (fun _=>bp) fun r1 h=>aa<|by cases h;exact Wp.ret aj
theorem qH {u p0 r} (h:iH u p0=some r):al Tryz.prog 161 [cO (ai p0)] (V.b r) []:=by
 unfold iH at h
 refine b8 Tryz.f161 false ?_
 exact ae<|aE<|ah 4 6 h (fun h=>ah 5 11 h (fun h=>ah 5 16 h (fun h=>ar 2 176 aH p0.aD<|aa<|by cases h;exact Wp.ret aj) fun h=>aa<|by cases h;exact Wp.ret aj) fun h=>aa<|by cases h;exact Wp.ret aj) fun h=>aa<|by cases h;exact Wp.ret aj
theorem Ae {u p0 r} (h:lR u p0=some r):al Tryz.prog 162 [cO (cJ p0)] (V.b r) []:=by
 unfold lR at h
 refine b8 Tryz.f162 false ?_
 exact ae<|aE<|ah 4 6 h (fun h=>ar 2 5 (aw .u8) p0.bg<|aa<|by cases h;exact Wp.ret aj) fun h=>aa<|by cases h;exact Wp.ret aj
theorem HA {u p0 r} (h:ub u p0=some r):al Tryz.prog 109 [cO (ay p0)] (V.b r) []:=by
 unfold ub at h
 refine b8 Tryz.f109 false ?_
 exact ae<|aE<|ah 4 6 h (fun h=>ah 5 11 h (fun h=>ah 5 16 h (fun h=>ag false 2 19 [.agg ((ai p0.av).map .t)] h (fun _=>qH) fun r1 h=>ah 2 21 h (fun h=>ag false 2 24 [.agg [.i p0.a7.aT,.s p0.a7.bg]] h (fun _=>Ae) fun r2 h=>ah 2 26 h (fun h=>ah 5 31 h (fun h=>ar 2 149 am p0.aO<|ah 3 37 h (fun h=>aa<|by cases h;exact Wp.ret aj) fun h=>aa<|by cases h;exact Wp.ret aj) fun h=>aa<|by cases h;exact Wp.ret aj) fun h=>aa<|by cases h;exact Wp.ret aj) fun h=>aa<|by cases h;exact Wp.ret aj) fun h=>aa<|by cases h;exact Wp.ret aj) fun h=>aa<|by cases h;exact Wp.ret aj) fun h=>aa<|by cases h;exact Wp.ret aj
theorem Qf {u p0 p1 r} (h:yG u p0 p1=some r):al Tryz.prog 164 [cO (hH p0),V.i p1] (.one (.ow 3 1 (r.map (aw .i64)))) []:=by
 unfold yG at h
 refine b8 Tryz.f164 true ?_
 refine ae<|ae<|jL (fun x11=>vZ u x11=some r) (fun x11=>⟨[(4,.nil),(5,.own 327681)],[],[(327681,.live 3 1 (x11.map (aw .i64)))]⟩) (fun x11 h=>ae<|by cases h;exact Wp.ret aj)<|Wp.block<|dZ (fun ib x3 x4 p0=>iI u ib x3 x4 p0=some r) (fun x3 x4 p0=>⟨[(1,.i x3),(2,.obj 2 0),(4,.nil),(5,.own 327681)],[(2,[.t (.sl 1 (p0.cx.map (aw .i64)))])],[(327681,.live 3 1 (x4.map (aw .i64)))]⟩) (fun ib x3 x4 p0 h=>?_) h (lo [(327681,393216)]) (fun _ _ _  h=>nomatch h)
 rw [iI] at h
 exact Wp.seq<|m2 (fun x3 x4 x8 p0=>rc u (fun z0 z1 z2=>iI u ib z0 z1 z2) x3 x4 x8 p0=some r) (fun x3 x4 x8 p0=>⟨[(1,.i x3),(2,.obj 2 0),(4,.nil),(5,.own 327681),(17,.b x8)],[(2,[.t (.sl 1 (p0.cx.map (aw .i64)))])],[(327681,.live 3 1 (x4.map (aw .i64)))]⟩) (fun x3 x4 x8 p0 h=>ak h (fun h=>aC<|Wp.block<|aE<|cg 3 21 3 1 327681 (aw .i64) h fun h=>aa<|aV [] []<|aR 3 3 1 (aw .i64) h fun y10 h _=>ab.all kr<|bY<|aN<|⟨_,_,_,h,lo [(327681,1376256)]⟩) fun h=>Wp.exit<|aZ<|aZ<|de<|aN<|⟨_,h,lo []⟩)<|aV [] []<|ag false 2 9 [.agg [.t (.sl 1 (p0.cx.map (aw .i64)))],.i x3] h (fun _=>hU) fun r7 h=>ah 1 10 h (fun h=>ar 1 3 (aw .i64) x4<|ar 2 3 (aw .i64) p0.cx<|aa<|⟨_,_,_,_,h,lo []⟩) fun h=>aa<|⟨_,_,_,_,h,lo []⟩
theorem BE {u p0 p1 r} (h:lB u p0 p1=some r):al Tryz.prog 210 [.one (.t (.sl 1 (p0.map (aw .i64)))),V.i p1] (V.i r) []:=by
 unfold lB at h
 refine b8 Tryz.f210 false ?_
 refine ae<|io (m3 u=some r) ⟨[(4,.i 0)],[],[]⟩ (fun h=>ae<|by cases h;exact Wp.ret aj)<|aE<|ar 1 3 (aw .i64) p0<|aa<|Wp.block<|dZ (fun dV p0 p1 x2=>ep u dV p0 p1 x2=some r) (fun p0 p1 x2=>⟨[(0,.t (.sl 1 (p0.map (aw .i64)))),(1,.i p1),(4,.i 0),(7,.i ((p0.length:Int))),(8,.i x2)],[],[]⟩) (fun dV p0 p1 x2 h=>?_) h (lo []) (fun _ _ _  h=>nomatch h)
 rw [ep] at h
 exact ae<|Wp.seq<|ak h (fun h=>aC<|Wp.seq<|Wp.block<|ae<|aE<|aR 3 3 1 (aw .i64) h fun y4 h _=>aa<|ak h (fun h=>ae<|by cases h;exact Wp.ret aj) fun h=>Wp.skip<|bY<|aN<|aV [] []<|aa<|⟨_,_,_,h,lo []⟩) fun h=>Wp.exit<|aZ<|aZ<|de<|aN<|⟨h,lo []⟩
theorem zH {u p0 p1 r} (h:fO u p0 p1=some r):al Tryz.prog 163 [.one (.t (.sl 1 (p0.map (aw .i64)))),V.i p1] (V.b r) []:=by
 unfold fO at h
 refine b8 Tryz.f163 false ?_
 exact ae<|aK false 2 7 [.t (.sl 1 (p0.map (aw .i64))),.i p1] h (fun _=>BE) fun r1 h=>by cases h;exact Wp.ret aj
theorem Do {u p0 p1 p2 r} (h:qm u p0 p1 p2=some r):al Tryz.prog 110 [cO (hH p0),V.i p1,V.i p2] (V.b r) []:=by
 unfold qm at h
 refine b8 Tryz.f110 false ?_
 exact ae<|aE<|ah 4 10 h (fun h=>ag false 2 13 [.agg [.t (.sl 1 (p0.cx.map (aw .i64)))],.i p2] h (fun _=>Qf) fun r1 h=>eY 1 15 [.own 851968,.i p1] h (fun _=>zH) fun r2 h=>aa<|by cases h;exact Wp.ret aj) fun h=>aa<|by cases h;exact Wp.ret aj
theorem Ex {u p0 r} (h:nJ u p0=some r):al Tryz.prog 254 [V.i p0] (.tup [.one (.ow 5 1 (r.1.map (aw .u8))),V.b r.2]) []:=by
 unfold nJ at h
 refine b8 Tryz.f254 true ?_
 refine ae<|ae<|pn (fun p0 x5=>pO u p0 x5=some r) (fun p0 x5=>⟨[(0,.i p0),(2,.nil),(3,.b false),(4,.i x5)],[],[]⟩) (fun p0 x5 h=>?_) ?_
 ·refine Wp.seq<|kh (fun p0 x5 x6=>nk u p0 x5 x6=some r) (fun p0 x5 x6=>⟨[(0,.i p0),(2,.nil),(3,.b false),(4,.i x5),(26,.b x6)],[],[]⟩) (fun p0 x5 x6 h=>?_) ?_
  ·refine ak h (fun h=>ae<|by cases h;exact Wp.ret aj) fun h=>aC<|aE<|bc 1 kr ?_
   obtain ⟨_,e_7,h⟩:=bind_some h
   obtain ⟨_,e_8,h⟩:=bind_some h
   refine nQ (aw .u8) (0:Int) 28 5 1 1 x5 x5 rfl rfl kr kr kr kr kr kr (bj e_7) (of_decide_eq_true (bj e_8)) kr<|aa<|jL (fun x17=>zu u x17=some r) (fun x17=>⟨[(2,.nil),(3,.b false),(5,.own 327681)],[],[(327681,.live 5 1 (x17.map (aw .u8)))]⟩) (fun x17 h=>ae<|by cases h;exact Wp.ret aj)<|aE<|ar 1 5 (aw .u8) (List.replicate (Int.toNat x5) (0:Int))<|aa<|Wp.block<|GI (fun kG p0 x5 x11 x12=>nj u kG p0 x5 x11 x12=some r) (fun p0 x5 x11 x12=>⟨[(0,.i p0),(2,.nil),(3,.b false),(4,.i x5),(5,.own 327681),(30,.i (((List.replicate (Int.toNat x5) (0:Int)).length:Int))),(31,.i x12)],[],[(327681,.live 5 1 (x11.map (aw .u8)))]⟩) (fun kG p0 x5 x11 x12 h=>?_) h (lo [(327681,1835008)]) (fun _ _ _ _  h=>nomatch h)
   rw [nj] at h
   refine ae<|Wp.seq<|ak h (fun h=>?_) (fun h=>?_)
   ·refine aC<|Wp.seq<|Wp.block<|ae<|aV [] []<|bc 8 kr ?_
    obtain ⟨_,e_15,h⟩:=bind_some h
    exact iN .shr (.int .i64 p0) (.int .i64 (gS .i64 8 (cy .i64 (cy .i64 x5 1) x12))) (.int .i64 (n4 .i64 p0 (gS .i64 8 (cy .i64 (cy .i64 x5 1) x12)))) rfl kr kr kr kr (Je _ _ _ _ _ (bj e_15))<|cI 1 5 1 327681 5 (aw .u8) h fun y16 h e_y16=>gm (e:=5) (sz:=1) (m:=1) (aw .u8) x11 327681 (Int.toNat x12) 0 (IntKind.wrap .u8 (n4 .i64 p0 (gS .i64 8 (cy .i64 (cy .i64 x5 1) x12)))) (.t (.int .u8 (IntKind.wrap .u8 (n4 .i64 p0 (gS .i64 8 (cy .i64 (cy .i64 x5 1) x12)))))) [.int .u8 (IntKind.wrap .u8 (n4 .i64 p0 (gS .i64 8 (cy .i64 (cy .i64 x5 1) x12))))] rfl kr kr kr kr kr kr kr kr ((cq e_y16).2) kr kr<|ab.all kr<|bY<|aN<|aV [] []<|aa<|⟨_,_,_,_,h,lo []⟩
   exact Wp.exit<|aZ<|aZ<|de<|aN<|⟨_,h,lo []⟩
  refine aV [] []<|ah 3 20 h (fun h=>aa<|⟨_,_,_,h,lo []⟩) fun h=>bc 3 kr ?_
  obtain ⟨_,e_6,h⟩:=bind_some h
  exact iN .shr (.int .i64 p0) (.int .i64 (gS .i64 8 x5)) (.int .i64 (n4 .i64 p0 (gS .i64 8 x5))) rfl kr kr kr kr (Je _ _ _ _ _ (bj e_6))<|aa<|⟨_,_,_,h,lo []⟩
 refine Wp.block<|yW (fun gp p0 x2=>gQ u gp p0 x2=some r) (fun p0 x2=>⟨[(0,.i p0),(2,.nil),(3,.b false),(4,.i x2)],[],[]⟩) (fun gp p0 x2 h=>?_) h (lo []) (fun _ _  h=>nomatch h)
 rw [gQ] at h
 refine Wp.seq<|kh (fun p0 x2 x4=>pP u (fun z0 z1=>gQ u gp z0 z1) p0 x2 x4=some r) (fun p0 x2 x4=>⟨[(0,.i p0),(2,.nil),(3,.b false),(4,.i x2),(15,.b x4)],[],[]⟩) (fun p0 x2 x4 h=>ak h (fun h=>aC<|Wp.block<|aV [] []<|ab.all kr<|bY<|aN<|⟨_,_,h,lo []⟩) fun h=>Wp.exit<|aZ<|aZ<|de<|aN<|⟨_,_,h,lo []⟩)<|aV [] []<|ah 3 9 h (fun h=>?_) (fun h=>?_)
 ·refine bc 3 kr ?_
  obtain ⟨_,e_4,h⟩:=bind_some h
  exact iN .shr (.int .i64 p0) (.int .i64 (gS .i64 8 x2)) (.int .i64 (n4 .i64 p0 (gS .i64 8 x2))) rfl kr kr kr kr (Je _ _ _ _ _ (bj e_4))<|aa<|⟨_,_,_,h,lo []⟩
 exact aa<|⟨_,_,_,h,lo []⟩
theorem n6 {u p0 r} (h:mG u p0=some r):al Tryz.prog 211 [cO (ai p0)] (V.b r) []:=by
 unfold mG at h
 refine b8 Tryz.f211 false ?_
 refine ae<|Wp.seq<|aK false 1 10 [.agg ((ai p0).map .t)] h (fun _=>qH) fun r1 h=>ak h (fun h=>ae<|by cases h;exact Wp.ret aj) fun h=>aC<|Wp.seq<|pn (fun x5 p0=>ti u x5 p0=some r) (fun x5 p0=>⟨[(1,.obj 1 0),(2,.b false),(33,.b x5)],[(1,((ai p0).map .t))],[]⟩) (fun x5 p0 h=>?_) ?_
 ·refine ak h (fun h=>ae<|by cases h;exact Wp.ret aj) fun h=>aC<|io (Co u=some r) ⟨[(2,.b false)],[],[]⟩ (fun h=>ae<|by cases h;exact Wp.ret aj)<|aE<|ar 2 176 aH p0.aD<|aa<|Wp.block<|yW (fun gX p0 x7=>jP u gX p0 x7=some r) (fun p0 x7=>⟨[(1,.obj 1 0),(2,.b false),(35,.t (.sl 2 (p0.aD.map aH))),(36,.i ((p0.aD.length:Int))),(37,.i x7)],[(1,((ai p0).map .t))],[]⟩) (fun gX p0 x7 h=>?_) h (lo []) (fun _ _  h=>nomatch h)
  rw [jP] at h
  exact ae<|Wp.seq<|ak h (fun h=>aC<|Wp.seq<|Wp.block<|aE<|aR 1 176 2 aH h fun y9 h _=>aa<|aK false 2 45 [.i y9.fS] h (fun _=>Ex) fun r10 h=>aK false 5 54 [.i p0.aS,.i p0.aY,.i x7] h (fun _=>oV) fun r11 h=>kh (fun p0 x7 x13=>lF u (fun z0 z1=>jP u gX z0 z1) p0 x7 x13=some r) (fun p0 x7 x13=>⟨[(1,.obj 1 0),(2,.b false),(35,.t (.sl 2 (p0.aD.map aH))),(36,.i ((p0.aD.length:Int))),(37,.i x7),(71,.b x13)],[(1,((ai p0).map .t))],[]⟩) (fun p0 x7 x13 h=>ak h (fun h=>ae<|by cases h;exact Wp.ret aj) fun h=>Wp.skip<|bY<|aN<|aV [] []<|aa<|⟨_,_,h,lo []⟩)<|aL (jS []) (bR [(4,.obj 4),(5,.own 45),(6,.frz),(8,.frz),(57,.frz),(58,.frz),(59,.frz),(60,.own 45),(61,.frz),(62,.frz),(64,.frz),(65,.frz),(66,.own 45),(67,.frz),(68,.obj 4),(69,.frz)]) kr kr<|ah 3 59 h (fun h=>aa<|⟨_,_,_,h,lo []⟩) fun h=>ar 1 5 (aw .u8) r10.1<|ah 4 65 h (fun h=>aa<|⟨_,_,_,h,lo []⟩) fun h=>eY 1 67 [.own 2949120] h (fun _=>Bg) fun r12 h=>aa<|⟨_,_,_,h,lo []⟩) fun h=>Wp.exit<|aZ<|aZ<|de<|aN<|⟨h,lo []⟩
 exact aL (jS []) (bR [(1,.obj 1),(11,.obj 1),(12,.frz),(13,.frz),(14,.frz),(15,.frz),(16,.obj 1),(17,.frz),(18,.obj 1),(19,.frz),(20,.frz),(22,.frz),(23,.frz),(24,.obj 1),(25,.frz),(26,.frz),(27,.obj 1),(28,.frz),(29,.obj 1),(30,.frz),(31,.frz)]) kr kr<|ag false 2 13 [.i p0.aP,.i 1,.i 1000000] h (fun _=>bp) fun r2 h=>ah 2 15 h (fun h=>aa<|⟨_,_,h,lo []⟩) fun h=>ag false 4 20 [.i p0.aS,.i p0.aY] h (fun _=>wT) fun r3 h=>ah 3 23 h (fun h=>aa<|⟨_,_,h,lo []⟩) fun h=>ar 2 176 aH p0.aD<|ag false 4 31 [.i p0.aS,.i p0.aY] h (fun _=>wU) fun r4 h=>aa<|⟨_,_,h,lo []⟩
theorem dz {u p0 r} (h:dr u p0=some r):al Tryz.prog 168 [V.i p0] (V.b r) []:=by
 unfold dr at h
 refine b8 Tryz.f168 false ?_
 exact ae<|aK false 1 4 [.i p0,.i 0,.i 1099511627775] h (fun _=>bp) fun r1 h=>by cases h;exact Wp.ret aj
theorem NC {u p0 r} (h:rZ u p0=some r):al Tryz.prog 255 [V.i p0] (V.i r) []:=by
 unfold rZ at h
 refine b8 Tryz.f255 false ?_
 refine ae<|Wp.seq<|aK false 1 4 [.i p0,.i 0,.i 40] h (fun _=>bp) fun r1 h=>ak h (fun h=>ae<|by cases h;exact Wp.ret aj) fun h=>aC<|aE<|bc 1 kr ?_
 obtain ⟨_,e_2,h⟩:=bind_some h
 exact iN .shl (.int .i64 1) (.int .i64 p0) (.int .i64 (i7 .i64 1 p0)) rfl kr kr kr kr (B8 _ _ _ _ _ (bj e_2))<|aa<|by cases h;exact Wp.ret aj
theorem Dp {u p0 r} (h:qn u p0=some r):al Tryz.prog 212 [cO (ai p0)] (V.i r) []:=by
 unfold qn at h
 refine b8 Tryz.f212 false ?_
 exact ae<|aE<|ar 2 176 aH p0.aD<|ag false 0 6 [.i ((p0.aD.length:Int))] h (fun _=>NC) fun r1 h=>aa<|by cases h;exact Wp.ret aj
theorem yX {u p0 p1 p2 r} (h:iJ u p0 p1 p2=some r):al Tryz.prog 213 [cO (cJ p0),cO (ai p1),V.i p2] (.one (.s r)) []:=by
 unfold iJ at h
 refine b8 Tryz.f213 false ?_
 refine ae<|aK false 5 15 [.i p1.aS,.i p1.aY,.i p2] h (fun _=>oV) fun r1 h=>aE<|bc 6 kr ?_
 obtain ⟨_,e_2,h⟩:=bind_some h
 exact eT (e:=5) (ax:=.s p0.bg) (alo:=(some (.i r1.1))) (ahi:=(some (.i (aW .i64 r1.1 r1.2)))) (aw .u8) p0.bg 1 r1.1 (aW .i64 r1.1 r1.2) rfl kr kr kr kr kr kr kr kr kr kr kr (bj e_2)<|aa<|by cases h;exact Wp.ret aj
theorem Ey {u p0 r} (h:pz u p0=some r):al Tryz.prog 256 [V.i p0] (V.b r) []:=by
 unfold pz at h
 refine b8 Tryz.f256 false ?_
 exact ae<|aK false 1 4 [.i p0,.i 0,.i 39] h (fun _=>bp) fun r1 h=>by cases h;exact Wp.ret aj
theorem lJ {u p0 p1 r} (h:fp u p0 p1=some r):al Tryz.prog 214 [V.i p0,V.i p1] (V.b r) []:=by
 unfold fp at h
 refine b8 Tryz.f214 false ?_
 refine ae<|aE<|ag false 1 6 [.i p0] h (fun _=>dz) fun r1 h=>ah 1 7 h (fun h=>?_) (fun h=>?_)
 ·refine ag false 1 9 [.i p1] h (fun _=>Ey) fun r2 h=>ah 2 11 h (fun h=>?_) (fun h=>?_)
  ·refine bc 2 kr ?_
   obtain ⟨_,e_3,h⟩:=bind_some h
   exact iN .shr (.int .i64 p0) (.int .i64 p1) (.int .i64 (n4 .i64 p0 p1)) rfl kr kr kr kr (Je _ _ _ _ _ (bj e_3))<|aa<|by cases h;exact Wp.ret aj
  exact aa<|by cases h;exact Wp.ret aj
 exact aa<|by cases h;exact Wp.ret aj
theorem Jv {u p0 r} (h:wa u p0=some r):al Tryz.prog 216 [.one (.t (.int .u8 p0))] (V.b r) []:=by
 unfold wa at h
 refine b8 Tryz.f216 false ?_
 exact ae<|ae<|by cases h;exact Wp.ret aj
theorem nR {u p0 r} (h:c9 u p0=some r):al Tryz.prog 257 [.one (.s p0),.clo 216 []] (V.i r) []:=by
 unfold c9 at h
 refine b8 Tryz.f257 false ?_
 refine ae<|io (dH u=some r) ⟨[(4,.i 0)],[],[]⟩ (fun h=>ae<|by cases h;exact Wp.ret aj)<|aE<|ar 1 5 (aw .u8) p0<|aa<|Wp.block<|yW (fun bU p0 x2=>bZ u bU p0 x2=some r) (fun p0 x2=>⟨[(0,.s p0),(1,.clo 216 []),(4,.i 0),(7,.i ((p0.length:Int))),(8,.i x2)],[],[]⟩) (fun bU p0 x2 h=>?_) h (lo []) (fun _ _  h=>nomatch h)
 rw [bZ] at h
 exact ae<|Wp.seq<|ak h (fun h=>aC<|Wp.seq<|Wp.block<|ae<|aE<|aR 3 5 1 (aw .u8) h fun y4 h _=>ag false 1 16 [.t (.int .u8 y4)] h (fun _=>Jv) fun r5 h=>aa<|ak h (fun h=>ae<|by cases h;exact Wp.ret aj) fun h=>Wp.skip<|bY<|aN<|aV [] []<|aa<|⟨_,_,h,lo []⟩) fun h=>Wp.exit<|aZ<|aZ<|de<|aN<|⟨h,lo []⟩
theorem fu {u p0 r} (h:bq u p0=some r):al Tryz.prog 215 [.one (.s p0),.clo 216 []] (V.b r) []:=by
 unfold bq at h
 refine b8 Tryz.f215 false ?_
 exact ae<|aK false 2 7 [.s p0,.clo 216 []] h (fun _=>nR) fun r1 h=>by cases h;exact Wp.ret aj
theorem zI {u p0 p1 r} (h:pA u p0 p1=some r):al Tryz.prog 165 [cO (ai p0),cO (cJ p1)] (V.b r) []:=by
 unfold pA at h
 refine b8 Tryz.f165 false ?_
 refine ae<|Wp.seq<|kh (fun x4 p0 p1=>nm u x4 p0 p1=some r) (fun x4 p0 p1=>⟨[(2,.obj 2 0),(3,.obj 3 0),(4,.b false),(32,.b x4)],[(2,((ai p0).map .t)),(3,[.i p1.aT,.s p1.bg])],[]⟩) (fun x4 p0 p1 h=>?_) ?_
 ·refine ak h (fun h=>ae<|by cases h;exact Wp.ret aj) fun h=>aC<|io (zx u=some r) ⟨[(4,.b false)],[],[]⟩ (fun h=>ae<|by cases h;exact Wp.ret aj)<|aE<|ar 2 176 aH p0.aD<|aa<|Wp.block<|dZ (fun dO p0 x6 p1=>eD u dO p0 x6 p1=some r) (fun p0 x6 p1=>⟨[(2,.obj 2 0),(3,.obj 3 0),(4,.b false),(34,.t (.sl 2 (p0.aD.map aH))),(35,.i ((p0.aD.length:Int))),(36,.i x6)],[(2,((ai p0).map .t)),(3,[.i p1.aT,.s p1.bg])],[]⟩) (fun dO p0 x6 p1 h=>?_) h (lo []) (fun _ _ _  h=>nomatch h)
  rw [eD] at h
  exact ae<|Wp.seq<|ak h (fun h=>aC<|Wp.seq<|Wp.block<|aE<|aR 1 176 2 aH h fun y8 h _=>aa<|aK false 3 44 [.agg [.i p1.aT,.s p1.bg],.agg ((ai p0).map .t),.i x6] h (fun _=>yX) fun r9 h=>m2 (fun p0 x6 x16 p1=>d6 u (fun z0 z1 z2=>eD u dO z0 z1 z2) p0 x6 x16 p1=some r) (fun p0 x6 x16 p1=>⟨[(2,.obj 2 0),(3,.obj 3 0),(4,.b false),(34,.t (.sl 2 (p0.aD.map aH))),(35,.i ((p0.aD.length:Int))),(36,.i x6),(65,.b x16)],[(2,((ai p0).map .t)),(3,[.i p1.aT,.s p1.bg])],[]⟩) (fun p0 x6 x16 p1 h=>ak h (fun h=>ae<|by cases h;exact Wp.ret aj) fun h=>Wp.skip<|bY<|aN<|aV [] []<|aa<|⟨_,_,_,h,lo []⟩)<|aL (jS []) (bR [(3,.obj 3),(5,.frz),(6,.obj 6),(7,.frz),(45,.obj 3),(46,.frz),(47,.frz),(48,.frz),(49,.frz),(50,.frz),(51,.frz),(52,.frz),(54,.frz),(55,.frz),(56,.obj 3),(57,.frz),(58,.frz),(59,.frz),(60,.frz),(61,.frz),(62,.frz)]) kr kr<|ag false 3 48 [.i p1.aT,.i x6] h (fun _=>lJ) fun r10 h=>ah 1 49 h (fun h=>ag false 1 51 [.s r9] h (fun _=>tx) fun r11 h=>ah 4 55 h (fun h=>aa<|⟨_,_,_,_,h,lo []⟩) fun h=>ag false 3 59 [.i p1.aT,.i x6] h (fun _=>lJ) fun r12 h=>ah 2 61 h (fun h=>ag false 1 63 [.s r9,.clo 216 []] h (fun _=>fu) fun r13 h=>aa<|⟨_,_,_,_,h,lo []⟩) fun h=>aa<|⟨_,_,_,_,h,lo []⟩) fun h=>ag false 9 59 [.i p1.aT,.i x6] h (fun _=>lJ) fun r14 h=>ah 2 61 h (fun h=>ag false 1 63 [.s r9,.clo 216 []] h (fun _=>fu) fun r15 h=>aa<|⟨_,_,_,_,h,lo []⟩) fun h=>aa<|⟨_,_,_,_,h,lo []⟩) fun h=>Wp.exit<|aZ<|aZ<|de<|aN<|⟨h,lo []⟩
 exact aL (jS []) (bR [(2,.obj 2),(3,.obj 3),(8,.frz),(9,.frz),(10,.frz),(11,.frz),(12,.obj 3),(13,.frz),(14,.frz),(16,.frz),(17,.frz),(18,.obj 3),(19,.frz),(20,.frz),(21,.frz),(22,.frz),(24,.frz),(25,.frz),(26,.obj 3),(27,.frz),(28,.frz),(29,.obj 2),(30,.frz)]) kr kr<|ag false 1 9 [.agg ((ai p0).map .t)] h (fun _=>n6) fun r1 h=>ah 2 11 h (fun h=>aa<|⟨_,_,_,h,lo []⟩) fun h=>ag false 2 14 [.i p1.aT] h (fun _=>dz) fun r2 h=>ah 3 17 h (fun h=>aa<|⟨_,_,_,h,lo []⟩) fun h=>ag false 3 21 [.agg ((ai p0).map .t)] h (fun _=>Dp) fun r3 h=>ah 4 25 h (fun h=>aa<|⟨_,_,_,h,lo []⟩) fun h=>ar 2 5 (aw .u8) p1.bg<|aa<|⟨_,_,_,h,lo []⟩
theorem ND {u p0 p1 r} (h:wb u p0 p1=some r):al Tryz.prog 217 [V.i p0,V.i p1] (V.i r) []:=by
 unfold wb at h
 refine b8 Tryz.f217 false ?_
 exact ae<|Wp.seq<|kh (fun p0 p1 x3=>uc u p0 p1 x3=some r) (fun p0 p1 x3=>⟨[(0,.i p0),(1,.i p1),(4,.i 0),(12,.b x3)],[],[]⟩) (fun p0 p1 x3 h=>ak h (fun h=>ae<|by cases h;exact Wp.ret aj) fun h=>aC<|ae<|by cases h;exact Wp.ret aj)<|aV [] []<|ag false 1 6 [.i p0] h (fun _=>dz) fun r1 h=>ah 2 8 h (fun h=>aa<|⟨_,_,_,h,lo []⟩) fun h=>ag false 1 10 [.i p1] h (fun _=>dz) fun r2 h=>aa<|⟨_,_,_,h,lo []⟩
theorem NE {u p0 p1 r} (h:wc u p0 p1=some r):al Tryz.prog 166 [cO (ai p0),cO (cJ p1)] (V.i r) []:=by
 unfold wc at h
 refine b8 Tryz.f166 false ?_
 exact ae<|Wp.seq<|aL (jS []) (bR [(2,.obj 2),(3,.obj 3),(5,.frz),(6,.frz),(7,.obj 3),(8,.frz),(9,.frz)]) kr kr<|ag false 1 6 [.agg ((ai p0).map .t)] h (fun _=>Dp) fun r1 h=>ag false 2 9 [.i r1,.i p1.aT] h (fun _=>ND) fun r2 h=>aa<|by cases h;exact Wp.ret aj
theorem ER {u p0 r} (h:mH u p0=some r):al Tryz.prog 111 [cO (ay p0)] (V.b r) []:=by
 unfold mH at h
 refine b8 Tryz.f111 false ?_
 exact ae<|Wp.seq<|Wp.block<|ae<|ak h (fun h=>aE<|ag false 2 9 [.agg ((ai p0.av).map .t)] h (fun _=>qH) fun r1 h=>ah 1 10 h (fun h=>ag false 2 13 [.agg [.i p0.a7.aT,.s p0.a7.bg]] h (fun _=>Ae) fun r2 h=>aa<|by cases h;exact Wp.ret aj) fun h=>aa<|by cases h;exact Wp.ret aj) fun h=>pn (fun x4 p0=>mT u x4 p0=some r) (fun x4 p0=>⟨[(1,.obj 1 0),(2,.b false),(15,.b x4)],[(1,((ay p0).map .t))],[]⟩) (fun x4 p0 h=>ak h (fun h=>ae<|by cases h;exact Wp.ret aj) fun h=>Wp.skip<|bY<|aN<|aE<|ah 4 31 h (fun h=>aa<|by cases h;exact Wp.ret aj) fun h=>ag false 4 36 [.agg ((ai p0.av).map .t),.agg [.i p0.a7.aT,.s p0.a7.bg]] h (fun _=>NE) fun r5 h=>aa<|by cases h;exact Wp.ret aj)<|aV [] []<|ah 5 20 h (fun h=>aa<|⟨_,_,h,lo []⟩) fun h=>ag false 4 25 [.agg ((ai p0.av).map .t),.agg [.i p0.a7.aT,.s p0.a7.bg]] h (fun _=>zI) fun r3 h=>aa<|⟨_,_,h,lo []⟩
theorem Jw {u p0 r} (h:xE u p0=some r):al Tryz.prog 167 [V.i p0] (V.b r) []:=by
 unfold xE at h
 refine b8 Tryz.f167 false ?_
 exact ae<|aK false 1 4 [.i p0,.i 0,.i 6] h (fun _=>bp) fun r1 h=>by cases h;exact Wp.ret aj
theorem Qg {u p0 r} (h:yH u p0=some r):al Tryz.prog 112 [.one (.t (.sl 5 (p0.map am)))] (V.b r) []:=by
 unfold yH at h
 refine b8 Tryz.f112 false ?_
 refine ae<|io (A2 u=some r) ⟨[(2,.b false)],[],[]⟩ (fun h=>ae<|by cases h;exact Wp.ret aj)<|aE<|ar 1 149 am p0<|aa<|Wp.block<|yW (fun dp p0 x2=>d9 u dp p0 x2=some r) (fun p0 x2=>⟨[(0,.t (.sl 5 (p0.map am))),(2,.b false),(5,.t (.sl 5 (p0.map am))),(6,.i ((p0.length:Int))),(7,.i x2)],[],[]⟩) (fun dp p0 x2 h=>?_) h (lo []) (fun _ _  h=>nomatch h)
 rw [d9] at h
 exact ae<|Wp.seq<|ak h (fun h=>aC<|Wp.seq<|Wp.block<|aE<|aR 1 149 5 am h fun y4 h _=>aa<|kh (fun p0 x2 x10=>dh u (fun z0 z1=>d9 u dp z0 z1) p0 x2 x10=some r) (fun p0 x2 x10=>⟨[(0,.t (.sl 5 (p0.map am))),(2,.b false),(5,.t (.sl 5 (p0.map am))),(6,.i ((p0.length:Int))),(7,.i x2),(53,.b x10)],[],[]⟩) (fun p0 x2 x10 h=>ak h (fun h=>ae<|by cases h;exact Wp.ret aj) fun h=>Wp.skip<|bY<|aN<|aV [] []<|aa<|⟨_,_,h,lo []⟩)<|aL (jS []) (bR [(0,.frz),(3,.frz),(4,.obj 4),(12,.obj 4),(13,.frz),(14,.frz),(15,.frz),(16,.frz),(17,.obj 4),(18,.frz),(19,.frz),(21,.frz),(22,.frz),(23,.obj 4),(24,.frz),(25,.frz),(27,.frz),(28,.frz),(29,.obj 4),(30,.frz),(32,.frz),(33,.frz),(34,.obj 4),(35,.frz),(36,.frz),(38,.frz),(39,.frz),(40,.frz),(41,.frz),(42,.frz),(43,.obj 4),(44,.frz),(45,.frz),(46,.frz),(47,.frz),(48,.frz),(49,.frz),(50,.frz)]) kr kr<|ag false 2 14 [.i y4.fd] h (fun _=>Jw) fun r5 h=>ah 2 16 h (fun h=>aa<|⟨_,_,_,h,lo []⟩) fun h=>ag false 2 19 [.i y4.bx] h (fun _=>dz) fun r6 h=>ah 3 22 h (fun h=>aa<|⟨_,_,_,h,lo []⟩) fun h=>ag false 2 25 [.i y4.bL] h (fun _=>dz) fun r7 h=>ah 3 28 h (fun h=>aa<|⟨_,_,_,h,lo []⟩) fun h=>ah 5 33 h (fun h=>aa<|⟨_,_,_,h,lo []⟩) fun h=>ag false 2 36 [.i y4.c8] h (fun _=>dz) fun r8 h=>ah 3 39 h (fun h=>aa<|⟨_,_,_,h,lo []⟩) fun h=>ah 3 42 h (fun h=>aR 5 149 5 am h fun y9 h _=>aa<|⟨_,_,_,h,lo []⟩) fun h=>aa<|⟨_,_,_,h,lo []⟩) fun h=>Wp.exit<|aZ<|aZ<|de<|aN<|⟨h,lo []⟩
theorem Lv {u p0 q0 q1 r} (h:tj u p0 q0 q1=some r):al Tryz.prog 114 [cO (am p0),.fptr [.sl 1 (q0.cx.map (aw .i64))],.fptr [.int .i64 q1]] (V.b r) []:=by
 unfold tj at h
 refine b8 Tryz.f114 false ?_
 exact ae<|aE<|ag false 3 8 [.agg [.t (.sl 1 (q0.cx.map (aw .i64)))],.i p0.fd] h (fun _=>hU) fun r1 h=>ah 2 10 h (fun h=>aa<|by cases h;exact Wp.ret aj) fun h=>aa<|by cases h;exact Wp.ret aj
theorem li {u p0 p1_0 p1_1 r} (h:cB u p0 p1_0 p1_1=some r):al Tryz.prog 169 [.one (.t (.sl 5 (p0.map am))),.clo 114 [.fptr [.sl 1 (p1_0.cx.map (aw .i64))],.fptr [.int .i64 p1_1]]] (V.i r) []:=by
 unfold cB at h
 refine b8 Tryz.f169 false ?_
 refine ae<|io (db u=some r) ⟨[(4,.i 0)],[],[]⟩ (fun h=>ae<|by cases h;exact Wp.ret aj)<|aE<|ar 1 149 am p0<|aa<|Wp.block<|GI (fun bC p0 p1_0 p1_1 x2=>bI u bC p0 p1_0 p1_1 x2=some r) (fun p0 p1_0 p1_1 x2=>⟨[(0,.t (.sl 5 (p0.map am))),(1,.clo 114 [.fadr [.sl 1 (p1_0.cx.map (aw .i64))],.fadr [.int .i64 p1_1]]),(4,.i 0),(7,.i ((p0.length:Int))),(8,.i x2)],[],[]⟩) (fun bC p0 p1_0 p1_1 x2 h=>?_) h (lo []) (fun _ _ _ _  h=>nomatch h)
 rw [bI] at h
 exact ae<|Wp.seq<|ak h (fun h=>aC<|Wp.seq<|Wp.block<|ae<|aE<|aR 3 149 5 am h fun y4 h _=>ag false 1 16 [.agg ((am y4).map .t),.fadr [.sl 1 (p1_0.cx.map (aw .i64))],.fadr [.int .i64 p1_1]] h (fun _=>Lv) fun r5 h=>aa<|ak h (fun h=>ae<|by cases h;exact Wp.ret aj) fun h=>Wp.skip<|bY<|aN<|aV [] []<|aa<|⟨_,_,_,_,h,lo []⟩) fun h=>Wp.exit<|aZ<|aZ<|de<|aN<|⟨h,lo []⟩
theorem jT {u p0 p1_0 p1_1 r} (h:b5 u p0 p1_0 p1_1=some r):al Tryz.prog 113 [.one (.t (.sl 5 (p0.map am))),.clo 114 [.fptr [.sl 1 (p1_0.cx.map (aw .i64))],.fptr [.int .i64 p1_1]]] (V.b r) []:=by
 unfold b5 at h
 refine b8 Tryz.f113 false ?_
 exact ae<|aK false 2 7 [.t (.sl 5 (p0.map am)),.clo 114 [.fadr [.sl 1 (p1_0.cx.map (aw .i64))],.fadr [.int .i64 p1_1]]] h (fun _=>li) fun r1 h=>by cases h;exact Wp.ret aj
theorem Qh {u p0 p1 p2 r} (h:uY u p0 p1 p2=some r):al Tryz.prog 67 [cO (hH p0),V.i p1,cO (ay p2)] (V.b r) []:=by
 unfold uY at h
 refine b8 Tryz.f67 false ?_
 exact ae<|Wp.seq<|m2 (fun x3 p0 p1 p2=>wd u x3 p0 p1 p2=some r) (fun x3 p0 p1 p2=>⟨[(3,.obj 3 0),(4,.obj 4 0),(5,.obj 5 0),(6,.b false),(16,.b x3)],[(3,[.t (.sl 1 (p0.cx.map (aw .i64)))]),(4,[.i p1]),(5,((ay p2).map .t))],[]⟩) (fun x3 p0 p1 p2 h=>ak h (fun h=>ae<|by cases h;exact Wp.ret aj) fun h=>aC<|Wp.seq<|ae<|ak h (fun h=>aK false 1 21 [.agg ((ay p2).map .t)] h (fun _=>HA) fun r4 h=>by cases h;exact Wp.ret aj) fun h=>aC<|m2 (fun x7 p0 p1 p2=>mI u x7 p0 p1 p2=some r) (fun x7 p0 p1 p2=>⟨[(3,.obj 3 0),(4,.obj 4 0),(5,.obj 5 0),(6,.b false),(7,.b x7)],[(3,[.t (.sl 1 (p0.cx.map (aw .i64)))]),(4,[.i p1]),(5,((ay p2).map .t))],[]⟩) (fun x7 p0 p1 p2 h=>Wp.seq<|Wp.le (Le.trans (rv 3 [.sl 1 (p0.cx.map (aw .i64))] kr kr) (rv 4 [.int .i64 p1] kr kr))<|aV [] []<|ah 2 41 h (fun h=>ah 5 46 h (fun h=>ah 5 51 h (fun h=>ag false 2 54 [.i p2.aJ,.i 0,.i 6] h (fun _=>bp) fun r8 h=>ah 2 56 h (fun h=>ah 8 64 h (fun h=>ag false 1 66 [.agg ((ay p2).map .t)] h (fun _=>ER) fun r9 h=>ah 2 68 h (fun h=>ag false 2 71 [.t (.sl 5 (p2.aO.map am))] h (fun _=>Qg) fun r10 h=>ah 2 73 h (fun h=>ag false 3 77 [.t (.sl 5 (p2.aO.map am)),.clo 114 [.fadr [.sl 1 (p0.cx.map (aw .i64))],.fadr [.int .i64 p1]]] h (fun _=>jT) fun r11 h=>aa<|by cases h;exact Wp.ret aj) fun h=>aa<|by cases h;exact Wp.ret aj) fun h=>aa<|by cases h;exact Wp.ret aj) fun h=>aa<|by cases h;exact Wp.ret aj) fun h=>aa<|by cases h;exact Wp.ret aj) fun h=>aa<|by cases h;exact Wp.ret aj) fun h=>aa<|by cases h;exact Wp.ret aj) fun h=>aa<|by cases h;exact Wp.ret aj)<|aV [] []<|ah 3 24 h (fun h=>ah 5 29 h (fun h=>aa<|⟨_,_,_,_,h,lo []⟩) fun h=>ah 3 32 h (fun h=>ag false 4 37 [.agg [.t (.sl 1 (p0.cx.map (aw .i64)))],.i p2.bf,.i p1] h (fun _=>Do) fun r5 h=>aa<|⟨_,_,_,_,h,lo []⟩) fun h=>aa<|⟨_,_,_,_,h,lo []⟩) fun h=>ah 8 32 h (fun h=>ag false 4 37 [.agg [.t (.sl 1 (p0.cx.map (aw .i64)))],.i p2.bf,.i p1] h (fun _=>Do) fun r6 h=>aa<|⟨_,_,_,_,h,lo []⟩) fun h=>aa<|⟨_,_,_,_,h,lo []⟩)<|aV [] []<|ag false 1 9 [.agg [.t (.sl 1 (p0.cx.map (aw .i64)))]] h (fun _=>Fi) fun r1 h=>ah 2 11 h (fun h=>aa<|⟨_,_,_,_,h,lo []⟩) fun h=>ag false 2 14 [.agg [.t (.sl 1 (p0.cx.map (aw .i64)))],.i p1] h (fun _=>hU) fun r2 h=>aa<|⟨_,_,_,_,h,lo []⟩
theorem Ct {u p0 r} (h:uy u p0=some r):al Tryz.prog 170 [V.i p0] (V.b r) []:=by
 unfold uy at h
 refine b8 Tryz.f170 false ?_
 exact ae<|aK false 1 4 [.i p0,.i 0,.i 1000000] h (fun _=>bp) fun r1 h=>by cases h;exact Wp.ret aj
theorem Fk {u p0 r} (h:uZ u p0=some r):al Tryz.prog 171 [V.i p0] (V.b r) []:=by
 unfold uZ at h
 refine b8 Tryz.f171 false ?_
 exact ae<|aE<|ah 3 5 h (fun h=>aa<|by cases h;exact Wp.ret aj) fun h=>aa<|by cases h;exact Wp.ret aj
theorem Dq {u p0 r} (h:qo u p0=some r):al Tryz.prog 115 [cO (fk p0)] (V.b r) []:=by
 unfold qo at h
 refine b8 Tryz.f115 false ?_
 exact ae<|aE<|ag false 2 5 [.i p0.aP] h (fun _=>Ct) fun r1 h=>ah 1 6 h (fun h=>ag false 2 9 [.i p0.cL] h (fun _=>Fk) fun r2 h=>ah 2 11 h (fun h=>ag false 2 14 [.i p0.aY,.i 0,.i 240] h (fun _=>bp) fun r3 h=>aa<|by cases h;exact Wp.ret aj) fun h=>aa<|by cases h;exact Wp.ret aj) fun h=>aa<|by cases h;exact Wp.ret aj
theorem n7 {u p0 p1 r} (h:eQ u p0 p1=some r):al Tryz.prog 116 [.fptr [.sl 1 (p0.fA.map (aw .u8)),.sl 1 (p0.fB.map (aw .u8)),.int .i64 p0.fR.aP,.int .i64 p0.fR.cL,.int .i64 p0.fR.aY,.sl 6 (p0.fP.map aU)],V.i p1] (.fptr [.sl 1 (r.map (aw .u8))]) []:=by
 unfold eQ at h
 refine b8 Tryz.f116 false ?_
 refine ae<|Wp.seq<|ae<|ak h (fun h=>?_) (fun h=>?_)
 ·refine ae<|Wp.ret<|Zr ?_
  obtain rfl:=Option.some.inj h
  exact qaa [.fadr (aB p0)] (.fptr ([.sl 1 (p0.fA.map (aw .u8))]++[.sl 1 (p0.fB.map (aw .u8)),.int .i64 p0.fR.aP,.int .i64 p0.fR.cL,.int .i64 p0.fR.aY,.sl 6 (p0.fP.map aU)])) [] kr kr (.cut _ _) .nil
 refine aC<|ae<|Wp.ret ?_
 obtain rfl:=Option.some.inj h
 exact qaa [.fadr [.sl 1 (p0.fB.map (aw .u8)),.int .i64 p0.fR.aP,.int .i64 p0.fR.cL,.int .i64 p0.fR.aY,.sl 6 (p0.fP.map aU)]] (.fptr ([.sl 1 (p0.fB.map (aw .u8))]++[.int .i64 p0.fR.aP,.int .i64 p0.fR.cL,.int .i64 p0.fR.aY,.sl 6 (p0.fP.map aU)])) [] kr kr (.cut _ _) .nil
theorem R8 {u p0 r} (h:A3 u p0=some r):al Tryz.prog 119 [cO (aU p0)] (V.b r) []:=by
 unfold A3 at h
 refine b8 Tryz.f119 false ?_
 exact ae<|Wp.seq<|ae<|ak h (fun h=>aE<|ah 4 9 h (fun h=>ar 2 5 (aw .u8) p0.fB<|ah 3 15 h (fun h=>ag false 2 18 [.agg ((fk p0.fR).map .t)] h (fun _=>Dq) fun r1 h=>aa<|by cases h;exact Wp.ret aj) fun h=>aa<|by cases h;exact Wp.ret aj) fun h=>aa<|by cases h;exact Wp.ret aj) fun h=>aC<|aE<|ag false 2 22 [.i p0.d1] h (fun _=>Fk) fun r2 h=>ah 1 23 h (fun h=>ah 6 29 h (fun h=>ar 4 5 (aw .u8) p0.fB<|ag false 1 36 [.i p0.Cl,.i 0,.i (cy .i64 240 ((p0.fB.length:Int)))] h (fun _=>bp) fun r3 h=>aa<|by cases h;exact Wp.ret aj) fun h=>aa<|by cases h;exact Wp.ret aj) fun h=>aa<|by cases h;exact Wp.ret aj
theorem Lw {u p0 r} (h:tk u p0=some r):al Tryz.prog 118 [cO (aU p0)] (V.b r) []:=by
 unfold tk at h
 refine b8 Tryz.f118 false ?_
 exact ae<|aK false 1 4 [.agg ((aU p0).map .t)] h (fun _=>R8) fun r1 h=>by cases h;exact Wp.ret aj
theorem lj {u p0 r} (h:cC u p0=some r):al Tryz.prog 172 [.one (.t (.sl 6 (p0.map aU))),.clo 118 []] (V.i r) []:=by
 unfold cC at h
 refine b8 Tryz.f172 false ?_
 refine ae<|io (dd u=some r) ⟨[(4,.i 0)],[],[]⟩ (fun h=>ae<|by cases h;exact Wp.ret aj)<|aE<|ar 1 155 aU p0<|aa<|Wp.block<|yW (fun bD p0 x2=>bJ u bD p0 x2=some r) (fun p0 x2=>⟨[(0,.t (.sl 6 (p0.map aU))),(1,.clo 118 []),(4,.i 0),(7,.i ((p0.length:Int))),(8,.i x2)],[],[]⟩) (fun bD p0 x2 h=>?_) h (lo []) (fun _ _  h=>nomatch h)
 rw [bJ] at h
 exact ae<|Wp.seq<|ak h (fun h=>aC<|Wp.seq<|Wp.block<|ae<|aE<|aR 3 155 6 aU h fun y4 h _=>ag false 1 16 [.agg ((aU y4).map .t)] h (fun _=>Lw) fun r5 h=>aa<|ak h (fun h=>ae<|by cases h;exact Wp.ret aj) fun h=>Wp.skip<|bY<|aN<|aV [] []<|aa<|⟨_,_,h,lo []⟩) fun h=>Wp.exit<|aZ<|aZ<|de<|aN<|⟨h,lo []⟩
theorem jU {u p0 r} (h:b6 u p0=some r):al Tryz.prog 117 [.one (.t (.sl 6 (p0.map aU))),.clo 118 []] (V.b r) []:=by
 unfold b6 at h
 refine b8 Tryz.f117 false ?_
 exact ae<|aK false 2 7 [.t (.sl 6 (p0.map aU)),.clo 118 []] h (fun _=>lj) fun r1 h=>by cases h;exact Wp.ret aj
theorem Bh {u p0 r} (h:pk u p0=some r):al Tryz.prog 68 [cO (aB p0)] (V.b r) []:=by
 unfold pk at h
 refine b8 Tryz.f68 false ?_
 exact ae<|Wp.seq<|pn (fun p0 x3=>oH u p0 x3=some r) (fun p0 x3=>⟨[(1,.fadr (aB p0)),(2,.b false),(31,.b x3)],[],[]⟩) (fun p0 x3 h=>ak h (fun h=>ae<|by cases h;exact Wp.ret aj) fun h=>aC<|aE<|ar 2 155 aU p0.fP<|ah 2 36 h (fun h=>ag false 2 39 [.t (.sl 6 (p0.fP.map aU)),.clo 118 []] h (fun _=>jU) fun r4 h=>aa<|by cases h;exact Wp.ret aj) fun h=>aa<|by cases h;exact Wp.ret aj)<|Wp.le (rv 1 (aB p0) kr kr)<|aL (jS []) (bR [(1,.frz),(3,.frz),(4,.frz),(5,.frz),(6,.frz),(7,.frz),(8,.frz),(9,.frz),(10,.frz),(12,.frz),(13,.frz),(14,.frz),(15,.frz),(16,.frz),(18,.frz),(19,.frz),(20,.frz),(21,.frz),(22,.frz),(23,.frz),(24,.frz),(25,.frz),(26,.frz),(27,.frz),(28,.frz),(29,.frz)]) kr kr<|ar 2 5 (aw .u8) p0.fA<|ah 2 7 h (fun h=>aa<|⟨_,_,h,lo []⟩) fun h=>ar 2 5 (aw .u8) p0.fB<|ah 3 13 h (fun h=>aa<|⟨_,_,h,lo []⟩) fun h=>ag false 2 16 [.agg ((fk p0.fR).map .t)] h (fun _=>Dq) fun r1 h=>ah 3 19 h (fun h=>aa<|⟨_,_,h,lo []⟩) fun h=>ag false 6 26 [.fadr (aB p0),.i p0.fR.cL] h (fun _=>n7) fun r2 h=>ar 2 5 (aw .u8) r2<|aa<|⟨_,_,h,lo []⟩
theorem lK {u p0 p1 r} (h:da u p0 p1=some r):al Tryz.prog 120 [.one (.t (.sl 2 (p0.map aH))),.one (.t (.sl 2 (p1.map aH)))] (V.b r) []:=by
 unfold da at h
 refine b8 Tryz.f120 false ?_
 refine ae<|Wp.seq<|aE<|ar 1 176 aH p0<|ar 1 176 aH p1<|aa<|ak h (fun h=>ae<|by cases h;exact Wp.ret aj) fun h=>aC<|io (gG u=some r) ⟨[(4,.b false)],[],[]⟩ (fun h=>ae<|by cases h;exact Wp.ret aj)<|aE<|ar 1 176 aH p0<|aa<|Wp.block<|dZ (fun cE p0 p1 x2=>cP u cE p0 p1 x2=some r) (fun p0 p1 x2=>⟨[(0,.t (.sl 2 (p0.map aH))),(1,.t (.sl 2 (p1.map aH))),(4,.b false),(12,.i ((p0.length:Int))),(13,.i x2)],[],[]⟩) (fun cE p0 p1 x2 h=>?_) h (lo []) (fun _ _ _  h=>nomatch h)
 rw [cP] at h
 exact ae<|Wp.seq<|ak h (fun h=>aC<|Wp.seq<|Wp.block<|ae<|Wp.seq<|aL (jS []) (bR [(0,.frz),(1,.frz),(5,.frz),(16,.frz),(17,.frz),(18,.frz),(19,.frz),(20,.frz),(21,.frz),(22,.frz),(23,.frz)]) kr kr<|aR 2 176 2 aH h fun y4 h _=>aR 3 176 2 aH h fun y5 h _=>aa<|ak h (fun h=>ae<|by cases h;exact Wp.ret aj) fun h=>Wp.skip<|bY<|aN<|aV [] []<|aa<|⟨_,_,_,h,lo []⟩) fun h=>Wp.exit<|aZ<|aZ<|de<|aN<|⟨h,lo []⟩
theorem zJ {u p0 p1 r} (h:nK u p0 p1=some r):al Tryz.prog 69 [cO (ai p0),cO (ai p1)] (V.b r) []:=by
 unfold nK at h
 refine b8 Tryz.f69 false ?_
 exact ae<|aE<|ah 6 10 h (fun h=>ah 7 17 h (fun h=>ah 7 24 h (fun h=>ag false 4 29 [.t (.sl 2 (p0.aD.map aH)),.t (.sl 2 (p1.aD.map aH))] h (fun _=>lK) fun r1 h=>aa<|by cases h;exact Wp.ret aj) fun h=>aa<|by cases h;exact Wp.ret aj) fun h=>aa<|by cases h;exact Wp.ret aj) fun h=>aa<|by cases h;exact Wp.ret aj
theorem zK {u p0 r} (h:pB u p0=some r):al Tryz.prog 122 [cO (aB p0)] (.tup [V.i r.1,.one (.ow 5 1 (r.2.map (aw .u8)))]) []:=by
 unfold pB at h
 refine b8 Tryz.f122 true ?_
 refine ae<|Wp.seq<|aK false 1 5 [.agg ((aB p0).map .t)] h (fun _=>Bh) fun r1 h=>ak h (fun h=>ae<|by cases h;exact Wp.ret aj) fun h=>aC<|Wp.seq<|Wp.le (rv 1 (aB p0) kr kr)<|aL (jS []) (bR [(1,.frz),(7,.frz),(8,.frz),(9,.frz),(10,.frz),(11,.frz),(12,.frz),(13,.frz),(14,.frz),(15,.frz),(16,.frz),(17,.frz),(18,.frz),(19,.frz),(20,.own 20)]) kr kr<|ag false 6 13 [.fadr (aB p0),.i p0.fR.cL] h (fun _=>n7) fun r2 h=>bc 5 kr ?_
 obtain ⟨_,e_3,h⟩:=bind_some h
 exact eT (e:=5) (ax:=.s r2) (alo:=none) (ahi:=(some (.i p0.fR.aY))) (aw .u8) r2 1 0 p0.fR.aY rfl kr kr kr kr kr kr kr kr kr kr kr (bj e_3)<|ag false 0 20 [.t (.sl 1 (((r2.take (Int.toNat p0.fR.aY)).drop (Int.toNat 0)).map (aw .u8)))] h (fun _=>gJ) fun r4 h=>aa<|by cases h;exact Wp.ret aj
theorem Fl {u p0 p1 r} (h:BV u p0 p1=some r):al Tryz.prog 179 [.one (.s p0),.one (.s p1)] (V.b r) []:=by
 unfold BV at h
 refine b8 Tryz.f179 false ?_
 exact ae<|aE<|bc 1 kr<|xZ (y:=.s p0) (e:=5) p0 1 rfl kr kr kr kr kr kr kr<|bc 1 kr<|xZ (y:=.s p1) (e:=5) p1 1 rfl kr kr kr kr kr kr kr<|aa<|by cases h;exact Wp.ret aj
theorem wV {u p0 p1 r} (h:oI u p0 p1=some r):al Tryz.prog 123 [.one (.s p0),.one (.s p1)] (V.b r) []:=by
 unfold oI at h
 refine b8 Tryz.f123 false ?_
 exact ae<|aK false 2 7 [.s p0,.s p1] h (fun _=>Fl) fun r1 h=>by cases h;exact Wp.ret aj
theorem Cu {u p0 p1 p2 r} (h:uA u p0 p1 p2=some r):al Tryz.prog 73 [cO (aB p0),V.i p1,.one (.s p2)] (V.b r) []:=by
 unfold uA at h
 refine b8 Tryz.f73 false ?_
 exact ae<|aK false 1 11 [.agg ((aB p0).map .t)] h (fun _=>zK) fun r1 h=>aE<|ah 4 17 h (fun h=>eY 2 20 [.own 721920,.s p2] h (fun _=>wV) fun r2 h=>aa<|by cases h;exact Wp.ret aj) fun h=>aa<|by cases h;exact Wp.ret aj
theorem R9 {u p0 r} (h:DK u p0=some r):al Tryz.prog 173 [cO (aB p0)] (V.i r) []:=by
 unfold DK at h
 refine b8 Tryz.f173 false ?_
 exact ae<|ae<|by cases h;exact Wp.ret aj
theorem Gr {u p0 q0 r} (h:sf u p0 q0=some r):al Tryz.prog 176 [cO (aU p0),.fptr [.int .i64 q0]] (V.b r) []:=by
 unfold sf at h
 refine b8 Tryz.f176 false ?_
 exact ae<|ae<|by cases h;exact Wp.ret aj
theorem jV {u p0 p1_0 r} (h:ct u p0 p1_0=some r):al Tryz.prog 172 [.one (.t (.sl 6 (p0.map aU))),.clo 176 [.fptr [.int .i64 p1_0]]] (V.i r) []:=by
 unfold ct at h
 refine b8 Tryz.f172 false ?_
 refine ae<|io (cZ u=some r) ⟨[(4,.i 0)],[],[]⟩ (fun h=>ae<|by cases h;exact Wp.ret aj)<|aE<|ar 1 155 aU p0<|aa<|Wp.block<|dZ (fun bu p0 p1_0 x2=>bz u bu p0 p1_0 x2=some r) (fun p0 p1_0 x2=>⟨[(0,.t (.sl 6 (p0.map aU))),(1,.clo 176 [.fadr [.int .i64 p1_0]]),(4,.i 0),(7,.i ((p0.length:Int))),(8,.i x2)],[],[]⟩) (fun bu p0 p1_0 x2 h=>?_) h (lo []) (fun _ _ _  h=>nomatch h)
 rw [bz] at h
 exact ae<|Wp.seq<|ak h (fun h=>aC<|Wp.seq<|Wp.block<|ae<|aE<|aR 3 155 6 aU h fun y4 h _=>ag false 1 16 [.agg ((aU y4).map .t),.fadr [.int .i64 p1_0]] h (fun _=>Gr) fun r5 h=>aa<|ak h (fun h=>ae<|by cases h;exact Wp.ret aj) fun h=>Wp.skip<|bY<|aN<|aV [] []<|aa<|⟨_,_,_,h,lo []⟩) fun h=>Wp.exit<|aZ<|aZ<|de<|aN<|⟨h,lo []⟩
theorem ji {u p0 p1_0 r} (h:bT u p0 p1_0=some r):al Tryz.prog 117 [.one (.t (.sl 6 (p0.map aU))),.clo 176 [.fptr [.int .i64 p1_0]]] (V.b r) []:=by
 unfold bT at h
 refine b8 Tryz.f117 false ?_
 exact ae<|aK false 2 7 [.t (.sl 6 (p0.map aU)),.clo 176 [.fadr [.int .i64 p1_0]]] h (fun _=>jV) fun r1 h=>by cases h;exact Wp.ret aj
theorem NF {u p0 r} (h:we u p0=some r):al Tryz.prog 293 [cO (aU p0)] (V.w [0,0,5,0,0,0] (aU r)) []:=by
 unfold we at h
 refine b8 Tryz.f293 true ?_
 exact ae<|aK false 2 5 [.s p0.fB] h (fun _=>gJ) fun r1 h=>ae<|by cases h;exact Wp.ret aj
theorem Lx {u p0 r} (h:tl u p0=some r):al Tryz.prog 258 [cO (aB p0)] (V.w [5,5,0,0,0,155] (aB r)) []:=by
 unfold tl at h
 refine b8 Tryz.f258 true ?_
 refine ae<|Wp.seq<|aL (jS []) (bR [(1,.obj 1),(3,.obj 3),(6,.obj 1),(7,.frz),(8,.own 8),(9,.obj 1),(10,.frz),(11,.own 11),(12,.obj 1),(13,.frz)]) kr kr<|ag false 2 8 [.s p0.fA] h (fun _=>gJ) fun r1 h=>ag false 2 11 [.s p0.fB] h (fun _=>gJ) fun r2 h=>aa<|m2 (fun r1 r2 p0 x11=>xF u r1 r2 p0 x11=some r) (fun r1 r2 p0 x11=>⟨[(2,.obj 2 0),(3,.obj 3 0)],[(2,[.nil,.nil,.i 0,.i 0,.i 0,.nil]),(3,[.own 197120,.own 197121,.i p0.fR.aP,.i p0.fR.cL,.i p0.fR.aY,.own 197125])],[(197120,.live 5 1 (r1.map (aw .u8))),(197121,.live 5 1 (r2.map (aw .u8))),(197125,.live 155 6 (x11.map aU))]⟩) (fun r1 r2 p0 x11 h=>ae<|by cases h;exact Wp.ret aj)<|aE<|ar 2 155 aU p0.fP<|aa<|Wp.block<|Jl (fun jC p0 x5 r1 r2 x6=>lS u jC p0 x5 r1 r2 x6=some r) (fun p0 x5 r1 r2 x6=>⟨[(2,.obj 2 0),(3,.obj 3 0),(16,.t (.sl 6 (p0.fP.map aU))),(17,.i ((p0.fP.length:Int))),(18,.i x5)],[(2,[.nil,.nil,.i 0,.i 0,.i 0,.nil]),(3,[.own 197120,.own 197121,.i p0.fR.aP,.i p0.fR.cL,.i p0.fR.aY,.own 197125])],[(197120,.live 5 1 (r1.map (aw .u8))),(197121,.live 5 1 (r2.map (aw .u8))),(197125,.live 155 6 (x6.map aU))]⟩) (fun jC p0 x5 r1 r2 x6 h=>?_) h (Le.trans (jw 3 5 197125 155 6 [.own 524288,.own 720896,.i p0.fR.aP,.i p0.fR.cL,.i p0.fR.aY,.nil] kr kr kr) (lo [(197120,524288),(197121,720896)])) (fun _ _ _ _ _  h=>nomatch h)
 rw [lS] at h
 exact ae<|Wp.seq<|ak h (fun h=>aC<|Wp.seq<|Wp.block<|aE<|aR 0 155 6 aU h fun y9 h _=>aa<|aL (jS []) (bR [(3,.obj 3),(5,.obj 5),(22,.obj 3),(23,.own 3),(24,.frz),(25,.own 25),(26,.own 26),(27,.own 27),(28,.obj 3)]) kr kr<|ag false 3 25 [.agg ((aU y9).map .t)] h (fun _=>NF) fun r10 h=>cg (ys:=[r10]) 1 27 155 6 197125 aU h fun h=>ab.all kr<|bY<|aN<|aV [] []<|aa<|⟨_,_,_,_,_,h,lo [(197125,1769472)]⟩) fun h=>Wp.exit<|aZ<|aZ<|de<|aN<|⟨_,_,_,_,h,lo []⟩
theorem Qi {u p0 r} (h:yI u p0=some r):al Tryz.prog 219 [V.i p0] (V.b r) []:=by
 unfold yI at h
 refine b8 Tryz.f219 false ?_
 exact ae<|ae<|by cases h;exact Wp.ret aj
theorem jg {u p0 p1 r} (h:ud u p0 p1=some r):uC Tryz.prog 116 [.ptr (cw [5,5,0,0,0,155] (aB p0)),V.i p1] r.1 [cw [5,5,0,0,0,155] (aB r.2)]:=by
 unfold ud at h
 refine M6 (fn:=Tryz.f116) [.obj 900 0,.i p1] kr rfl kr kr kr kr kr rfl<|ae<|Wp.seq<|ae<|ak h (fun h=>?_) (fun h=>?_)
 ·refine ae<|Wp.ret<|Zr ?_
  obtain rfl:=Option.some.inj h
  exact Zs [[.ow 5 1 (p0.fA.map (aw .u8)),.ow 5 1 (p0.fB.map (aw .u8)),.i p0.fR.aP,.i p0.fR.cL,.i p0.fR.aY,.ow 155 6 (p0.fP.map aU)]] kr kr (.cons ((.cons (.refl _) (.cons (.refl _) (.cons (.refl _) (.cons (.refl _) (.cons (.refl _) (.cons (.refl _) .nil))))))) .nil)
 refine aC<|ae<|Wp.ret ?_
 obtain rfl:=Option.some.inj h
 exact Zs [[.ow 5 1 (p0.fA.map (aw .u8)),.ow 5 1 (p0.fB.map (aw .u8)),.i p0.fR.aP,.i p0.fR.cL,.i p0.fR.aY,.ow 155 6 (p0.fP.map aU)]] kr kr (.cons ((.cons (.refl _) (.cons (.refl _) (.cons (.refl _) (.cons (.refl _) (.cons (.refl _) (.cons (.refl _) .nil))))))) .nil)
theorem wW {u p0 p1 r} (h:jt u p0 p1=some r):al Tryz.prog 259 [.ptr (cw [5,5,0,0,0,155] (aB p0)),cO (aU p1)] (.tup []) [cw [5,5,0,0,0,155] (aB r)]:=by
 unfold jt at h
 refine b8 Tryz.f259 false ?_
 refine ae<|Wp.seq<|ae<|ak h (fun h=>ae<|by cases h;exact Wp.ret aj) fun h=>aC<|aE<|bc 3 kr ?_
 obtain ⟨r1,e_r1,h⟩:=bind_some h
 rcases tf (Nat.beq r1.1 0) with hc_r1 | hc_r1
 ·have h:=Tx h hc_r1
  refine Mz true 16 116 [] [.obj 900 0,.i p1.d1] [.ptr [.ow 5 1 (p0.fA.map (aw .u8)),.ow 5 1 (p0.fB.map (aw .u8)),.i p0.fR.aP,.i p0.fR.cL,.i p0.fR.aY,.ow 155 6 (p0.fP.map aU)],.one (.i p1.d1)] 900 0 ([cw [5,5,0,0,0,155] (aB r1.2)]) rfl rfl kr kr kr kr kr (Td hc_r1 (jg e_r1)) kr kr<|aa<|kh (fun p1 x9 r1=>mV u p1 x9 r1=some r) (fun p1 x9 r1=>⟨[(3,.obj 3 0),(4,.obj 900 0)],[(3,((aU p1).map .t)),(900,[.own 58982912,.own 58982913,.i r1.2.fR.aP,.i r1.2.fR.cL,.i r1.2.fR.aY,.own 58982917])],[(58982912,.live 5 1 (x9.map (aw .u8))),(58982913,.live 5 1 (r1.2.fB.map (aw .u8))),(58982917,.live 155 6 (r1.2.fP.map aU))]⟩) (fun p1 x9 r1 h=>?_) ?_
  ·refine aL (jS []) (bR [(3,.obj 3),(4,.obj 900),(35,.obj 900),(36,.obj 900),(37,.own 900),(38,.obj 3),(39,.frz),(40,.win 900),(41,.obj 3),(42,.frz)]) kr kr<|bc 5 kr ?_
   obtain ⟨_,e_10,h⟩:=bind_some h
   exact Lf (e:=5) (e':=5) (alo:=(some (.i p1.Cl))) (aw .u8) x9 58982912 1 p1.Cl rfl kr kr kr kr kr kr kr kr kr (bj e_10)<|bc 2 kr<|PE (y:=.s p1.fB) (e:=5) (e':=5) (aw .u8) x9 p1.fB 58982912 (Int.toNat p1.Cl) 1 rfl rfl rfl kr kr kr kr kr (.inl rfl) kr kr kr (Yf (bj e_10))<|ab.all kr<|by cases h;exact Yh
  refine Wp.block<|dZ (fun fi p1 x7 r1=>gD u fi p1 x7 r1=some r) (fun p1 x7 r1=>⟨[(3,.obj 3 0),(4,.obj 900 0)],[(3,((aU p1).map .t)),(900,[.own 58982912,.own 58982913,.i r1.2.fR.aP,.i r1.2.fR.cL,.i r1.2.fR.aY,.own 58982917])],[(58982912,.live 5 1 (x7.map (aw .u8))),(58982913,.live 5 1 (r1.2.fB.map (aw .u8))),(58982917,.live 155 6 (r1.2.fP.map aU))]⟩) (fun fi p1 x7 r1 h=>?_) h (lo [(58982912,1107200),(58982913,1107201),(58982917,1107205)]) (fun _ _ _  h=>nomatch h)
  rw [gD] at h
  exact Wp.seq<|Wp.seq<|aL (jS []) (bR [(3,.obj 3),(4,.obj 900),(17,.obj 900),(18,.obj 900),(19,.own 900),(20,.frz),(21,.obj 3),(22,.frz),(23,.obj 3),(24,.frz),(25,.frz),(26,.frz)]) kr kr<|ar 3 5 (aw .u8) x7<|ar 4 5 (aw .u8) p1.fB<|aa<|ak h (fun h=>aC<|Wp.block<|aV [] []<|cg 5 33 5 1 58982912 (aw .u8) h fun h=>ab.all kr<|bY<|aN<|⟨_,_,_,h,lo [(58982912,2162688)]⟩) fun h=>Wp.exit<|aZ<|aZ<|de<|aN<|⟨_,_,_,h,lo []⟩
 have h:=Ty h hc_r1
 rcases tf (Nat.beq r1.1 1) with hc_r1 | hc_r1
 ·have h:=Tx h hc_r1
  refine Mz true 16 116 [] [.obj 900 0,.i p1.d1] [.ptr [.ow 5 1 (p0.fA.map (aw .u8)),.ow 5 1 (p0.fB.map (aw .u8)),.i p0.fR.aP,.i p0.fR.cL,.i p0.fR.aY,.ow 155 6 (p0.fP.map aU)],.one (.i p1.d1)] 900 1 ([cw [5,5,0,0,0,155] (aB r1.2)]) rfl rfl kr kr kr kr kr (Td hc_r1 (jg e_r1)) kr kr<|aa<|kh (fun p1 r1 x5=>mU u p1 r1 x5=some r) (fun p1 r1 x5=>⟨[(3,.obj 3 0),(4,.obj 900 1)],[(3,((aU p1).map .t)),(900,[.own 58982912,.own 58982913,.i r1.2.fR.aP,.i r1.2.fR.cL,.i r1.2.fR.aY,.own 58982917])],[(58982912,.live 5 1 (r1.2.fA.map (aw .u8))),(58982913,.live 5 1 (x5.map (aw .u8))),(58982917,.live 155 6 (r1.2.fP.map aU))]⟩) (fun p1 r1 x5 h=>?_) ?_
  ·refine aL (jS []) (bR [(3,.obj 3),(4,.obj 900),(35,.obj 900),(36,.obj 900),(37,.own 900),(38,.obj 3),(39,.frz),(40,.win 900),(41,.obj 3),(42,.frz)]) kr kr<|bc 5 kr ?_
   obtain ⟨_,e_6,h⟩:=bind_some h
   exact Lf (e:=5) (e':=5) (alo:=(some (.i p1.Cl))) (aw .u8) x5 58982913 1 p1.Cl rfl kr kr kr kr kr kr kr kr kr (bj e_6)<|bc 2 kr<|PE (y:=.s p1.fB) (e:=5) (e':=5) (aw .u8) x5 p1.fB 58982913 (Int.toNat p1.Cl) 1 rfl rfl rfl kr kr kr kr kr (.inl rfl) kr kr kr (Yf (bj e_6))<|ab.all kr<|by cases h;exact Yh
  refine Wp.block<|dZ (fun fh p1 r1 x3=>gC u fh p1 r1 x3=some r) (fun p1 r1 x3=>⟨[(3,.obj 3 0),(4,.obj 900 1)],[(3,((aU p1).map .t)),(900,[.own 58982912,.own 58982913,.i r1.2.fR.aP,.i r1.2.fR.cL,.i r1.2.fR.aY,.own 58982917])],[(58982912,.live 5 1 (r1.2.fA.map (aw .u8))),(58982913,.live 5 1 (x3.map (aw .u8))),(58982917,.live 155 6 (r1.2.fP.map aU))]⟩) (fun fh p1 r1 x3 h=>?_) h (lo [(58982912,1107200),(58982913,1107201),(58982917,1107205)]) (fun _ _ _  h=>nomatch h)
  rw [gC] at h
  exact Wp.seq<|Wp.seq<|aL (jS []) (bR [(3,.obj 3),(4,.obj 900),(17,.obj 900),(18,.obj 900),(19,.own 900),(20,.frz),(21,.obj 3),(22,.frz),(23,.obj 3),(24,.frz),(25,.frz),(26,.frz)]) kr kr<|ar 3 5 (aw .u8) x3<|ar 4 5 (aw .u8) p1.fB<|aa<|ak h (fun h=>aC<|Wp.block<|aV [] []<|cg 5 33 5 1 58982913 (aw .u8) h fun h=>ab.all kr<|bY<|aN<|⟨_,_,_,h,lo [(58982913,2162688)]⟩) fun h=>Wp.exit<|aZ<|aZ<|de<|aN<|⟨_,_,_,h,lo []⟩
 have h:=Ty h hc_r1
 cases h
theorem uF {u p0 r} (h:fj u p0=some r):al Tryz.prog 218 [cO (aB p0),.clo 219 []] (V.w [5,5,0,0,0,155] (aB r)) []:=by
 unfold fj at h
 refine b8 Tryz.f218 true ?_
 refine ae<|aK false 1 9 [.agg ((aB p0).map .t)] h (fun _=>Lx) fun r1 h=>Wp.seq<|aK false 1 11 [.agg ((aB p0).map .t)] h (fun _=>Bh) fun r2 h=>ak h (fun h=>ae<|by cases h;exact Wp.ret aj) fun h=>aC<|Jk (fun x33 x34 x35 x36 x37 x38=>g9 u x33 x34 x35 x36 x37 x38=some r) (fun x33 x34 x35 x36 x37 x38=>⟨[(4,.obj 4 0),(5,.obj 5 0)],[(4,[.nil,.nil,.i 0,.i 0,.i 0,.nil]),(5,[.own 328192,.own 328193,.i x35,.i x36,.i x37,.own 328197])],[(328192,.live 5 1 (x33.map (aw .u8))),(328193,.live 5 1 (x34.map (aw .u8))),(328197,.live 155 6 (x38.map aU))]⟩) (fun x33 x34 x35 x36 x37 x38 h=>ae<|ae<|by cases h;exact Wp.ret aj)<|aE<|ar 2 155 aU p0.fP<|aa<|Wp.block<|PN (fun b9 p0 x10 x11 x12 x13 x14 x15 x16=>bV u b9 p0 x10 x11 x12 x13 x14 x15 x16=some r) (fun p0 x10 x11 x12 x13 x14 x15 x16=>⟨[(1,.clo 219 []),(4,.obj 4 0),(5,.obj 5 0),(15,.t (.sl 6 (p0.fP.map aU))),(16,.i ((p0.fP.length:Int))),(17,.i x10)],[(4,[.nil,.nil,.i 0,.i 0,.i 0,.nil]),(5,[.own 328192,.own 328193,.i x13,.i x14,.i x15,.own 328197])],[(328192,.live 5 1 (x11.map (aw .u8))),(328193,.live 5 1 (x12.map (aw .u8))),(328197,.live 155 6 (x16.map aU))]⟩) (fun b9 p0 x10 x11 x12 x13 x14 x15 x16 h=>?_) h (lo [(328192,589824),(328193,589825),(328197,589829)]) (fun _ _ _ _ _ _ _ _  h=>nomatch h)
 rw [bV] at h
 exact ae<|Wp.seq<|ak h (fun h=>aC<|PM (fun p0 x10 x27 x28 x29 x30 x31 x32=>cW u (fun z0 z1 z2 z3 z4 z5 z6 z7=>bV u b9 z0 z1 z2 z3 z4 z5 z6 z7) p0 x10 x27 x28 x29 x30 x31 x32=some r) (fun p0 x10 x27 x28 x29 x30 x31 x32=>⟨[(1,.clo 219 []),(4,.obj 4 0),(5,.obj 5 0),(15,.t (.sl 6 (p0.fP.map aU))),(16,.i ((p0.fP.length:Int))),(17,.i x10)],[(4,[.nil,.nil,.i 0,.i 0,.i 0,.nil]),(5,[.own 328192,.own 328193,.i x29,.i x30,.i x31,.own 328197])],[(328192,.live 5 1 (x27.map (aw .u8))),(328193,.live 5 1 (x28.map (aw .u8))),(328197,.live 155 6 (x32.map aU))]⟩) (fun p0 x10 x27 x28 x29 x30 x31 x32 h=>aV [] []<|aa<|⟨_,_,_,_,_,_,_,_,h,lo []⟩)<|Wp.block<|aE<|aR 1 155 6 aU h fun y24 h _=>aa<|aK false 2 24 [.i x10] h (fun _=>Qi) fun r25 h=>ak h (fun h=>aV [] []<|ag true 1 26 [.obj 5 0,.agg ((aU y24).map .t)] h (fun _=>wW) fun r26 h=>ab.all kr<|bY<|aN<|⟨_,_,_,_,_,_,_,_,h,lo [(328192,1705280),(328193,1705281),(328197,1705285)]⟩) fun h=>Wp.skip<|bY<|aN<|⟨_,_,_,_,_,_,_,_,h,lo []⟩) fun h=>Wp.exit<|aZ<|aZ<|de<|aN<|⟨_,_,_,_,_,_,h,lo []⟩
theorem TL {u p0 r} (h:C6 u p0=some r):al Tryz.prog 177 [cO (aB p0)] (V.w [5,5,0,0,0,155] (aB r)) []:=by
 unfold C6 at h
 refine b8 Tryz.f177 true ?_
 exact ae<|aK false 1 4 [.agg ((aB p0).map .t),.clo 219 []] h (fun _=>uF) fun r1 h=>by cases h;exact Wp.ret aj
theorem HB {u p0 p1 r} (h:pQ u p0 p1=some r):al Tryz.prog 175 [.one (.s p0),.one (.s p1)] (V.b r) []:=by
 unfold pQ at h
 refine b8 Tryz.f175 false ?_
 refine ae<|aE<|ar 1 5 (aw .u8) p0<|ar 1 5 (aw .u8) p1<|ah 2 10 h (fun h=>?_) (fun h=>?_)
 ·refine ar 2 5 (aw .u8) p1 ?_
  obtain ⟨_,e_1,h⟩:=bind_some h
  exact eT (e:=5) (ax:=.s p0) (alo:=none) (ahi:=(some (.i ((p1.length:Int))))) (aw .u8) p0 1 0 ((p1.length:Int)) rfl kr kr kr kr kr kr kr kr kr kr kr (bj e_1)<|ag false 1 16 [.t (.sl 1 (((p0.take (Int.toNat ((p1.length:Int)))).drop (Int.toNat 0)).map (aw .u8))),.s p1] h (fun _=>Fl) fun r2 h=>aa<|by cases h;exact Wp.ret aj
 exact aa<|by cases h;exact Wp.ret aj
theorem sQ {u p0 q0 q1 r} (h:ju u p0 q0 q1=some r):al Tryz.prog 174 [cO (aB p0),.fptr [.int .i64 q0],.fptr [.int .i64 q1.aT,.sl 1 (q1.bg.map (aw .u8))]] (V.b r) []:=by
 unfold ju at h
 refine b8 Tryz.f174 false ?_
 exact ae<|Wp.seq<|Wp.le (rv 3 (aB p0) kr kr)<|aL (jS []) (bR [(1,.frz),(2,.frz),(3,.frz),(5,.frz),(6,.frz),(7,.frz),(8,.frz),(9,.frz),(10,.frz),(11,.frz)]) kr kr<|ag false 1 6 [.fadr (aB p0),.i q0] h (fun _=>n7) fun r1 h=>ag false 4 11 [.s r1,.s q1.bg] h (fun _=>HB) fun r2 h=>aa<|by cases h;exact Wp.ret aj
theorem Jx {u p0 p1 p2 p3 r} (h:re u p0 p1 p2 p3=some r):al Tryz.prog 121 [cO (aB p0),cO (ai p1),cO (cJ p2),V.i p3] (V.b r) []:=by
 unfold re at h
 refine b8 Tryz.f121 false ?_
 exact ae<|aK false 1 13 [.agg ((aB p0).map .t)] h (fun _=>R9) fun r1 h=>ae<|Jk (fun p3 p0 r1 x2 p1 p2=>nL u p3 p0 r1 x2 p1 p2=some r) (fun p3 p0 r1 x2 p1 p2=>⟨[(3,.i p3),(4,.obj 4 0),(5,.obj 5 0),(6,.obj 6 0),(8,.b false),(9,.obj 9 0),(10,.obj 10 0)],[(4,((aB p0).map .t)),(5,((ai p1).map .t)),(6,[.i p2.aT,.s p2.bg]),(9,[.i r1]),(10,[.i x2])],[]⟩) (fun p3 p0 r1 x2 p1 p2 h=>Wp.seq<|Wp.le (Le.trans (rv 10 [.int .i64 x2] kr kr) (rv 6 [.int .i64 p2.aT,.sl 1 (p2.bg.map (aw .u8))] kr kr))<|aV [] []<|aa<|Wp.seq<|ae<|Wp.block<|ae<|ak h (fun h=>Wp.seq<|Wp.le (rv 9 [.int .i64 r1] kr kr)<|aV [] []<|ag false 3 23 [.t (.sl 6 (p0.fP.map aU)),.clo 176 [.fadr [.int .i64 r1]]] h (fun _=>ji) fun r3 h=>ah 2 25 h (fun h=>ag false 2 28 [.agg ((aB p0).map .t)] h (fun _=>TL) fun r4 h=>eY 0 29 [.agg [.own 1835008,.own 1835009,.i r4.fR.aP,.i r4.fR.cL,.i r4.fR.aY,.own 1835013],.fadr [.int .i64 x2],.fadr [.int .i64 p2.aT,.sl 1 (p2.bg.map (aw .u8))]] h (fun _=>sQ) fun r5 h=>aa<|by cases h;exact Wp.ret aj) fun h=>aa<|by cases h;exact Wp.ret aj) fun h=>ae<|ak h (fun h=>aE<|ar 2 155 aU p0.fP<|ah 2 37 h (fun h=>ag false 2 40 [.agg ((aB p0).map .t),.fadr [.int .i64 x2],.fadr [.int .i64 p2.aT,.sl 1 (p2.bg.map (aw .u8))]] h (fun _=>sQ) fun r6 h=>aa<|by cases h;exact Wp.ret aj) fun h=>aa<|by cases h;exact Wp.ret aj) fun h=>ae<|ak h (fun h=>Wp.seq<|aL (jS []) (bR [(4,.obj 4),(5,.obj 5),(9,.obj 9),(44,.obj 4),(45,.frz),(46,.frz),(47,.frz),(48,.frz),(49,.obj 4),(50,.frz),(51,.frz),(52,.frz),(53,.frz),(55,.frz),(56,.frz),(57,.obj 4),(58,.frz),(59,.frz),(60,.frz),(61,.frz),(62,.obj 5),(63,.frz),(64,.frz),(65,.obj 5),(66,.frz),(67,.frz),(69,.frz),(70,.frz),(72,.frz),(74,.frz)]) kr kr<|ar 2 155 aU p0.fP<|ah 2 48 h (fun h=>aR 2 155 6 aU h fun y7 h _=>ah 5 56 h (fun h=>aR 2 155 6 aU h fun y8 h _=>ah 11 70 h (fun h=>ag false 2 73 [.agg ((aB p0).map .t),.fadr [.int .i64 x2],.fadr [.int .i64 p2.aT,.sl 1 (p2.bg.map (aw .u8))]] h (fun _=>sQ) fun r9 h=>aa<|by cases h;exact Wp.ret aj) fun h=>aa<|by cases h;exact Wp.ret aj) fun h=>aa<|by cases h;exact Wp.ret aj) fun h=>aa<|by cases h;exact Wp.ret aj) fun h=>Wp.skip<|bY<|aN<|ae<|by cases h;exact Wp.ret aj)<|ae<|ak h (fun h=>aV [] []<|aa<|⟨_,_,_,_,_,_,h,lo []⟩) fun h=>aC<|⟨_,_,_,_,_,_,h,lo []⟩
theorem Dr {u p0 p1 r} (h:ke u p0 p1=some r):al Tryz.prog 70 [cO (bw p0),V.i p1] (V.b r) []:=by
 unfold ke at h
 refine b8 Tryz.f70 false ?_
 exact ae<|Wp.seq<|aL (jS []) (bR [(1,.frz),(2,.obj 2),(5,.obj 5),(6,.obj 6),(11,.obj 2),(12,.frz),(13,.frz),(14,.frz),(15,.frz),(16,.obj 2),(17,.frz),(18,.frz),(19,.frz),(20,.frz),(21,.obj 2),(22,.frz),(23,.frz),(24,.frz),(25,.frz),(26,.frz)]) kr kr<|aR 3 111 12 ay h fun y1 h _=>aR 4 116 6 aB h fun y2 h _=>aR 4 121 1 bd h fun y3 h _=>aa<|aK false 2 29 [.agg ((aB y2).map .t),.i 0,.s y3.fB] h (fun _=>Cu) fun r4 h=>aK false 3 33 [.agg ((aB y2).map .t),.i 1,.s p0.jj] h (fun _=>Cu) fun r5 h=>aE<|ar 2 155 aU y2.fP<|aa<|Wp.seq<|Wp.block<|wL (fun r4 r5 y2 x6 y1=>kz u r4 r5 y2 x6 y1=some r) (fun r4 r5 y2 x6 y1=>⟨[(4,.b false),(5,.obj 5 0),(6,.obj 6 0),(8,.b r4),(9,.b r5),(10,.b (((y2.fP.length:Int)) == 0)),(38,.b x6)],[(5,((ay y1).map .t)),(6,((aB y2).map .t))],[]⟩) (fun r4 r5 y2 x6 y1 h=>ak h (fun h=>aE<|ah 2 48 h (fun h=>ah 2 50 h (fun h=>aa<|by cases h;exact Wp.ret aj) fun h=>aa<|by cases h;exact Wp.ret aj) fun h=>aa<|by cases h;exact Wp.ret aj) fun h=>ae<|ak h (fun h=>aE<|ah 2 59 h (fun h=>aa<|by cases h;exact Wp.ret aj) fun h=>aa<|by cases h;exact Wp.ret aj) fun h=>ae<|ak h (fun h=>aE<|ah 2 67 h (fun h=>aa<|by cases h;exact Wp.ret aj) fun h=>aa<|by cases h;exact Wp.ret aj) fun h=>Wp.skip<|bY<|aN<|aE<|ah 2 71 h (fun h=>ag false 7 79 [.agg ((aB y2).map .t),.agg ((ai y1.av).map .t),.agg [.i y1.a7.aT,.s y1.a7.bg],.i y1.aJ] h (fun _=>Jx) fun r7 h=>aa<|by cases h;exact Wp.ret aj) fun h=>aa<|by cases h;exact Wp.ret aj)<|aV [] []<|ah 4 42 h (fun h=>aa<|⟨_,_,_,_,_,h,lo []⟩) fun h=>aa<|⟨_,_,_,_,_,h,lo []⟩
theorem Jy {u p0 q0 r} (h:rf u p0 q0=some r):al Tryz.prog 71 [cO (aI p0),.fptr [.int .i64 q0.fC.aS,.int .i64 q0.fC.gB,.int .i64 q0.fC.eo,.int .i64 q0.fC.ik,.sl 1 (q0.fT.cx.map (aw .i64)),.sl 1 (q0.jj.map (aw .u8)),.sl 1 (q0.f6.map bd),.sl 12 (q0.fN.map ay),.sl 6 (q0.fD.map aB),.sl 3 (q0.dX.map aI),.sl 3 (q0.p5.map cp),.int .i64 q0.qO]] (V.b r) []:=by
 unfold rf at h
 refine b8 Tryz.f71 false ?_
 exact ae<|aE<|ag false 4 8 [.agg [.t (.sl 1 (q0.fT.cx.map (aw .i64)))],.i p0.du] h (fun _=>hU) fun r1 h=>ah 2 10 h (fun h=>aa<|by cases h;exact Wp.ret aj) fun h=>ag false 4 15 [.agg [.t (.sl 1 (q0.fT.cx.map (aw .i64)))],.i p0.G2] h (fun _=>hU) fun r2 h=>aa<|by cases h;exact Wp.ret aj
theorem i9 {u p0 p1_0 r} (h:ck u p0 p1_0=some r):al Tryz.prog 124 [.one (.t (.sl 3 (p0.map aI))),.clo 71 [.fptr [.int .i64 p1_0.fC.aS,.int .i64 p1_0.fC.gB,.int .i64 p1_0.fC.eo,.int .i64 p1_0.fC.ik,.sl 1 (p1_0.fT.cx.map (aw .i64)),.sl 1 (p1_0.jj.map (aw .u8)),.sl 1 (p1_0.f6.map bd),.sl 12 (p1_0.fN.map ay),.sl 6 (p1_0.fD.map aB),.sl 3 (p1_0.dX.map aI),.sl 3 (p1_0.p5.map cp),.int .i64 p1_0.qO]]] (V.i r) []:=by
 unfold ck at h
 refine b8 Tryz.f124 false ?_
 refine ae<|io (cN u=some r) ⟨[(4,.i 0)],[],[]⟩ (fun h=>ae<|by cases h;exact Wp.ret aj)<|aE<|ar 1 118 aI p0<|aa<|Wp.block<|dZ (fun bl p0 p1_0 x2=>bn u bl p0 p1_0 x2=some r) (fun p0 p1_0 x2=>⟨[(0,.t (.sl 3 (p0.map aI))),(1,.clo 71 [.fadr (bw p1_0)]),(4,.i 0),(7,.i ((p0.length:Int))),(8,.i x2)],[],[]⟩) (fun bl p0 p1_0 x2 h=>?_) h (lo []) (fun _ _ _  h=>nomatch h)
 rw [bn] at h
 exact ae<|Wp.seq<|ak h (fun h=>aC<|Wp.seq<|Wp.block<|ae<|aE<|aR 3 118 3 aI h fun y4 h _=>ag false 1 16 [.agg ((aI y4).map .t),.fadr (bw p1_0)] h (fun _=>Jy) fun r5 h=>aa<|ak h (fun h=>ae<|by cases h;exact Wp.ret aj) fun h=>Wp.skip<|bY<|aN<|aV [] []<|aa<|⟨_,_,_,h,lo []⟩) fun h=>Wp.exit<|aZ<|aZ<|de<|aN<|⟨h,lo []⟩
theorem im {u p0 p1_0 r} (h:bQ u p0 p1_0=some r):al Tryz.prog 74 [.one (.t (.sl 3 (p0.map aI))),.clo 71 [.fptr [.int .i64 p1_0.fC.aS,.int .i64 p1_0.fC.gB,.int .i64 p1_0.fC.eo,.int .i64 p1_0.fC.ik,.sl 1 (p1_0.fT.cx.map (aw .i64)),.sl 1 (p1_0.jj.map (aw .u8)),.sl 1 (p1_0.f6.map bd),.sl 12 (p1_0.fN.map ay),.sl 6 (p1_0.fD.map aB),.sl 3 (p1_0.dX.map aI),.sl 3 (p1_0.p5.map cp),.int .i64 p1_0.qO]]] (V.b r) []:=by
 unfold bQ at h
 refine b8 Tryz.f74 false ?_
 exact ae<|aK false 2 7 [.t (.sl 3 (p0.map aI)),.clo 71 [.fadr (bw p1_0)]] h (fun _=>i9) fun r1 h=>by cases h;exact Wp.ret aj
theorem NG {u p0 r} (h:wg u p0=some r):al Tryz.prog 31 [cO (bw p0)] (V.b r) []:=by
 unfold wg at h
 refine b8 Tryz.f31 false ?_
 refine ae<|Wp.seq<|pn (fun x5 p0=>gR u x5 p0=some r) (fun x5 p0=>⟨[(1,.obj 1 0),(2,.b false),(54,.b x5)],[(1,((bw p0).map .t))],[]⟩) (fun x5 p0 h=>?_) ?_
 ·refine ak h (fun h=>ae<|by cases h;exact Wp.ret aj) fun h=>aC<|aK false 1 56 [.agg ((bw p0).map .t)] h (fun _=>R7) fun r6 h=>jL (fun p0=>np u p0=some r) (fun p0=>⟨[(1,.obj 1 0),(2,.b false)],[(1,((bw p0).map .t))],[]⟩) (fun p0 h=>Wp.seq<|Wp.le (rv 1 (bw p0) kr kr)<|aV [] []<|aa<|Wp.seq<|aL (jS []) (bR [(1,.frz),(102,.frz),(103,.frz),(104,.frz),(105,.frz),(106,.frz),(107,.frz),(108,.frz),(109,.frz),(110,.frz),(111,.frz),(112,.frz),(113,.frz),(114,.frz),(115,.frz),(116,.frz),(118,.frz),(119,.frz),(120,.frz),(121,.frz),(122,.frz),(123,.frz),(124,.frz),(125,.frz),(127,.frz),(128,.frz),(129,.frz),(130,.frz),(131,.frz),(133,.frz),(134,.frz),(135,.frz),(136,.frz),(138,.frz),(140,.frz),(141,.frz),(142,.frz),(143,.frz),(144,.frz),(146,.frz),(147,.frz),(148,.frz),(149,.frz),(151,.frz)]) kr kr<|aR 2 111 12 ay h fun y18 h _=>ah 3 107 h (fun h=>aR 2 116 6 aB h fun y19 h _=>aR 3 121 1 bd h fun y20 h _=>ag false 2 117 [.agg ((aB y19).map .t),.i 0,.s y20.fB] h (fun _=>Cu) fun r21 h=>ah 2 119 h (fun h=>aR 2 116 6 aB h fun y22 h _=>ar 2 155 aU y22.fP<|ah 3 128 h (fun h=>ar 2 118 aI p0.dX<|ah 3 134 h (fun h=>ag false 3 138 [.t (.sl 3 (p0.dX.map aI)),.clo 71 [.fadr (bw p0)]] h (fun _=>im) fun r23 h=>ah 3 141 h (fun h=>ar 2 127 cp p0.p5<|ah 3 147 h (fun h=>aa<|by cases h;exact Wp.ret aj) fun h=>aa<|by cases h;exact Wp.ret aj) fun h=>aa<|by cases h;exact Wp.ret aj) fun h=>aa<|by cases h;exact Wp.ret aj) fun h=>aa<|by cases h;exact Wp.ret aj) fun h=>aa<|by cases h;exact Wp.ret aj) fun h=>aa<|by cases h;exact Wp.ret aj)<|aE<|ar 2 111 ay p0.fN<|aa<|Wp.block<|dZ (fun dP p0 x8 r6=>d7 u dP p0 x8 r6=some r) (fun p0 x8 r6=>⟨[(1,.obj 1 0),(2,.b false),(3,.obj 3 0),(58,.t (.sl 12 (p0.fN.map ay))),(59,.i ((p0.fN.length:Int))),(60,.i x8)],[(1,((bw p0).map .t)),(3,[.i r6.aP,.i r6.aS,.i r6.aY,.own 197123])],[(197123,.live 176 2 (r6.aD.map aH))]⟩) (fun dP p0 x8 r6 h=>?_) h (lo [(197123,3670019)]) (fun _ _ _  h=>nomatch h)
  rw [d7] at h
  exact ae<|Wp.seq<|ak h (fun h=>aC<|Wp.seq<|Wp.block<|aE<|aR 1 111 12 ay h fun y10 h _=>aa<|Wp.seq<|m2 (fun x8 p0 x15 r6=>fw u (fun z0 z1 z2=>d7 u dP z0 z1 z2) x8 p0 x15 r6=some r) (fun x8 p0 x15 r6=>⟨[(1,.obj 1 0),(2,.b false),(3,.obj 3 0),(4,.i x8),(58,.t (.sl 12 (p0.fN.map ay))),(59,.i ((p0.fN.length:Int))),(60,.i x8),(91,.b x15)],[(1,((bw p0).map .t)),(3,[.i r6.aP,.i r6.aS,.i r6.aY,.own 197123])],[(197123,.live 176 2 (r6.aD.map aH))]⟩) (fun x8 p0 x15 r6 h=>ak h (fun h=>ae<|by cases h;exact Wp.ret aj) fun h=>aC<|m2 (fun p0 x8 x17 r6=>ue u (fun z0 z1 z2=>d7 u dP z0 z1 z2) p0 x8 x17 r6=some r) (fun p0 x8 x17 r6=>⟨[(1,.obj 1 0),(2,.b false),(3,.obj 3 0),(58,.t (.sl 12 (p0.fN.map ay))),(59,.i ((p0.fN.length:Int))),(60,.i x8),(99,.b x17)],[(1,((bw p0).map .t)),(3,[.i r6.aP,.i r6.aS,.i r6.aY,.own 197123])],[(197123,.live 176 2 (r6.aD.map aH))]⟩) (fun p0 x8 x17 r6 h=>ak h (fun h=>ae<|by cases h;exact Wp.ret aj) fun h=>Wp.skip<|bY<|aN<|aV [] []<|aa<|⟨_,_,_,h,lo []⟩)<|aV [] []<|ah 3 94 h (fun h=>ag false 2 97 [.agg ((bw p0).map .t),.i x8] h (fun _=>Dr) fun r16 h=>aa<|⟨_,_,_,_,h,lo []⟩) fun h=>aa<|⟨_,_,_,_,h,lo []⟩)<|aV [] []<|ag false 4 69 [.agg [.t (.sl 1 (p0.fT.cx.map (aw .i64)))],.i x8,.agg ((ay y10).map .t)] h (fun _=>Qh) fun r11 h=>ah 2 71 h (fun h=>aa<|⟨_,_,_,_,h,lo []⟩) fun h=>aR 3 116 6 aB h fun y12 h _=>ag false 1 77 [.agg ((aB y12).map .t)] h (fun _=>Bh) fun r13 h=>ah 3 80 h (fun h=>aa<|⟨_,_,_,_,h,lo []⟩) fun h=>ah 4 84 h (fun h=>eY 3 88 [.agg ((ai y10.av).map .t),.agg [.i r6.aP,.i r6.aS,.i r6.aY,.own 197123]] h (fun _=>zJ) fun r14 h=>aa<|⟨_,_,_,_,h,lo []⟩) fun h=>aa<|⟨_,_,_,_,h,lo []⟩) fun h=>Wp.exit<|aZ<|aZ<|de<|aN<|⟨_,h,lo []⟩
 exact aV [] []<|ag false 2 9 [.agg ((pG p0.fC).map .t)] h (fun _=>Qe) fun r1 h=>ah 2 11 h (fun h=>aa<|⟨_,_,h,lo []⟩) fun h=>ag false 2 14 [.agg [.t (.sl 1 (p0.fT.cx.map (aw .i64)))]] h (fun _=>Fi) fun r2 h=>ah 3 17 h (fun h=>aa<|⟨_,_,h,lo []⟩) fun h=>ar 5 5 (aw .u8) p0.jj<|ag false 0 24 [.i p0.fC.aS,.i ((p0.jj.length:Int))] h (fun _=>wT) fun r3 h=>ah 3 27 h (fun h=>aa<|⟨_,_,h,lo []⟩) fun h=>ag false 4 32 [.agg [.t (.sl 1 (p0.fT.cx.map (aw .i64)))],.t (.sl 1 (p0.f6.map bd))] h (fun _=>Jt) fun r4 h=>ah 3 35 h (fun h=>aa<|⟨_,_,h,lo []⟩) fun h=>ar 2 111 ay p0.fN<|ar 3 3 (aw .i64) p0.fT.cx<|ah 3 45 h (fun h=>aa<|⟨_,_,h,lo []⟩) fun h=>ar 2 116 aB p0.fD<|ar 3 3 (aw .i64) p0.fT.cx<|aa<|⟨_,_,h,lo []⟩
theorem tz {u p0 r} (h:eV u p0=some r):al Tryz.prog 260 [.one (.t (.sl 2 (p0.map aH)))] (.one (.ow 176 2 (r.map aH))) []:=by
 unfold eV at h
 refine GH (fn:=Tryz.f260) (m:=true) kr rfl kr (by decide) kr (fun hn=>?_) ?_
 ·have hp:p0=[]:=by simpa using hn
  subst hp
  have h:some ([]:List bN)=some r:=h
  exact ae<|pm ⟨[(0,.nil),(2,.nil)],[],[]⟩<|Wp.seq<|ae<|pm ⟨[(0,.nil),(2,.nil),(4,.b true)],[],[]⟩<|UO kr<|ae<|pm ⟨[(0,.nil),(2,.nil)],[],[]⟩<|by cases h;exact Wp.ret aj
 exact ae<|pm ⟨[(0,.nn 2 (p0.map aH)),(2,.nil)],[],[]⟩<|Wp.seq<|ae<|pm ⟨[(0,.nn 2 (p0.map aH)),(2,.nil),(4,.b false)],[],[]⟩<|UP kr<|aC<|Wp.le (WN 0 2 (p0.map aH) rfl rfl)<|pm ⟨[(0,.t (.sl 2 (p0.map aH))),(2,.nil),(4,.b false)],[],[]⟩<|aE<|cg 2 7 176 2 327680 aH h fun h=>aa<|pm ⟨[(2,.own 458752)],[],[(458752,.live 176 2 (((([]:List bN))++p0).map aH))]⟩<|by cases h;exact Wp.ret aj
theorem Ez {u p0 r} (h:sg u p0=some r):al Tryz.prog 220 [cO (ai p0)] (V.w [0,0,0,176] (ai r)) []:=by
 unfold sg at h
 refine b8 Tryz.f220 true ?_
 exact ae<|aK false 2 5 [.t (.sl 2 (p0.aD.map aH))] h (fun _=>tz) fun r1 h=>ae<|by cases h;exact Wp.ret aj
theorem Ca {u p0 r} (h:oJ u p0=some r):al Tryz.prog 221 [cO (cJ p0)] (V.w [0,5] (cJ r)) []:=by
 unfold oJ at h
 refine b8 Tryz.f221 true ?_
 exact ae<|Wp.seq<|aL (jS []) (bR [(1,.obj 1),(2,.obj 2),(3,.obj 1),(4,.frz),(5,.obj 1),(6,.frz),(7,.own 7),(8,.own 7)]) kr kr<|ag false 4 7 [.s p0.bg] h (fun _=>gJ) fun r1 h=>aa<|by cases h;exact Wp.ret aj
theorem gK {u p0 r} (h:cF u p0=some r):al Tryz.prog 222 [.one (.t (.sl 5 (p0.map am)))] (.one (.ow 149 5 (r.map am))) []:=by
 unfold cF at h
 refine GH (fn:=Tryz.f222) (m:=true) kr rfl kr (by decide) kr (fun hn=>?_) ?_
 ·have hp:p0=[]:=by simpa using hn
  subst hp
  have h:some ([]:List Kid)=some r:=h
  exact ae<|pm ⟨[(0,.nil),(2,.nil)],[],[]⟩<|Wp.seq<|ae<|pm ⟨[(0,.nil),(2,.nil),(4,.b true)],[],[]⟩<|UO kr<|ae<|pm ⟨[(0,.nil),(2,.nil)],[],[]⟩<|by cases h;exact Wp.ret aj
 exact ae<|pm ⟨[(0,.nn 5 (p0.map am)),(2,.nil)],[],[]⟩<|Wp.seq<|ae<|pm ⟨[(0,.nn 5 (p0.map am)),(2,.nil),(4,.b false)],[],[]⟩<|UP kr<|aC<|Wp.le (WN 0 5 (p0.map am) rfl rfl)<|pm ⟨[(0,.t (.sl 5 (p0.map am))),(2,.nil),(4,.b false)],[],[]⟩<|aE<|cg 2 7 149 5 327680 am h fun h=>aa<|pm ⟨[(2,.own 458752)],[],[(458752,.live 149 5 (((([]:List Kid))++p0).map am))]⟩<|by cases h;exact Wp.ret aj
theorem jy {u p0 r} (h:gH u p0=some r):al Tryz.prog 180 [cO (ay p0)] (V.w [0,0,0,0,0,0,176,0,5,0,149,0] (ay r)) []:=by
 unfold gH at h
 refine b8 Tryz.f180 true ?_
 exact ae<|Wp.seq<|aL (jS []) (bR [(1,.obj 1),(3,.obj 1),(4,.frz),(5,.own 5),(6,.obj 1),(7,.frz),(8,.own 8),(9,.obj 1),(10,.frz),(11,.own 11),(12,.obj 1),(13,.obj 1),(14,.obj 1)]) kr kr<|ag false 2 5 [.agg ((ai p0.av).map .t)] h (fun _=>Ez) fun r1 h=>ag false 2 8 [.agg [.i p0.a7.aT,.s p0.a7.bg]] h (fun _=>Ca) fun r2 h=>ag false 2 11 [.t (.sl 5 (p0.aO.map am))] h (fun _=>gK) fun r3 h=>aa<|ae<|by cases h;exact Wp.ret aj
theorem EA {u p0 p1 p2 r} (h:pC u p0 p1 p2=some r):al Tryz.prog 261 [.one (.s p0),V.i p1,V.i p2] (.tup [V.i r.1,V.i r.2.1,V.b r.2.2]) []:=by
 unfold pC at h
 refine b8 Tryz.f261 false ?_
 refine ae<|ae<|io (uf u=some r) ⟨[(6,.i 0),(7,.i 0),(8,.b false)],[],[]⟩ (fun h=>ae<|by cases h;exact Wp.ret aj)<|ae<|Wp.block<|Jl (fun kI p0 p1 x3 p2 x4=>fx u kI p0 p1 x3 p2 x4=some r) (fun p0 p1 x3 p2 x4=>⟨[(0,.s p0),(1,.i p1),(6,.i 0),(7,.i 0),(8,.b false),(9,.i x3),(12,.i p2),(13,.i x4)],[],[]⟩) (fun kI p0 p1 x3 p2 x4 h=>?_) h (lo []) (fun _ _ _ _ _  h=>nomatch h)
 rw [fx] at h
 refine ae<|Wp.seq<|ak h (fun h=>?_) (fun h=>?_)
 ·refine aC<|Wp.seq<|Wp.block<|ae<|Wp.seq<|aE<|ar 2 5 (aw .u8) p0<|ag false 3 22 [.i p1,.i 0,.i (cy .i64 (cy .i64 ((p0.length:Int)) 1) x4)] h (fun _=>bp) fun r7 h=>aa<|ak h (fun h=>ae<|by cases h;exact Wp.ret aj) fun h=>aC<|aE<|aR 4 5 1 (aw .u8) h fun y8 h _=>aa<|aE<|bc 5 kr ?_
  obtain ⟨_,e_9,h⟩:=bind_some h
  exact iN .shl (.int .i64 (fE .i64 (IntKind.wrap .i64 y8) 127)) (.int .i64 (gS .i64 7 x4)) (.int .i64 (i7 .i64 (fE .i64 (IntKind.wrap .i64 y8) 127) (gS .i64 7 x4))) rfl kr kr kr kr (B8 _ _ _ _ _ (bj e_9))<|aa<|ae<|ak h (fun h=>aE<|ah 8 47 h (fun h=>aa<|by cases h;exact Wp.ret aj) fun h=>aa<|by cases h;exact Wp.ret aj) fun h=>Wp.skip<|bY<|aN<|aV [] []<|aa<|⟨_,_,_,_,_,h,lo []⟩
 exact Wp.exit<|aZ<|aZ<|de<|aN<|⟨h,lo []⟩
theorem wX {u p0 p1 r} (h:nM u p0 p1=some r):al Tryz.prog 223 [.one (.s p0),V.i p1] (.tup [V.i r.1,V.i r.2.1,V.b r.2.2]) []:=by
 unfold nM at h
 refine b8 Tryz.f223 false ?_
 exact ae<|aK false 2 13 [.s p0,.i p1,.i 6] h (fun _=>EA) fun r1 h=>Wp.seq<|pn (fun r1 x2=>rh u r1 x2=some r) (fun r1 x2=>⟨[(4,.i 0),(5,.i 0),(6,.b false),(7,.i r1.1),(8,.i r1.2.1),(22,.b x2)],[],[]⟩) (fun r1 x2 h=>ak h (fun h=>ae<|by cases h;exact Wp.ret aj) fun h=>aC<|ae<|by cases h;exact Wp.ret aj)<|aV [] []<|ah 3 19 h (fun h=>aa<|⟨_,_,h,lo []⟩) fun h=>aa<|⟨_,_,h,lo []⟩
theorem xQ {u p0 p1 p2 r} (h:nW u p0 p1 p2=some r):al Tryz.prog 263 [.one (.s p0),V.i p1,V.i p2] (.tup [.one (.ow 3 1 (r.1.map (aw .i64))),V.i r.2.1,V.b r.2.2]) []:=by
 unfold nW at h
 refine b8 Tryz.f263 true ?_
 refine ae<|ae<|pn (fun x11 x12=>si u x11 x12=some r) (fun x11 x12=>⟨[(1,.i x11),(6,.nil),(7,.i 0),(8,.b false),(9,.own 589825)],[],[(589825,.live 3 1 (x12.map (aw .i64)))]⟩) (fun x11 x12 h=>ae<|by cases h;exact Wp.ret aj)<|ae<|Wp.block<|Jl (fun jD p0 x4 x5 p2 x6=>fJ u jD p0 x4 x5 p2 x6=some r) (fun p0 x4 x5 p2 x6=>⟨[(0,.s p0),(1,.i x4),(6,.nil),(7,.i 0),(8,.b false),(9,.own 589825),(14,.i p2),(15,.i x6)],[],[(589825,.live 3 1 (x5.map (aw .i64)))]⟩) (fun jD p0 x4 x5 p2 x6 h=>?_) h (lo [(589825,851968)]) (fun _ _ _ _ _  h=>nomatch h)
 rw [fJ] at h
 exact ae<|Wp.seq<|ak h (fun h=>aC<|Wp.seq<|Wp.block<|aK false 2 20 [.s p0,.i x4] h (fun _=>wX) fun r10 h=>Wp.seq<|ae<|ak h (fun h=>ae<|by cases h;exact Wp.ret aj) fun h=>aC<|aE<|cg 3 29 3 1 589825 (aw .i64) h fun h=>aa<|aV [] []<|ab.all kr<|bY<|aN<|aV [] []<|aa<|⟨_,_,_,_,_,h,lo [(589825,1900544)]⟩) fun h=>Wp.exit<|aZ<|aZ<|de<|aN<|⟨_,_,h,lo []⟩
theorem Qj {u p0 p1 r} (h:yJ u p0 p1=some r):al Tryz.prog 262 [.one (.s p0),V.i p1] (.tup [V.w [0,0,0,176] (ai r.1),V.i r.2.1,V.b r.2.2]) []:=by
 unfold yJ at h
 refine b8 Tryz.f262 true ?_
 refine ae<|aK false 2 18 [.s p0,.i p1,.i 3] h (fun _=>xQ) fun r1 h=>Wp.seq<|ae<|ak h (fun h=>ae<|by cases h;exact Wp.ret aj) fun h=>aC<|Wp.seq<|aL (jS []) (bR [(7,.own 18),(9,.obj 9),(25,.own 18),(26,.el 18),(27,.frz),(28,.own 18),(29,.el 18),(30,.frz),(31,.own 18),(32,.el 18),(33,.frz),(34,.frz)]) kr kr<|cI 1 3 1 1179648 3 (aw .i64) h fun y2 h e_y2=>iO 0 1 1 1179648 0 3 false (aw .i64) ((cq e_y2).2)<|cI 1 3 1 1179648 3 (aw .i64) h fun y3 h e_y3=>iO 0 1 1 1179648 0 3 false (aw .i64) ((cq e_y3).2)<|cI 1 3 1 1179648 3 (aw .i64) h fun y4 h e_y4=>iO 0 1 1 1179648 0 3 false (aw .i64) ((cq e_y4).2)<|aa<|wL (fun x19 y2 y3 y4 x20=>wh u x19 y2 y3 y4 x20=some r) (fun x19 y2 y3 y4 x20=>⟨[(1,.i x19),(4,.obj 4 0),(5,.i 0),(6,.b false),(9,.obj 9 0)],[(4,[.i 0,.i 0,.i 0,.nil]),(9,[.i y2,.i y3,.i y4,.own 590339])],[(590339,.live 176 2 (x20.map aH))]⟩) (fun x19 y2 y3 y4 x20 h=>Wp.seq<|aE<|eY 1 71 [.agg [.i y2,.i y3,.i y4,.own 590339]] h (fun _=>n6) fun r21 h=>aa<|ak h (fun h=>ae<|by cases h;exact Wp.ret aj) fun h=>aC<|ae<|by cases h;exact Wp.ret aj)<|aK false 4 39 [.i y3,.i y4] h (fun _=>wU) fun r5 h=>Wp.block<|PN (fun ia p0 x9 r5 x10 y2 y3 y4 x11=>fq u ia p0 x9 r5 x10 y2 y3 y4 x11=some r) (fun p0 x9 r5 x10 y2 y3 y4 x11=>⟨[(0,.s p0),(1,.i x9),(4,.obj 4 0),(5,.i 0),(6,.b false),(9,.obj 9 0),(39,.i r5),(40,.i x10)],[(4,[.i 0,.i 0,.i 0,.nil]),(9,[.i y2,.i y3,.i y4,.own 590339])],[(590339,.live 176 2 (x11.map aH))]⟩) (fun ia p0 x9 r5 x10 y2 y3 y4 x11 h=>?_) h (Le.trans (jw 9 3 590339 176 2 [.i y2,.i y3,.i y4,.nil] kr kr kr) (lo [])) (fun _ _ _ _ _ _ _ _  h=>nomatch h)
 rw [fq] at h
 exact ae<|Wp.seq<|ak h (fun h=>aC<|Wp.seq<|Wp.block<|aK false 2 45 [.s p0,.i x9,.i 8] h (fun _=>EA) fun r15 h=>aK false 1 51 [.i r15.1] h (fun _=>Ex) fun r16 h=>Wp.seq<|Yo (fun p0 x9 r15 r16 r5 x10 x17 y2 y3 y4 x11=>oK u (fun z0 z1 z2 z3 z4 z5 z6 z7=>fq u ia z0 z1 z2 z3 z4 z5 z6 z7) p0 x9 r15 r16 r5 x10 x17 y2 y3 y4 x11=some r) (fun p0 x9 r15 r16 r5 x10 x17 y2 y3 y4 x11=>⟨[(0,.s p0),(1,.i x9),(4,.obj 4 0),(5,.i 0),(6,.b false),(9,.obj 9 0),(11,.i r15.2.1),(13,.own 851969),(39,.i r5),(40,.i x10),(59,.b x17)],[(4,[.i 0,.i 0,.i 0,.nil]),(9,[.i y2,.i y3,.i y4,.own 590339])],[(590339,.live 176 2 (x11.map aH)),(851969,.live 5 1 (r16.1.map (aw .u8)))]⟩) (fun p0 x9 r15 r16 r5 x10 x17 y2 y3 y4 x11 h=>ak h (fun h=>ae<|by cases h;exact Wp.ret aj) fun h=>aC<|Wp.seq<|aL (jS []) (bR [(9,.obj 9),(13,.own 13),(61,.obj 9),(62,.own 9),(63,.own 13),(64,.frz),(65,.own 65),(66,.own 66),(67,.obj 9)]) kr kr<|eY 3 64 [.own 851969] h (fun _=>tx) fun r18 h=>cg (ys:=[r18]) 1 66 176 2 590339 aH h fun h=>aa<|aV [] []<|ab.all kr<|bY<|aN<|aV [] []<|aa<|⟨_,_,_,_,_,_,_,_,h,lo [(590339,4325376)]⟩)<|aV [] []<|ah 3 56 h (fun h=>aa<|⟨_,_,_,_,_,_,_,_,_,_,_,h,lo [(851969,3342336)]⟩) fun h=>aa<|⟨_,_,_,_,_,_,_,_,_,_,_,h,lo [(851969,3342336)]⟩) fun h=>Wp.exit<|aZ<|aZ<|de<|aN<|⟨_,_,_,_,_,h,lo []⟩
theorem NH {u p0 p1 p2 r} (h:wi u p0 p1 p2=some r):al Tryz.prog 264 [.one (.s p0),V.i p1,V.i p2] (.tup [.one (.ow 5 1 (r.1.map (aw .u8))),V.i r.2.1,V.b r.2.2]) []:=by
 unfold wi at h
 refine b8 Tryz.f264 true ?_
 exact ae<|aK false 2 16 [.s p0,.i p1] h (fun _=>wX) fun r1 h=>Wp.seq<|kh (fun p0 r1 x2=>ug u p0 r1 x2=some r) (fun p0 r1 x2=>⟨[(0,.s p0),(6,.nil),(7,.i 0),(8,.b false),(9,.i r1.1),(10,.i r1.2.1),(26,.b x2)],[],[]⟩) (fun p0 r1 x2 h=>ak h (fun h=>ae<|by cases h;exact Wp.ret aj) fun h=>aC<|aK false 3 31 [.s p0,.i r1.2.1,.i r1.1] h (fun _=>GN) fun r3 h=>Wp.seq<|ae<|ak h (fun h=>ae<|by cases h;exact Wp.ret aj) fun h=>aC<|ae<|by cases h;exact Wp.ret aj)<|aV [] []<|ah 3 22 h (fun h=>aa<|⟨_,_,_,h,lo []⟩) fun h=>aa<|⟨_,_,_,h,lo []⟩
theorem NI {u p0 p1 p2 r} (h:fK u p0 p1 p2=some r):al Tryz.prog 224 [.one (.s p0),V.i p1,V.i p2] (.tup [V.w [0,0,0,0,0,176,0,0,0,5] (dA r.1),V.b r.2]) []:=by
 unfold fK at h
 refine b8 Tryz.f224 true ?_
 exact ae<|ae<|ae<|Yo (fun x13 p1 x14 x15 x16 x17 x18 x19 x20 x21 x22=>k5 u x13 p1 x14 x15 x16 x17 x18 x19 x20 x21 x22=some r) (fun x13 p1 x14 x15 x16 x17 x18 x19 x20 x21 x22=>⟨[(6,.obj 6 0),(7,.b false),(8,.obj 8 0),(9,.b x13)],[(6,[.i 0,.i 0,.i 0,.i 0,.i 0,.nil,.i 0,.i 0,.i 0,.nil]),(8,[.i p1,.i x14,.i x15,.i x16,.i x17,.own 524805,.i x19,.i x20,.i x21,.own 524809])],[(524805,.live 176 2 (x18.map aH)),(524809,.live 5 1 (x22.map (aw .u8)))]⟩) (fun x13 p1 x14 x15 x16 x17 x18 x19 x20 x21 x22 h=>ae<|by cases h;exact Wp.ret aj)<|ae<|Wp.block<|ae<|ak h (fun h=>aV [] []<|ag false 2 24 [.s p0,.i p2] h (fun _=>Qj) fun r1 h=>ab.all kr<|bY<|aN<|⟨_,_,_,_,_,_,_,_,_,_,_,h,Le.trans (jw 8 9 524809 5 1 [.i p1,.i 0,.i r1.1.aP,.i r1.1.aS,.i r1.1.aY,.own 1572867,.i 0,.i 0,.i 0,.nil] kr kr kr) (lo [(524805,1572867)])⟩) fun h=>ae<|ak h (fun h=>aK false 2 34 [.s p0,.i p2,.i 5] h (fun _=>xQ) fun r2 h=>Wp.seq<|ae<|ak h (fun h=>ae<|by cases h;exact Wp.ret aj) fun h=>aC<|aL (jS []) (bR [(8,.obj 8),(10,.own 34),(41,.own 34),(42,.el 34),(43,.frz),(44,.own 34),(45,.el 34),(46,.frz),(47,.own 34),(48,.el 34),(49,.frz),(50,.frz),(51,.frz),(52,.own 34),(53,.el 34),(54,.frz),(55,.own 34),(56,.el 34),(57,.frz),(58,.frz),(59,.frz),(60,.obj 8),(61,.obj 8),(62,.obj 8)]) kr kr<|cI 1 3 1 2228224 3 (aw .i64) h fun y3 h e_y3=>iO 0 1 1 2228224 0 3 false (aw .i64) ((cq e_y3).2)<|cI 1 3 1 2228224 3 (aw .i64) h fun y4 h e_y4=>iO 0 1 1 2228224 0 3 false (aw .i64) ((cq e_y4).2)<|cI 1 3 1 2228224 3 (aw .i64) h fun y5 h e_y5=>iO 0 1 1 2228224 0 3 false (aw .i64) ((cq e_y5).2)<|cI 3 3 1 2228224 3 (aw .i64) h fun y6 h e_y6=>iO 0 1 1 2228224 0 3 false (aw .i64) ((cq e_y6).2)<|cI 1 3 1 2228224 3 (aw .i64) h fun y7 h e_y7=>iO 0 1 1 2228224 0 3 false (aw .i64) ((cq e_y7).2)<|ab.all kr<|bY<|aN<|⟨_,_,_,_,_,_,_,_,_,_,_,h,Le.trans (jw 8 5 524805 176 2 [.i p1,.i y3,.i 0,.i 0,.i 0,.nil,.i (sZ .i64 y4 (i7 .i64 y5 20)),.i (sZ .i64 y6 (i7 .i64 y7 20)),.i 0,.nil] kr kr kr) (Le.trans (jw 8 9 524809 5 1 [.i p1,.i y3,.i 0,.i 0,.i 0,.own 524805,.i (sZ .i64 y4 (i7 .i64 y5 20)),.i (sZ .i64 y6 (i7 .i64 y7 20)),.i 0,.nil] kr kr kr) (lo []))⟩) fun h=>ae<|ak h (fun h=>aK false 2 68 [.s p0,.i p2,.i 2] h (fun _=>xQ) fun r8 h=>Wp.seq<|ae<|ak h (fun h=>ae<|by cases h;exact Wp.ret aj) fun h=>aC<|Wp.seq<|aL (jS []) (bR [(8,.obj 8),(13,.own 68),(75,.own 68),(76,.el 68),(77,.frz),(78,.own 68),(79,.el 68),(80,.frz),(81,.obj 8),(82,.obj 8)]) kr kr<|cI 1 3 1 4456448 3 (aw .i64) h fun y9 h e_y9=>iO 0 1 1 4456448 0 3 false (aw .i64) ((cq e_y9).2)<|cI 1 3 1 4456448 3 (aw .i64) h fun y10 h e_y10=>iO 0 1 1 4456448 0 3 false (aw .i64) ((cq e_y10).2)<|aa<|aV [] []<|ag false 2 86 [.s p0,.i r8.2.1,.i 6] h (fun _=>NH) fun r11 h=>ab.all kr<|bY<|aN<|⟨_,_,_,_,_,_,_,_,_,_,_,h,Le.trans (jw 8 5 524805 176 2 [.i p1,.i y9,.i 0,.i 0,.i 0,.nil,.i 0,.i 0,.i y10,.own 5636096] kr kr kr) (lo [(524809,5636096)])⟩) fun h=>ae<|ak h (fun h=>aV [] []<|ag false 2 96 [.s p0,.i p2] h (fun _=>wX) fun r12 h=>ab.all kr<|bY<|aN<|⟨_,_,_,_,_,_,_,_,_,_,_,h,Le.trans (jw 8 5 524805 176 2 [.i p1,.i r12.1,.i 0,.i 0,.i 0,.nil,.i 0,.i 0,.i 0,.nil] kr kr kr) (Le.trans (jw 8 9 524809 5 1 [.i p1,.i r12.1,.i 0,.i 0,.i 0,.own 524805,.i 0,.i 0,.i 0,.nil] kr kr kr) (lo []))⟩) fun h=>Wp.skip<|bY<|aN<|⟨_,_,_,_,_,_,_,_,_,_,_,h,Le.trans (jw 8 5 524805 176 2 [.i p1,.i 0,.i 0,.i 0,.i 0,.nil,.i 0,.i 0,.i 0,.nil] kr kr kr) (Le.trans (jw 8 9 524809 5 1 [.i p1,.i 0,.i 0,.i 0,.i 0,.own 524805,.i 0,.i 0,.i 0,.nil] kr kr kr) (lo []))⟩
theorem od {u p0 p1 p2 p3 r} (h:jv u p0 p1 p2 p3=some r):al Tryz.prog 265 [cO (dA p0),V.b p1,V.b p2,V.b p3] (V.b r) []:=by
 unfold jv at h
 refine b8 Tryz.f265 false ?_
 exact ae<|aE<|ah 2 10 h (fun h=>ah 7 17 h (fun h=>ah 13 30 h (fun h=>aa<|by cases h;exact Wp.ret aj) fun h=>ah 4 34 h (fun h=>ar 2 5 (aw .u8) p0.fB<|aa<|by cases h;exact Wp.ret aj) fun h=>aa<|by cases h;exact Wp.ret aj) fun h=>ah 4 21 h (fun h=>ah 7 28 h (fun h=>ah 2 30 h (fun h=>aa<|by cases h;exact Wp.ret aj) fun h=>ah 4 34 h (fun h=>ar 2 5 (aw .u8) p0.fB<|aa<|by cases h;exact Wp.ret aj) fun h=>aa<|by cases h;exact Wp.ret aj) fun h=>aa<|by cases h;exact Wp.ret aj) fun h=>aa<|by cases h;exact Wp.ret aj) fun h=>ag false 2 13 [.agg ((ai p0.av).map .t)] h (fun _=>qH) fun r1 h=>ah 2 15 h (fun h=>ah 2 17 h (fun h=>ah 13 30 h (fun h=>aa<|by cases h;exact Wp.ret aj) fun h=>ah 4 34 h (fun h=>ar 2 5 (aw .u8) p0.fB<|aa<|by cases h;exact Wp.ret aj) fun h=>aa<|by cases h;exact Wp.ret aj) fun h=>ah 4 21 h (fun h=>ah 7 28 h (fun h=>ah 2 30 h (fun h=>aa<|by cases h;exact Wp.ret aj) fun h=>ah 4 34 h (fun h=>ar 2 5 (aw .u8) p0.fB<|aa<|by cases h;exact Wp.ret aj) fun h=>aa<|by cases h;exact Wp.ret aj) fun h=>aa<|by cases h;exact Wp.ret aj) fun h=>aa<|by cases h;exact Wp.ret aj) fun h=>aa<|by cases h;exact Wp.ret aj
theorem GO {u p0 r} (h:xG u p0=some r):al Tryz.prog 225 [cO (dA p0)] (V.b r) []:=by
 unfold xG at h
 refine b8 Tryz.f225 false ?_
 exact ae<|Wp.seq<|ae<|Wp.block<|ae<|ak h (fun h=>aE<|ag false 2 9 [.agg ((ai p0.av).map .t)] h (fun _=>n6) fun r1 h=>ah 1 10 h (fun h=>ah 6 16 h (fun h=>ah 5 21 h (fun h=>ag false 1 23 [.agg ((dA p0).map .t),.b true,.b false,.b false] h (fun _=>od) fun r2 h=>aa<|by cases h;exact Wp.ret aj) fun h=>aa<|by cases h;exact Wp.ret aj) fun h=>aa<|by cases h;exact Wp.ret aj) fun h=>aa<|by cases h;exact Wp.ret aj) fun h=>ae<|ak h (fun h=>aE<|ag false 2 29 [.i p0.aP] h (fun _=>Ct) fun r3 h=>ah 1 30 h (fun h=>ag false 2 33 [.i p0.bx] h (fun _=>dz) fun r4 h=>ah 2 35 h (fun h=>ag false 2 38 [.i p0.bL] h (fun _=>dz) fun r5 h=>ah 2 40 h (fun h=>ag false 1 42 [.agg ((dA p0).map .t),.b false,.b true,.b false] h (fun _=>od) fun r6 h=>aa<|by cases h;exact Wp.ret aj) fun h=>aa<|by cases h;exact Wp.ret aj) fun h=>aa<|by cases h;exact Wp.ret aj) fun h=>aa<|by cases h;exact Wp.ret aj) fun h=>ae<|ak h (fun h=>aE<|ag false 2 48 [.i p0.aP,.i 1,.i 1000000] h (fun _=>bp) fun r7 h=>ah 1 49 h (fun h=>ag false 2 52 [.i p0.fI] h (fun _=>Ey) fun r8 h=>ah 2 54 h (fun h=>ar 2 5 (aw .u8) p0.fB<|ag false 0 58 [.i ((p0.fB.length:Int)),.i 1,.i 6] h (fun _=>bp) fun r9 h=>ah 2 60 h (fun h=>ag false 1 62 [.agg ((dA p0).map .t),.b false,.b false,.b true] h (fun _=>od) fun r10 h=>aa<|by cases h;exact Wp.ret aj) fun h=>aa<|by cases h;exact Wp.ret aj) fun h=>aa<|by cases h;exact Wp.ret aj) fun h=>aa<|by cases h;exact Wp.ret aj) fun h=>ae<|ak h (fun h=>aE<|ag false 2 68 [.i p0.aP] h (fun _=>Ct) fun r11 h=>ah 1 69 h (fun h=>ag false 1 71 [.agg ((dA p0).map .t),.b false,.b false,.b false] h (fun _=>od) fun r12 h=>aa<|by cases h;exact Wp.ret aj) fun h=>aa<|by cases h;exact Wp.ret aj) fun h=>Wp.skip<|bY<|aN<|ae<|by cases h;exact Wp.ret aj
theorem Cb {u p0 p1 r} (h:oL u p0 p1=some r):al Tryz.prog 294 [.one (.ow 5 1 (p0.map (aw .u8))),V.i p1] (.one (.ow 5 1 (r.map (aw .u8)))) []:=by
 unfold oL at h
 refine b8 Tryz.f294 true ?_
 refine ae<|pn (fun x7 x8=>qF u x7 x8=some r) (fun x7 x8=>⟨[(0,.own 1),(1,.i x8),(4,.nil)],[],[(1,.live 5 1 (x7.map (aw .u8)))]⟩) (fun x7 x8 h=>aE<|cg 4 19 5 1 1 (aw .u8) h fun h=>aa<|by cases h;exact Wp.ret aj)<|Wp.block<|yW (fun iW x3 x4=>iK u iW x3 x4=some r) (fun x3 x4=>⟨[(0,.own 1),(1,.i x4),(4,.nil)],[],[(1,.live 5 1 (x3.map (aw .u8)))]⟩) (fun iW x3 x4 h=>?_) h (lo [(1,58982400)]) (fun _ _  h=>nomatch h)
 rw [iK] at h
 exact Wp.seq<|ae<|ak h (fun h=>aC<|Wp.block<|aE<|cg 5 12 5 1 1 (aw .u8) h fun h=>aa<|aV [] []<|ab.all kr<|bY<|aN<|⟨_,_,h,lo [(1,786432)]⟩) fun h=>Wp.exit<|aZ<|aZ<|de<|aN<|⟨_,_,h,lo []⟩
theorem eF {u p0 p1 r} (h:eK u p0 p1=some r):al Tryz.prog 266 [.one (.s p0),V.i p1] (.one (.ow 5 1 (r.map (aw .u8)))) []:=by
 unfold eK at h
 refine b8 Tryz.f266 true ?_
 exact ae<|aK false 1 7 [.s p0] h (fun _=>gJ) fun r1 h=>Wp.seq<|aK false 1 9 [.i p1,.i 0,.i 1000000000000] h (fun _=>bp) fun r2 h=>ak h (fun h=>ae<|by cases h;exact Wp.ret aj) fun h=>aC<|aK true 2 14 [.own 458752,.i p1] h (fun _=>Cb) fun r3 h=>by cases h;exact Wp.ret aj
theorem Qk {u p0 p1 r} (h:yK u p0 p1=some r):al Tryz.prog 267 [.one (.s p0),cO (ai p1)] (.one (.ow 5 1 (r.map (aw .u8)))) []:=by
 unfold yK at h
 refine b8 Tryz.f267 true ?_
 refine ae<|Wp.seq<|aK false 1 9 [.agg ((ai p1).map .t)] h (fun _=>n6) fun r1 h=>ak h (fun h=>aK false 1 12 [.s p0] h (fun _=>gJ) fun r2 h=>by cases h;exact Wp.ret aj) fun h=>aC<|Wp.seq<|aL (jS []) (bR [(0,.frz),(3,.obj 3),(13,.frz),(14,.obj 3),(15,.frz),(16,.own 16),(17,.obj 3),(18,.frz),(19,.own 19),(20,.obj 3),(21,.frz),(22,.own 22)]) kr kr<|ag false 3 16 [.s p0,.i p1.aP] h (fun _=>eF) fun r3 h=>ag false 2 19 [.own 1048576,.i p1.aS] h (fun _=>eF) fun r4 h=>ag false 2 22 [.own 1245184,.i p1.aY] h (fun _=>eF) fun r5 h=>aa<|jL (fun x14=>A5 u x14=some r) (fun x14=>⟨[(4,.nil),(5,.own 327681)],[],[(327681,.live 5 1 (x14.map (aw .u8)))]⟩) (fun x14 h=>ae<|by cases h;exact Wp.ret aj)<|aE<|ar 2 176 aH p1.aD<|aa<|Wp.block<|dZ (fun ma x8 p1 x9=>oM u ma x8 p1 x9=some r) (fun x8 p1 x9=>⟨[(4,.nil),(5,.own 327681),(24,.t (.sl 2 (p1.aD.map aH))),(25,.i ((p1.aD.length:Int))),(26,.i x9)],[],[(327681,.live 5 1 (x8.map (aw .u8)))]⟩) (fun ma x8 p1 x9 h=>?_) h (lo [(327681,1441792)]) (fun _ _ _  h=>nomatch h)
 rw [oM] at h
 exact ae<|Wp.seq<|ak h (fun h=>aC<|Wp.seq<|Wp.block<|aE<|aR 0 176 2 aH h fun y12 h _=>aa<|aV [] []<|ag true 3 33 [.own 327681,.i y12.fS] h (fun _=>Cb) fun r13 h=>ab.all kr<|bY<|aN<|aV [] []<|aa<|⟨_,_,_,h,lo [(327681,2162688)]⟩) fun h=>Wp.exit<|aZ<|aZ<|de<|aN<|⟨_,h,lo []⟩
theorem Fm {u p0 p1 r} (h:yL u p0 p1=some r):al Tryz.prog 268 [.one (.s p0),V.i p1] (.one (.ow 5 1 (r.map (aw .u8)))) []:=by
 unfold yL at h
 refine b8 Tryz.f268 true ?_
 exact ae<|aE<|ag false 3 8 [.s p0,.i (fE .i64 p1 1048575)] h (fun _=>eF) fun r1 h=>ag false 2 11 [.own 524288,.i (n4 .i64 p1 20)] h (fun _=>eF) fun r2 h=>aa<|by cases h;exact Wp.ret aj
theorem NJ {u p0 p1 r} (h:Al u p0 p1=some r):al Tryz.prog 269 [.one (.s p0),.one (.s p1)] (.one (.ow 5 1 (r.map (aw .u8)))) []:=by
 unfold Al at h
 refine b8 Tryz.f269 true ?_
 exact ae<|aE<|ar 2 5 (aw .u8) p1<|ag false 0 8 [.s p0,.i ((p1.length:Int))] h (fun _=>eF) fun r1 h=>cg 1 10 5 1 524288 (aw .u8) h fun h=>aa<|by cases h;exact Wp.ret aj
theorem Fn {u p0 r} (h:u1 u p0=some r):al Tryz.prog 226 [cO (dA p0)] (.one (.ow 5 1 (r.map (aw .u8)))) []:=by
 unfold u1 at h
 refine b8 Tryz.f226 true ?_
 exact ae<|Wp.seq<|aK false 1 5 [.agg ((dA p0).map .t)] h (fun _=>GO) fun r1 h=>ak h (fun h=>ae<|by cases h;exact Wp.ret aj) fun h=>aC<|aK false 2 9 [.nil,.i p0.bA] h (fun _=>eF) fun r2 h=>jL (fun x11=>kf u x11=some r) (fun x11=>⟨[(2,.nil),(3,.own 196609)],[],[(196609,.live 5 1 (x11.map (aw .u8)))]⟩) (fun x11 h=>aE<|eY 2 50 [.own 196609] h (fun _=>Bg) fun r12 h=>ag false 0 51 [.own 196609,.i r12] h (fun _=>eF) fun r13 h=>aa<|by cases h;exact Wp.ret aj)<|ae<|Wp.block<|ae<|ak h (fun h=>aV [] []<|ag false 3 17 [.own 589824,.agg ((ai p0.av).map .t)] h (fun _=>Qk) fun r3 h=>ab.all kr<|bY<|aN<|⟨_,h,lo [(196609,1114112)]⟩) fun h=>ae<|ak h (fun h=>aL (jS []) (bR [(1,.obj 1),(3,.own 9),(20,.own 9),(21,.obj 1),(22,.frz),(23,.own 23),(24,.obj 1),(25,.frz),(26,.own 26),(27,.obj 1),(28,.frz),(29,.own 29)]) kr kr<|ag false 3 23 [.own 589824,.i p0.aP] h (fun _=>eF) fun r4 h=>ag false 2 26 [.own 1507328,.i p0.bx] h (fun _=>Fm) fun r5 h=>ag false 2 29 [.own 1703936,.i p0.bL] h (fun _=>Fm) fun r6 h=>ab.all kr<|bY<|aN<|⟨_,h,lo [(196609,1900544)]⟩) fun h=>ae<|ak h (fun h=>aL (jS []) (bR [(1,.obj 1),(3,.own 9),(32,.own 9),(33,.obj 1),(34,.frz),(35,.own 35),(36,.obj 1),(37,.frz),(38,.own 38),(39,.obj 1),(40,.frz),(41,.own 41)]) kr kr<|ag false 3 35 [.own 589824,.i p0.aP] h (fun _=>eF) fun r7 h=>ag false 2 38 [.own 2293760,.i p0.fI] h (fun _=>eF) fun r8 h=>ag false 2 41 [.own 2490368,.s p0.fB] h (fun _=>NJ) fun r9 h=>ab.all kr<|bY<|aN<|⟨_,h,lo [(196609,2686976)]⟩) fun h=>ae<|ak h (fun h=>aV [] []<|ag false 3 47 [.own 589824,.i p0.aP] h (fun _=>eF) fun r10 h=>ab.all kr<|bY<|aN<|⟨_,h,lo [(196609,3080192)]⟩) fun h=>Wp.skip<|bY<|aN<|⟨_,h,lo [(196609,589824)]⟩
theorem Ql {u p0 r} (h:yM u p0=some r):al Tryz.prog 181 [.one (.s p0)] (.tup [cO (dA r.1),V.b r.2]) []:=by
 unfold yM at h
 refine b8 Tryz.f181 false ?_
 exact ae<|aK false 1 10 [.s p0,.i 0] h (fun _=>wX) fun r1 h=>Wp.seq<|kh (fun p0 r1 x2=>wj u p0 r1 x2=some r) (fun p0 r1 x2=>⟨[(0,.s p0),(2,.obj 2 0),(3,.b false),(4,.i r1.1),(5,.i r1.2.1),(20,.b x2)],[(2,[.i 0,.i 0,.i 0,.i 0,.i 0,.nil,.i 0,.i 0,.i 0,.nil])],[]⟩) (fun p0 r1 x2 h=>ak h (fun h=>ae<|by cases h;exact Wp.ret aj) fun h=>aC<|aK false 3 26 [.s p0,.i r1.1,.i r1.2.1] h (fun _=>NI) fun r3 h=>Wp.seq<|pn (fun x7 r3=>ri u x7 r3=some r) (fun x7 r3=>⟨[(2,.obj 2 0),(3,.b false),(7,.obj 7 0),(42,.b x7)],[(2,[.i 0,.i 0,.i 0,.i 0,.i 0,.nil,.i 0,.i 0,.i 0,.nil]),(7,((dA r3.1).map .t))],[]⟩) (fun x7 r3 h=>ak h (fun h=>ae<|by cases h;exact Wp.ret aj) fun h=>aC<|ae<|by cases h;exact Wp.ret aj)<|aV [] []<|ah 3 31 h (fun h=>aa<|⟨_,_,h,Le.trans (mW 7 5 1703941 176 2 [.i r3.1.bA,.i r3.1.aP,.i r3.1.av.aP,.i r3.1.av.aS,.i r3.1.av.aY,.own 1703941,.i r3.1.bx,.i r3.1.bL,.i r3.1.fI,.own 1703945] (r3.1.av.aD.map aH) kr kr kr) (Le.trans (mW 7 9 1703945 5 1 [.i r3.1.bA,.i r3.1.aP,.i r3.1.av.aP,.i r3.1.av.aS,.i r3.1.av.aY,.t (.sl 2 (r3.1.av.aD.map aH)),.i r3.1.bx,.i r3.1.bL,.i r3.1.fI,.own 1703945] (r3.1.fB.map (aw .u8)) kr kr kr) (lo []))⟩) fun h=>eY 1 33 [.agg [.i r3.1.bA,.i r3.1.aP,.i r3.1.av.aP,.i r3.1.av.aS,.i r3.1.av.aY,.own 1703941,.i r3.1.bx,.i r3.1.bL,.i r3.1.fI,.own 1703945]] h (fun _=>GO) fun r4 h=>ah 3 36 h (fun h=>aa<|⟨_,_,h,Le.trans (mW 7 5 1703941 176 2 [.i r3.1.bA,.i r3.1.aP,.i r3.1.av.aP,.i r3.1.av.aS,.i r3.1.av.aY,.own 1703941,.i r3.1.bx,.i r3.1.bL,.i r3.1.fI,.own 1703945] (r3.1.av.aD.map aH) kr kr kr) (Le.trans (mW 7 9 1703945 5 1 [.i r3.1.bA,.i r3.1.aP,.i r3.1.av.aP,.i r3.1.av.aS,.i r3.1.av.aY,.t (.sl 2 (r3.1.av.aD.map aH)),.i r3.1.bx,.i r3.1.bL,.i r3.1.fI,.own 1703945] (r3.1.fB.map (aw .u8)) kr kr kr) (lo []))⟩) fun h=>ag false 1 38 [.agg [.i r3.1.bA,.i r3.1.aP,.i r3.1.av.aP,.i r3.1.av.aS,.i r3.1.av.aY,.own 1703941,.i r3.1.bx,.i r3.1.bL,.i r3.1.fI,.own 1703945]] h (fun _=>Fn) fun r5 h=>eY 1 40 [.own 2490368,.s p0] h (fun _=>wV) fun r6 h=>aa<|⟨_,_,h,Le.trans (B9 7 5 1703941 2 [.i r3.1.bA,.i r3.1.aP,.i r3.1.av.aP,.i r3.1.av.aS,.i r3.1.av.aY,.own 1703941,.i r3.1.bx,.i r3.1.bL,.i r3.1.fI,.own 1703945] (r3.1.av.aD.map aH) kr kr kr) (Le.trans (B9 7 9 1703945 1 [.i r3.1.bA,.i r3.1.aP,.i r3.1.av.aP,.i r3.1.av.aS,.i r3.1.av.aY,.t (.sl 2 (r3.1.av.aD.map aH)),.i r3.1.bx,.i r3.1.bL,.i r3.1.fI,.own 1703945] (r3.1.fB.map (aw .u8)) kr kr kr) (lo []))⟩)<|aV [] []<|ah 3 16 h (fun h=>aa<|⟨_,_,_,h,lo []⟩) fun h=>ar 1 5 (aw .u8) p0<|aa<|⟨_,_,_,h,lo []⟩
theorem NK {u p0 q0 r} (h:Am u p0 q0=some r):al Tryz.prog 295 [cO (am p0),.fptr [.int .i64 q0]] (V.b r) []:=by
 unfold Am at h
 refine b8 Tryz.f295 false ?_
 exact ae<|ae<|by cases h;exact Wp.ret aj
theorem ly {u p0 p1_0 r} (h:cG u p0 p1_0=some r):al Tryz.prog 169 [.one (.t (.sl 5 (p0.map am))),.clo 295 [.fptr [.int .i64 p1_0]]] (V.i r) []:=by
 unfold cG at h
 refine b8 Tryz.f169 false ?_
 refine ae<|io (di u=some r) ⟨[(4,.i 0)],[],[]⟩ (fun h=>ae<|by cases h;exact Wp.ret aj)<|aE<|ar 1 149 am p0<|aa<|Wp.block<|dZ (fun bG p0 p1_0 x2=>bO u bG p0 p1_0 x2=some r) (fun p0 p1_0 x2=>⟨[(0,.t (.sl 5 (p0.map am))),(1,.clo 295 [.fadr [.int .i64 p1_0]]),(4,.i 0),(7,.i ((p0.length:Int))),(8,.i x2)],[],[]⟩) (fun bG p0 p1_0 x2 h=>?_) h (lo []) (fun _ _ _  h=>nomatch h)
 rw [bO] at h
 exact ae<|Wp.seq<|ak h (fun h=>aC<|Wp.seq<|Wp.block<|ae<|aE<|aR 3 149 5 am h fun y4 h _=>ag false 1 16 [.agg ((am y4).map .t),.fadr [.int .i64 p1_0]] h (fun _=>NK) fun r5 h=>aa<|ak h (fun h=>ae<|by cases h;exact Wp.ret aj) fun h=>Wp.skip<|bY<|aN<|aV [] []<|aa<|⟨_,_,_,h,lo []⟩) fun h=>Wp.exit<|aZ<|aZ<|de<|aN<|⟨h,lo []⟩
theorem Cv {u p0 p1 r} (h:uB u p0 p1=some r):al Tryz.prog 270 [.one (.t (.sl 5 (p0.map am))),V.i p1] (V.i r) []:=by
 unfold uB at h
 refine b8 Tryz.f270 false ?_
 exact ae<|Wp.seq<|Wp.le (rv 3 [.int .i64 p1] kr kr)<|aV [] []<|ag false 2 7 [.t (.sl 5 (p0.map am)),.clo 295 [.fadr [.int .i64 p1]]] h (fun _=>ly) fun r1 h=>aa<|by cases h;exact Wp.ret aj
theorem Qm {u p0 q0 r} (h:BX u p0 q0=some r):al Tryz.prog 271 [cO (am p0),.fptr [.int .i64 q0]] (V.b r) []:=by
 unfold BX at h
 refine b8 Tryz.f271 false ?_
 exact ae<|ae<|by cases h;exact Wp.ret aj
theorem lC {u p0 p1_0 r} (h:ch u p0 p1_0=some r):al Tryz.prog 169 [.one (.t (.sl 5 (p0.map am))),.clo 271 [.fptr [.int .i64 p1_0]]] (V.i r) []:=by
 unfold ch at h
 refine b8 Tryz.f169 false ?_
 refine ae<|io (dm u=some r) ⟨[(4,.i 0)],[],[]⟩ (fun h=>ae<|by cases h;exact Wp.ret aj)<|aE<|ar 1 149 am p0<|aa<|Wp.block<|dZ (fun bK p0 p1_0 x2=>bS u bK p0 p1_0 x2=some r) (fun p0 p1_0 x2=>⟨[(0,.t (.sl 5 (p0.map am))),(1,.clo 271 [.fadr [.int .i64 p1_0]]),(4,.i 0),(7,.i ((p0.length:Int))),(8,.i x2)],[],[]⟩) (fun bK p0 p1_0 x2 h=>?_) h (lo []) (fun _ _ _  h=>nomatch h)
 rw [bS] at h
 exact ae<|Wp.seq<|ak h (fun h=>aC<|Wp.seq<|Wp.block<|ae<|aE<|aR 3 149 5 am h fun y4 h _=>ag false 1 16 [.agg ((am y4).map .t),.fadr [.int .i64 p1_0]] h (fun _=>Qm) fun r5 h=>aa<|ak h (fun h=>ae<|by cases h;exact Wp.ret aj) fun h=>Wp.skip<|bY<|aN<|aV [] []<|aa<|⟨_,_,_,h,lo []⟩) fun h=>Wp.exit<|aZ<|aZ<|de<|aN<|⟨h,lo []⟩
end Go.Tm
