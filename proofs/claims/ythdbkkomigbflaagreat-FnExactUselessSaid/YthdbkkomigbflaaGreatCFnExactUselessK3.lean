/- The functions as they are translated do what the pure functions say (printed). -/
import Derived.Test.YthdbkkomigbflaaGreatCFnExactUselessK2
import Derived.Test.YthdbkkomigbflaaGreatProg
set_option maxRecDepth 100000
set_option maxHeartbeats 20000000
set_option linter.unusedVariables false
set_option linter.unusedSimpArgs false
namespace Go.Tm
open Go.Proofs
theorem sC {P:Program} {z:Value} (L:UX P 272 109 149 3 4 296 5 40 Tryz.f272 z):Yj P 272 149 5 40:=fun w b n c i vb vc cur arr2 vs H=>by
 have mixed:=L.mixed
 have u3:=run_underlying L.t3; have u4:=run_underlying L.t4; have u5:=run_underlying L.t5
 have t3:=L.t3; have t4:=L.t4; have t5:=L.t5
 obtain ⟨i0,hi0,hzs,_⟩:=L.size
 have z5:∀ w,(Go.sizeOf 149).run P w=.ok 5 w:=fun w=>by simp [sizeOf,typeInfo,hi0,hzs]
 have a5:∀ w,(isAgg 109).run P w=.ok false w:=fun w=>by simp [isAgg,run_underlying t5]
 have a3:∀ w,(isAgg 3).run P w=.ok false w:=fun w=>by simp [isAgg,run_underlying t3]
 have a4:∀ w,(isAgg 4).run P w=.ok false w:=fun w=>by simp [isAgg,run_underlying t4]
 have hi:=H.hi
 have hnc:=H.hnc
 have hc63:c≤9223372036854775807:=by have:=H.hc; unfold maxLen at this; omega
 have hbig:=H.big
 have hvb:=H.hvb
 have hz2:¬ ((i:Int)=(n:Int)):=by omega
 have hw1:IntKind.i64.wrap ((i:Int)+1)=(i:Int)+1:=by rw [IntKind.wrap_i64]; omega
 have hw2:IntKind.i64.wrap ((n:Int)+1)=(n:Int)+1:=by rw [IntKind.wrap_i64]; omega
 have hw3:IntKind.i64.wrap ((n:Int)+1 - (i:Int))=(n:Int)+1 - (i:Int):=by rw [IntKind.wrap_i64]; omega
 have hb1:(0:Int)≤(i:Int)+1:=by omega
 have hb2:(i:Int)≤(n:Int):=by omega
 have hb5:(i:Int)≤(n:Int)+1:=by omega
 have hb6:(i:Int)+1≤(n:Int)+1:=by omega
 have hin:i≤n:=by omega
 have hic:i≤c:=by omega
 have hci:¬ (c=i):=by omega
 have htn:((i:Int)+1).toNat=i+1:=by omega
 have htn2:((n:Int)+1).toNat=n+1:=by omega
 by_cases hroom:n+1≤c
 ·obtain ⟨W1,W2,hcp1,hcp2,hov,hpost⟩:=L.shift (vc:=vc) H hroom
  have hci1:¬ (c=i+1):=by omega
  clear H hi0 hzs
  go_enter L.hf,(show Tryz.f272.ntmps=95 from rfl)
  go_wp2_with (simp only [hov])
  go_region_law_o (refine PL rfl _ _ 109 109 rfl _ _ (by simp [Act.eval,Act.put]) (by simp [Act.eval,Act.put]) (hcp1 _ _ _) ?_)
  go_wp2_with (at_builtin; refine Ji _ rfl _ _ 109 109 rfl _ _ rfl rfl (hcp2 _ _) ?_)
  go_ret
  exact hpost.out
 ·obtain ⟨N,G,ROW,R1,R2,hGn,hG63,hrz,hcpA,hcpB,hpost⟩:=L.grow (vc:=vc) H (by omega)
  have hz3:(c:Int) < (n:Int)+1:=by omega
  have hGi:¬ (G=i):=by omega
  have hGim:¬ (G=i+1):=by omega
  clear H hi0 hzs
  go_enter L.hf,(show Tryz.f272.ntmps=95 from rfl)
  go_wp2_with (first
   | (at_builtin; refine Lib.wpList_append_run _ rfl _ _ _ _ rfl _ _ rfl rfl _ _ (hrz _) ?_)
   | (at_builtin; refine Ji _ rfl _ _ 109 109 rfl _ _ rfl rfl (hcpA _ _) ?_))
  go_region_law_o (refine PL rfl _ _ 109 109 rfl _ _ (by simp [Act.eval,Act.put]) (by simp [Act.eval,Act.put]) (hcpB _ _ _) ?_)
  go_wp2
  go_ret
  exact hpost.out
theorem sR:UX Tryz.prog 272 109 149 3 4 296 5 40 Tryz.f272 (.agg #[(.int .i64 0),(.int .i64 0),(.int .i64 0),(.int .i64 0),(.int .i64 0)]) :=
 ⟨kr,kr,run_callFunc_extern (fn:=Tryz.f296) kr kr kr kr kr,kr,kr,kr,kr,kr,kr,by decide,by decide⟩
theorem sS {u p0 p1 p2 r} (h:eG u p0 p1 p2=some r):al Tryz.prog 272 [.one (.ow 149 5 (p0.map am)),V.i p1,.one (.ow 149 5 (p2.map am))] (.one (.ow 149 5 (r.map am))) []:=by
 unfold eG at h
 obtain ⟨e,h⟩:=Yk h
 obtain rfl:=oi h
 simp only [Bool.and_eq_true,decide_eq_true_eq] at e
 obtain ⟨⟨⟨e1,e4⟩,e3⟩,e2⟩:=e
 obtain ⟨x,rfl⟩:=List.length_eq_one_iff.1 e3
 by_cases hp:p1=p0.length
 ·subst hp
  have e0:(((p0.length:Int)).toNat)=p0.length:=Int.toNat_natCast _
  rw [e0,List.take_length,List.drop_length,List.append_nil]
  replace h:(dW (decide ((p0.length + [x].length)*40≤140737488355328))).bind (fun _=>some (p0++[x]))=some (p0++[x]):=by rw [decide_eq_true e2]; rfl
  refine b8 Tryz.f272 true ?_
  refine ae ?_
  refine PG [] [(12,.win 900)] ?_
  refine bc 2 kr ?_
  refine Lf (e:=149) (e':=149) (alo:=some (.i ((p0.length:Int)))) am p0 58982400 5 (p0.length:Int) rfl kr kr kr kr kr kr kr kr kr (by simp [GG]) ?_
  refine aa ?_
  refine aE ?_
  refine ar 1 149 am [x] ?_
  refine aa ?_
  refine Wp.seq ?_
  refine ae ?_
  refine Pw (b:=false) kr (fun hc=>nomatch hc) (fun _=>?_)
  refine aC ?_
  refine aE ?_
  refine ar 1 149 am p0 ?_
  refine aa ?_
  refine Wp.seq ?_
  refine ae ?_
  refine Pw (b:=((p0.length:Int)) == (p0.length:Int)) kr (fun _=>?_) (fun hc=>by simp at hc)
  refine aE ?_
  refine cg 2 25 149 5 58982400 am h (fun h=>?_)
  refine aa ?_
  exact Wp.ret aj
 ·obtain ⟨i,rfl⟩:=Int.eq_ofNat_of_zero_le e1
  have hi:i < p0.length:=by omega
  have hm:(p0.take i++[x]++p0.drop i).map am=(p0.map am).take i++am x :: (p0.map am).drop i:=by simp
  rw [show ((i:Int)).toNat=i from rfl,hm]
  exact Ym (row:=am x) ⟨Tryz.f272,kr,kr,kr⟩ (sC sR) (by simpa using hi) (by simpa using e2)
theorem TM {u p0 p1 p2 p3 r} (h:C8 u p0 p1 p2 p3=some r):al Tryz.prog 227 [.one (.t (.sl 5 (p0.map am))),V.i p1,V.i p2,V.i p3] (.one (.ow 149 5 (r.map am))) []:=by
 unfold C8 at h
 refine b8 Tryz.f227 true ?_
 exact ae<|aK false 1 13 [.t (.sl 5 (p0.map am))] h (fun _=>gK) fun r1 h=>Wp.seq<|Jk (fun p0 p2 p3 r1 x5 p1=>wn u p0 p2 p3 r1 x5 p1=some r) (fun p0 p2 p3 r1 x5 p1=>⟨[(0,.t (.sl 5 (p0.map am))),(2,.i p2),(3,.i p3),(5,.obj 5 0),(8,.nil),(9,.own 589825),(26,.b x5)],[(5,[.i p1])],[(589825,.live 149 5 (r1.map am))]⟩) (fun p0 p2 p3 r1 x5 p1 h=>ak h (fun h=>ae<|by cases h;exact Wp.ret aj) fun h=>aC<|aK false 2 30 [.t (.sl 5 (p0.map am)),.i p1] h (fun _=>Cv) fun r6 h=>m2 (fun p2 p3 x10 x11=>wl u p2 p3 x10 x11=some r) (fun p2 p3 x10 x11=>⟨[(2,.i p2),(3,.i p3),(8,.nil),(9,.own 589825),(10,.i x11)],[],[(589825,.live 149 5 (x10.map am))]⟩) (fun p2 p3 x10 x11 h=>aE<|cI 2 149 5 589825 149 am h fun y12 h e_y12=>aa<|aE<|iO 7 5 1 589825 2 149 false am ((cq e_y12).2)<|bc 4 kr<|gm (e:=149) (sz:=5) (m:=1) am x10 589825 (Int.toNat x11) 1 ((Kid.mk y12.fd p2 y12.bL y12.qP y12.c8)) (.i p2) [.int .i64 p2] rfl kr kr kr kr kr kr kr kr ((cq e_y12).2) kr kr<|bc 2 kr<|gm (e:=149) (sz:=5) (m:=1) am (x10.set (Int.toNat x11) ((Kid.mk y12.fd p2 y12.bL y12.qP y12.c8))) 589825 (Int.toNat x11) 3 ((Kid.mk y12.fd p2 y12.bL 0 y12.c8)) (.i 0) [.int .i64 0] rfl kr kr kr kr kr kr kr kr (TC ((cq e_y12).2)) kr kr<|bc 2 kr<|gm (e:=149) (sz:=5) (m:=1) am ((x10.set (Int.toNat x11) ((Kid.mk y12.fd p2 y12.bL y12.qP y12.c8))).set (Int.toNat x11) ((Kid.mk y12.fd p2 y12.bL 0 y12.c8))) 589825 (Int.toNat x11) 2 ((Kid.mk y12.fd p2 (sZ .i64 y12.bL p3) 0 y12.c8)) (.i (sZ .i64 y12.bL p3)) [.int .i64 (sZ .i64 y12.bL p3)] rfl kr kr kr kr kr kr kr kr (TC (TC ((cq e_y12).2))) kr kr<|aa<|ae<|by cases h;exact Wp.ret aj)<|ae<|ak h (fun h=>Wp.seq<|Wp.le (rv 5 [.int .i64 p1] kr kr)<|aV [] []<|ag false 2 35 [.t (.sl 5 (p0.map am)),.clo 271 [.fadr [.int .i64 p1]]] h (fun _=>lC) fun r7 h=>aa<|wL (fun p2 p3 p1 r1 x8=>wm u p2 p3 p1 r1 x8=some r) (fun p2 p3 p1 r1 x8=>⟨[(2,.i p2),(3,.i p3),(5,.fadr [.int .i64 p1]),(8,.nil),(9,.own 589825),(10,.i x8)],[],[(589825,.live 149 5 (r1.map am))]⟩) (fun p2 p3 p1 r1 x8 h=>aV [] []<|ag true 5 45 [.own 589825,.i x8,.own 2883584] h (fun _=>sS) fun r9 h=>aa<|⟨_,_,_,_,h,lo [(589825,2949120)]⟩)<|ae<|ak h (fun h=>aV [] []<|ar 1 149 am p0<|aa<|⟨_,_,_,_,_,h,lo []⟩) fun h=>aC<|⟨_,_,_,_,_,h,lo []⟩) fun h=>aC<|⟨_,_,_,_,h,lo []⟩)<|aV [] []<|ag false 1 15 [.i p1] h (fun _=>Jw) fun r2 h=>ah 2 17 h (fun h=>aa<|⟨_,_,_,_,_,_,h,lo [(589825,851968)]⟩) fun h=>ag false 1 19 [.i p2] h (fun _=>dz) fun r3 h=>ah 3 22 h (fun h=>aa<|⟨_,_,_,_,_,_,h,lo [(589825,851968)]⟩) fun h=>ag false 1 24 [.i p3] h (fun _=>dz) fun r4 h=>aa<|⟨_,_,_,_,_,_,h,lo [(589825,851968)]⟩
theorem Fo {u p0 r} (h:rj u p0=some r):al Tryz.prog 274 [cO (ay p0)] (V.i r) []:=by
 unfold rj at h
 refine b8 Tryz.f274 false ?_
 exact ae<|ae<|by cases h;exact Wp.ret aj
theorem Fq {u p0 p1 p2 r} (h:rk u p0 p1 p2=some r):al Tryz.prog 273 [.one (.t (.sl 5 (p0.map am))),V.i p1,V.i p2] (V.i r) []:=by
 unfold rk at h
 refine b8 Tryz.f273 false ?_
 exact ae<|aK false 2 10 [.t (.sl 5 (p0.map am)),.i p1] h (fun _=>Cv) fun r1 h=>Wp.seq<|m2 (fun p0 p2 r1 x7=>oN u p0 p2 r1 x7=some r) (fun p0 p2 r1 x7=>⟨[(0,.t (.sl 5 (p0.map am))),(2,.i p2),(6,.i 0),(7,.i r1),(35,.b x7)],[],[]⟩) (fun p0 p2 r1 x7 h=>ak h (fun h=>ae<|by cases h;exact Wp.ret aj) fun h=>aC<|Wp.seq<|aL (jS []) (bR [(0,.frz),(2,.frz),(7,.frz),(36,.frz),(37,.frz),(38,.frz),(39,.frz),(40,.frz),(41,.frz),(42,.frz),(43,.frz),(44,.frz),(45,.frz),(46,.frz),(47,.frz),(48,.frz)]) kr kr<|aR 2 149 5 am h fun y8 h _=>aR 6 149 5 am h fun y9 h _=>aa<|by cases h;exact Wp.ret aj)<|aV [] []<|ah 3 13 h (fun h=>aa<|⟨_,_,_,_,h,lo []⟩) fun h=>ag false 1 15 [.i p2] h (fun _=>dz) fun r2 h=>ah 3 18 h (fun h=>aa<|⟨_,_,_,_,h,lo []⟩) fun h=>aR 2 149 5 am h fun y3 h _=>ag false 2 24 [.i y3.bx] h (fun _=>dz) fun r4 h=>ah 3 27 h (fun h=>aa<|⟨_,_,_,_,h,lo []⟩) fun h=>aR 2 149 5 am h fun y5 h _=>ag false 2 33 [.i y5.c8] h (fun _=>dz) fun r6 h=>aa<|⟨_,_,_,_,h,lo []⟩
theorem NL {u p0 r} (h:wo u p0=some r):al Tryz.prog 275 [V.i p0] (.one (.ow 3 1 (r.map (aw .i64)))) []:=by
 unfold wo at h
 refine b8 Tryz.f275 true ?_
 refine ae<|ae<|jL (fun x9=>uh u x9=some r) (fun x9=>⟨[(2,.nil),(3,.own 196609)],[],[(196609,.live 3 1 (x9.map (aw .i64)))]⟩) (fun x9 h=>ae<|by cases h;exact Wp.ret aj)<|ae<|Wp.block<|dZ (fun gr p0 x3 x4=>jd u gr p0 x3 x4=some r) (fun p0 x3 x4=>⟨[(0,.i p0),(2,.nil),(3,.own 196609),(6,.i x4)],[],[(196609,.live 3 1 (x3.map (aw .i64)))]⟩) (fun gr p0 x3 x4 h=>?_) h (lo [(196609,327680)]) (fun _ _ _  h=>nomatch h)
 rw [jd] at h
 exact ae<|Wp.seq<|ak h (fun h=>aC<|kh (fun p0 x8 x4=>k9 u (fun z0 z1 z2=>jd u gr z0 z1 z2) p0 x8 x4=some r) (fun p0 x8 x4=>⟨[(0,.i p0),(2,.nil),(3,.own 196609),(6,.i x4)],[],[(196609,.live 3 1 (x8.map (aw .i64)))]⟩) (fun p0 x8 x4 h=>aV [] []<|aa<|⟨_,_,_,h,lo []⟩)<|Wp.block<|ae<|aK false 2 11 [.i p0,.i x4] h (fun _=>lJ) fun r7 h=>ak h (fun h=>aV [] []<|cg 3 15 3 1 196609 (aw .i64) h fun h=>ab.all kr<|bY<|aN<|⟨_,_,_,h,lo [(196609,983040)]⟩) fun h=>Wp.skip<|bY<|aN<|⟨_,_,_,h,lo []⟩) fun h=>Wp.exit<|aZ<|aZ<|de<|aN<|⟨_,h,lo []⟩
theorem EB {u p0 p1 p2 r} (h:pD u p0 p1 p2=some r):al Tryz.prog 276 [cO (ai p0),cO (cJ p1),V.i p2] (.tup [.one (.ow 5 1 (r.1.map (aw .u8))),V.b r.2]) []:=by
 unfold pD at h
 refine b8 Tryz.f276 true ?_
 exact ae<|Wp.seq<|m2 (fun p2 x3 p0 p1=>ui u p2 x3 p0 p1=some r) (fun p2 x3 p0 p1=>⟨[(2,.i p2),(3,.obj 3 0),(4,.obj 4 0),(6,.nil),(7,.b false),(18,.b x3)],[(3,((ai p0).map .t)),(4,[.i p1.aT,.s p1.bg])],[]⟩) (fun p2 x3 p0 p1 h=>ak h (fun h=>ae<|by cases h;exact Wp.ret aj) fun h=>aC<|aE<|ag false 3 22 [.agg [.i p1.aT,.s p1.bg],.agg ((ai p0).map .t),.i p2] h (fun _=>yX) fun r4 h=>ag false 0 23 [.s r4] h (fun _=>gJ) fun r5 h=>aa<|by cases h;exact Wp.ret aj)<|aV [] []<|ag false 2 10 [.agg ((ai p0).map .t),.agg [.i p1.aT,.s p1.bg]] h (fun _=>zI) fun r1 h=>ah 2 12 h (fun h=>aa<|⟨_,_,_,_,h,lo []⟩) fun h=>ag false 3 16 [.i p1.aT,.i p2] h (fun _=>lJ) fun r2 h=>aa<|⟨_,_,_,_,h,lo []⟩
theorem EC {u p0 p1 p2 r} (h:nN u p0 p1 p2=some r):al Tryz.prog 277 [V.i p0,V.i p1,.one (.s p2)] (V.w [0,0,0,0,0,0,0,0,0,5] (dA r)) []:=by
 unfold nN at h
 refine b8 Tryz.f277 true ?_
 exact ae<|aK false 3 10 [.s p2] h (fun _=>gJ) fun r1 h=>by cases h;exact Wp.ret aj
theorem xR {u p0 p1 p2 r} (h:jQ u p0 p1 p2=some r):al Tryz.prog 229 [V.i p0,V.i p1,cO (dA p2)] (V.w [0,0,5] (aI r)) []:=by
 unfold jQ at h
 refine b8 Tryz.f229 true ?_
 exact ae<|aK false 3 10 [.agg ((dA p2).map .t)] h (fun _=>Fn) fun r1 h=>by cases h;exact Wp.ret aj
theorem Ds {u p0 p1 p2 r} (h:nX u p0 p1 p2=some r):al Tryz.prog 278 [.one (.t (.sl 5 (p0.map am))),V.i p1,V.i p2] (.one (.ow 149 5 (r.map am))) []:=by
 unfold nX at h
 refine b8 Tryz.f278 true ?_
 exact ae<|aK false 1 10 [.t (.sl 5 (p0.map am))] h (fun _=>gK) fun r1 h=>aK false 2 13 [.t (.sl 5 (p0.map am)),.i p1] h (fun _=>Cv) fun r2 h=>jL (fun x9=>sj u x9=some r) (fun x9=>⟨[(6,.nil),(7,.own 458753)],[],[(458753,.live 149 5 (x9.map am))]⟩) (fun x9 h=>ae<|by cases h;exact Wp.ret aj)<|m2 (fun p2 r1 r2 x6=>oO u p2 r1 r2 x6=some r) (fun p2 r1 r2 x6=>⟨[(2,.i p2),(6,.nil),(7,.own 458753),(8,.i r2),(27,.b x6)],[],[(458753,.live 149 5 (r1.map am))]⟩) (fun p2 r1 r2 x6 h=>ak h (fun h=>aV [] []<|cI 2 149 5 458753 149 am h fun y7 h e_y7=>iO 1 5 1 458753 4 149 false am ((cq e_y7).2)<|cI 2 149 5 458753 149 am h fun y8 h e_y8=>bc 1 kr<|gm (e:=149) (sz:=5) (m:=1) am r1 458753 (Int.toNat r2) 4 ((Kid.mk y8.fd y8.bx y8.bL y8.qP (sZ .i64 y7.c8 p2))) (.i (sZ .i64 y7.c8 p2)) [.int .i64 (sZ .i64 y7.c8 p2)] rfl kr kr kr kr kr kr kr kr ((cq e_y8).2) kr kr<|aa<|⟨_,h,lo []⟩) fun h=>aC<|⟨_,h,lo []⟩)<|aV [] []<|ah 3 16 h (fun h=>ag false 1 18 [.i p2] h (fun _=>dz) fun r3 h=>ah 2 20 h (fun h=>aR 2 149 5 am h fun y4 h _=>ag false 2 26 [.i y4.c8] h (fun _=>dz) fun r5 h=>aa<|⟨_,_,_,_,h,lo [(458753,655360)]⟩) fun h=>aa<|⟨_,_,_,_,h,lo [(458753,655360)]⟩) fun h=>aa<|⟨_,_,_,_,h,lo [(458753,655360)]⟩
theorem Jz {u p0 p1 p2 r} (h:rm u p0 p1 p2=some r):al Tryz.prog 228 [cO (ay p0),V.i p1,V.i p2] (V.w [0,0,0,0,0,0,176,0,5,0,149,0,118] (tM r)) []:=by
 unfold rm at h
 refine b8 Tryz.f228 true ?_
 refine ae<|aK false 1 14 [.agg ((ay p0).map .t)] h (fun _=>jy) fun r1 h=>Wp.seq<|aL (jS []) (bR [(2,.frz),(3,.obj 3),(16,.obj 3),(17,.frz),(18,.frz),(19,.frz),(20,.frz),(21,.frz)]) kr kr<|ag false 4 20 [.agg ((ay p0).map .t)] h (fun _=>Fo) fun r2 h=>ag false 0 21 [.t (.sl 5 (p0.aO.map am)),.i p2,.i r2] h (fun _=>Fq) fun r3 h=>aa<|wL (fun p2 r3 p0 r1 x16=>qG u p2 r3 p0 r1 x16=some r) (fun p2 r3 p0 r1 x16=>⟨[(2,.i p2),(3,.obj 3 0),(6,.obj 6 0),(7,.obj 7 0),(8,.i r3)],[(3,((ay p0).map .t)),(6,[.b false,.i 0,.i 0,.i 0,.i 0,.i 0,.nil,.i 0,.nil,.i 0,.nil,.i 0,.nil]),(7,[.b r1.fM,.i r1.bf,.i r1.be,.i r1.av.aP,.i r1.av.aS,.i r1.av.aY,.own 459270,.i r1.a7.aT,.own 459272,.i r1.aJ,.own 459274,.i r1.a8,.own 459276])],[(459270,.live 176 2 (r1.av.aD.map aH)),(459272,.live 5 1 (r1.a7.bg.map (aw .u8))),(459274,.live 149 5 (r1.aO.map am)),(459276,.live 118 3 (x16.map aI))]⟩) (fun p2 r3 p0 r1 x16 h=>aK false 4 58 [.t (.sl 5 (p0.aO.map am)),.i p2,.i r3] h (fun _=>Ds) fun r17 h=>ae<|by cases h;exact Wp.ret aj)<|aE<|ag false 1 23 [.i r3] h (fun _=>NL) fun r4 h=>ar 0 3 (aw .i64) r4<|aa<|Wp.block<|PN (fun eN p1 p2 r3 r4 x7 p0 r1 x8=>gk u eN p1 p2 r3 r4 x7 p0 r1 x8=some r) (fun p1 p2 r3 r4 x7 p0 r1 x8=>⟨[(1,.i p1),(2,.i p2),(3,.obj 3 0),(6,.obj 6 0),(7,.obj 7 0),(8,.i r3),(23,.own 1507329),(24,.i ((r4.length:Int))),(25,.i x7)],[(3,((ay p0).map .t)),(6,[.b false,.i 0,.i 0,.i 0,.i 0,.i 0,.nil,.i 0,.nil,.i 0,.nil,.i 0,.nil]),(7,[.b r1.fM,.i r1.bf,.i r1.be,.i r1.av.aP,.i r1.av.aS,.i r1.av.aY,.own 459270,.i r1.a7.aT,.own 459272,.i r1.aJ,.own 459274,.i r1.a8,.own 459276])],[(459270,.live 176 2 (r1.av.aD.map aH)),(459272,.live 5 1 (r1.a7.bg.map (aw .u8))),(459274,.live 149 5 (r1.aO.map am)),(459276,.live 118 3 (x8.map aI)),(1507329,.live 3 1 (r4.map (aw .i64)))]⟩) (fun eN p1 p2 r3 r4 x7 p0 r1 x8 h=>?_) h (Le.trans (jw 7 12 459276 118 3 [.b r1.fM,.i r1.bf,.i r1.be,.i r1.av.aP,.i r1.av.aS,.i r1.av.aY,.own 917510,.i r1.a7.aT,.own 917512,.i r1.aJ,.own 917514,.i r1.a8,.nil] kr kr kr) (lo [(1507329,1507328),(459270,917510),(459272,917512),(459274,917514)])) (fun _ _ _ _ _ _ _ _  h=>nomatch h)
 rw [gk] at h
 exact ae<|Wp.seq<|ak h (fun h=>aC<|PM (fun p1 p2 r3 r4 x7 p0 r1 x15=>kA u (fun z0 z1 z2 z3 z4 z5 z6 z7=>gk u eN z0 z1 z2 z3 z4 z5 z6 z7) p1 p2 r3 r4 x7 p0 r1 x15=some r) (fun p1 p2 r3 r4 x7 p0 r1 x15=>⟨[(1,.i p1),(2,.i p2),(3,.obj 3 0),(6,.obj 6 0),(7,.obj 7 0),(8,.i r3),(23,.own 1507329),(24,.i ((r4.length:Int))),(25,.i x7)],[(3,((ay p0).map .t)),(6,[.b false,.i 0,.i 0,.i 0,.i 0,.i 0,.nil,.i 0,.nil,.i 0,.nil,.i 0,.nil]),(7,[.b r1.fM,.i r1.bf,.i r1.be,.i r1.av.aP,.i r1.av.aS,.i r1.av.aY,.own 459270,.i r1.a7.aT,.own 459272,.i r1.aJ,.own 459274,.i r1.a8,.own 459276])],[(459270,.live 176 2 (r1.av.aD.map aH)),(459272,.live 5 1 (r1.a7.bg.map (aw .u8))),(459274,.live 149 5 (r1.aO.map am)),(459276,.live 118 3 (x15.map aI)),(1507329,.live 3 1 (r4.map (aw .i64)))]⟩) (fun p1 p2 r3 r4 x7 p0 r1 x15 h=>aV [] []<|aa<|⟨_,_,_,_,_,_,_,_,h,lo []⟩)<|Wp.block<|aE<|cI 0 3 1 1507329 3 (aw .i64) h fun y11 h e_y11=>iO 0 1 1 1507329 0 3 false (aw .i64) ((cq e_y11).2)<|aa<|aK false 5 35 [.agg ((ai p0.av).map .t),.agg [.i p0.a7.aT,.s p0.a7.bg],.i y11] h (fun _=>EB) fun r12 h=>ae<|ak h (fun h=>aL (jS []) (bR [(1,.frz),(2,.frz),(3,.obj 3),(7,.obj 7),(10,.frz),(11,.own 35),(39,.obj 7),(40,.own 7),(41,.frz),(42,.frz),(43,.obj 3),(44,.obj 3),(45,.frz),(46,.frz),(47,.own 35),(48,.own 48),(49,.own 49),(50,.own 50),(51,.own 51),(52,.obj 7)]) kr kr<|ag false 9 48 [.i p0.av.aP,.i y11,.own 2293760] h (fun _=>EC) fun r13 h=>ag false 0 49 [.i p1,.i p2,.agg [.i r13.bA,.i r13.aP,.i r13.av.aP,.i r13.av.aS,.i r13.av.aY,.t (.sl 2 (r13.av.aD.map aH)),.i r13.bx,.i r13.bL,.i r13.fI,.own 3145737]] h (fun _=>xR) fun r14 h=>cg (ys:=[r14]) 1 51 118 3 459276 aI h fun h=>ab.all kr<|bY<|aN<|⟨_,_,_,_,_,_,_,_,h,lo [(459276,3342336)]⟩) fun h=>Wp.skip<|bY<|aN<|⟨_,_,_,_,_,_,_,_,h,lo []⟩) fun h=>Wp.exit<|aZ<|aZ<|de<|aN<|⟨_,_,_,_,_,h,lo []⟩
theorem HC {u p0 p1 p2 p3 r} (h:pR u p0 p1 p2 p3=some r):al Tryz.prog 182 [cO (ay p0),V.i p1,V.i p2,cO (dA p3)] (V.w [0,0,0,0,0,0,176,0,5,0,149,0,118] (tM r)) []:=by
 unfold pR at h
 refine b8 Tryz.f182 true ?_
 exact ae<|aK false 1 12 [.agg ((ay p0).map .t)] h (fun _=>jy) fun r1 h=>Wp.seq<|ae<|ak h (fun h=>ae<|by cases h;exact Wp.ret aj) fun h=>aC<|aK false 7 25 [.t (.sl 5 (p0.aO.map am)),.i p2,.i p3.bx,.i p3.bL] h (fun _=>TM) fun r2 h=>ae<|ZI (fun p1 p2 x4 x5 x6 x7 x8 x9 x10 x11 x12 x13 x14 x15 x16 x17 x18 x19 x20 x21 x22=>mJ u p1 p2 x4 x5 x6 x7 x8 x9 x10 x11 x12 x13 x14 x15 x16 x17 x18 x19 x20 x21 x22=some r) (fun p1 p2 x4 x5 x6 x7 x8 x9 x10 x11 x12 x13 x14 x15 x16 x17 x18 x19 x20 x21 x22=>⟨[(1,.i p1),(2,.i p2),(8,.obj 8 0),(9,.obj 9 0),(10,.obj 10 0)],[(8,[.b false,.i 0,.i 0,.i 0,.i 0,.i 0,.nil,.i 0,.nil,.i 0,.nil,.i 0,.nil]),(9,[.b x4,.i x5,.i x6,.i x7,.i x8,.i x9,.own 590342,.i x11,.own 590344,.i x13,.own 590346,.i x15,.own 590348]),(10,[.i x17,.i x18,.i x19,.i x20,.i x21,.t (.sl 2 (x22.map aH)),.i 0,.i 0,.i 0,.nil])],[(590342,.live 176 2 (x10.map aH)),(590344,.live 5 1 (x12.map (aw .u8))),(590346,.live 149 5 (x14.map am)),(590348,.live 118 3 (x16.map aI))]⟩) (fun p1 p2 x4 x5 x6 x7 x8 x9 x10 x11 x12 x13 x14 x15 x16 x17 x18 x19 x20 x21 x22 h=>aK false 3 60 [.i p1,.i p2,.agg [.i x17,.i x18,.i x19,.i x20,.i x21,.t (.sl 2 (x22.map aH)),.i 0,.i 0,.i 0,.nil]] h (fun _=>xR) fun r23 h=>ae<|by cases h;exact Wp.ret aj)<|Wp.block<|ae<|ak h (fun h=>aV [] []<|ab.all kr<|bY<|aN<|⟨_,_,_,_,_,_,_,_,_,_,_,_,_,_,_,_,_,_,_,_,_,h,Le.trans (jw 9 12 590348 118 3 [.b r1.fM,.i r1.bf,.i r1.be,.i r1.av.aP,.i r1.av.aS,.i r1.av.aY,.own 786438,.i r1.a7.aT,.own 786440,.i r1.aJ,.own 1638400,.i r1.a8,.nil] kr kr kr) (Le.trans (Le.nilO 10 5 2 [.i 4,.i 0,.i 0,.i 0,.i 0,.nil,.i 0,.i 0,.i 0,.nil] kr kr) (lo [(590342,786438),(590344,786440),(590346,1638400)]))⟩) fun h=>ae<|pm ⟨[(1,.i p1),(2,.i p2),(4,.obj 4 0),(8,.obj 8 0),(9,.obj 9 0),(10,.obj 10 0),(47,.b (p3.aP != p0.av.aP))],[(4,((ay p0).map .t)),(8,[.b false,.i 0,.i 0,.i 0,.i 0,.i 0,.nil,.i 0,.nil,.i 0,.nil,.i 0,.nil]),(9,[.b r1.fM,.i r1.bf,.i r1.be,.i r1.av.aP,.i r1.av.aS,.i r1.av.aY,.own 786438,.i r1.a7.aT,.own 786440,.i r1.aJ,.own 1638400,.i r1.a8,.nil]),(10,[.i 4,.i p0.av.aP,.i 0,.i 0,.i 0,.nil,.i 0,.i 0,.i 0,.nil])],[(786438,.live 176 2 (r1.av.aD.map aH)),(786440,.live 5 1 (r1.a7.bg.map (aw .u8))),(1638400,.live 149 5 (r2.map am))]⟩<|ak h (fun h=>aV [] []<|ab.all kr<|bY<|aN<|⟨_,_,_,_,_,_,_,_,_,_,_,_,_,_,_,_,_,_,_,_,_,h,Le.trans (jw 9 12 590348 118 3 [.b r1.fM,.i r1.bf,.i r1.be,.i r1.av.aP,.i r1.av.aS,.i r1.av.aY,.own 786438,.i r1.a7.aT,.own 786440,.i r1.aJ,.own 1638400,.i r1.a8,.nil] kr kr kr) (lo [(590342,786438),(590344,786440),(590346,1638400)])⟩) fun h=>aK false 4 36 [.agg [.b r1.fM,.i r1.bf,.i r1.be,.i r1.av.aP,.i r1.av.aS,.i r1.av.aY,.own 786438,.i r1.a7.aT,.own 786440,.i r1.aJ,.own 1638400,.i r1.a8],.i p1,.i p2] h (fun _=>Jz) fun r3 h=>aE<|ar 2 118 aI r3.sW<|aa<|ak h (fun h=>ae<|by cases h;exact Wp.ret aj) fun h=>Wp.skip<|bY<|aN<|⟨_,_,_,_,_,_,_,_,_,_,_,_,_,_,_,_,_,_,_,_,_,h,Le.trans (Le.nilO 10 5 2 [.i 4,.i p0.av.aP,.i 0,.i 0,.i 0,.nil,.i 0,.i 0,.i 0,.nil] kr kr) (lo [(590342,2359302),(590344,2359304),(590346,2359306),(590348,2359308)])⟩
theorem Ly {u p0 r} (h:tn u p0=some r):al Tryz.prog 298 [cO (ai p0)] (V.w [0,5] (cJ r)) []:=by
 unfold tn at h
 refine b8 Tryz.f298 true ?_
 refine ae<|Wp.seq<|aK false 1 4 [.agg ((ai p0).map .t)] h (fun _=>n6) fun r1 h=>ak h (fun h=>ae<|by cases h;exact Wp.ret aj) fun h=>aC<|aE<|bc 2 kr ?_
 obtain ⟨_,e_2,h⟩:=bind_some h
 obtain ⟨_,e_3,h⟩:=bind_some h
 exact nQ (aw .u8) (0:Int) 9 5 1 1 p0.aY p0.aY rfl rfl kr kr kr kr kr kr (bj e_2) (of_decide_eq_true (bj e_3)) kr<|aa<|by cases h;exact Wp.ret aj
theorem NM {u p0 p1 p2 r} (h:wq u p0 p1 p2=some r):al Tryz.prog 306 [.one (.s p0),cO (aH p1),V.i p2] (V.i r) []:=by
 unfold wq at h
 refine b8 Tryz.f306 false ?_
 refine ae<|Wp.seq<|aK false 1 9 [.i p2,.i 1,.i 6] h (fun _=>bp) fun r1 h=>ak h (fun h=>ae<|by cases h;exact Wp.ret aj) fun h=>aC<|io (zy u=some r) ⟨[(6,.i 0)],[],[]⟩ (fun h=>ae<|by cases h;exact Wp.ret aj)<|ae<|Wp.block<|GI (fun kH p0 p2 x3 p1=>la u kH p0 p2 x3 p1=some r) (fun p0 p2 x3 p1=>⟨[(0,.s p0),(2,.i p2),(4,.obj 4 0),(6,.i 0),(7,.i x3)],[(4,[.i p1.fW,.i p1.fS])],[]⟩) (fun kH p0 p2 x3 p1 h=>?_) h (lo []) (fun _ _ _ _  h=>nomatch h)
 rw [la] at h
 refine Wp.seq<|aE<|ar 4 5 (aw .u8) p0<|aa<|ak h (fun h=>?_) (fun h=>?_)
 ·refine aC<|Wp.seq<|Wp.block<|Wp.seq<|aL (jS []) (bR [(0,.frz),(2,.frz),(4,.obj 4),(7,.frz),(19,.frz),(20,.frz),(21,.frz),(22,.frz),(23,.frz),(24,.frz),(25,.frz),(26,.frz)]) kr kr<|bc 5 kr ?_
  obtain ⟨_,e_5,h⟩:=bind_some h
  exact eT (e:=5) (ax:=.s p0) (alo:=(some (.i x3))) (ahi:=(some (.i (aW .i64 x3 p2)))) (aw .u8) p0 1 x3 (aW .i64 x3 p2) rfl kr kr kr kr kr kr kr kr kr kr kr (bj e_5)<|ag false 0 25 [.t (.sl 1 (((p0.take (Int.toNat (aW .i64 x3 p2))).drop (Int.toNat x3)).map (aw .u8)))] h (fun _=>tx) fun r6 h=>aa<|ak h (fun h=>ae<|by cases h;exact Wp.ret aj) fun h=>Wp.skip<|bY<|aN<|aV [] []<|aa<|⟨_,_,_,_,h,lo []⟩
 exact Wp.exit<|aZ<|aZ<|de<|aN<|⟨h,lo []⟩
theorem NN {u p0 p1 p2 r} (h:sm u p0 p1 p2=some r):al Tryz.prog 299 [.one (.s p0),cO (ai p1),V.i p2] (V.i r) []:=by
 unfold sm at h
 refine b8 Tryz.f299 false ?_
 exact ae<|aK false 5 15 [.i p1.aS,.i p1.aY,.i p2] h (fun _=>oV) fun r1 h=>Wp.seq<|aE<|ar 3 176 aH p1.aD<|ag false 1 23 [.i p2,.i 0,.i (cy .i64 ((p1.aD.length:Int)) 1)] h (fun _=>bp) fun r2 h=>aa<|ak h (fun h=>ae<|by cases h;exact Wp.ret aj) fun h=>aC<|aE<|aR 4 176 2 aH h fun y3 h _=>ag false 2 32 [.s p0,.agg [.i y3.fW,.i y3.fS],.i r1.2] h (fun _=>NM) fun r4 h=>aa<|by cases h;exact Wp.ret aj
theorem Cw {u p0 p1 p2 r} (h:nO u p0 p1 p2=some r):Mv Tryz.prog 213 5 [.int .i64 p0.aT] (p0.bg.map (aw .u8)) [cO (ai p1),V.i p2] (Int.toNat r.1) (Int.toNat (r.2 - r.1)):=by
 unfold nO at h
 refine obw Tryz.f213 [.agg ((ai p1).map .t),.i p2] ?_ (Y3 _ _)
 refine ae<|aK false 5 15 [.i p1.aS,.i p1.aY,.i p2] h (fun _=>oV) fun r1 h=>PG [] [(24,.win 900)]<|bc 6 kr ?_
 obtain ⟨_,e_2,h⟩:=bind_some h
 exact Xu (e:=5) (e':=5) (alo:=(some (.i r1.1))) (ahi:=(some (.i (aW .i64 r1.1 r1.2)))) (aw .u8) p0.bg 58982400 r1.1 (aW .i64 r1.1 r1.2) rfl kr kr kr kr kr rfl kr kr kr kr kr kr (bj e_2)<|aa<|Wp.ret<|by cases h;exact qaC
theorem Bi {u p0 p1 p2 p3 r} (h:lc u p0 p1 p2 p3=some r):al Tryz.prog 300 [.ptr (cw [0,5] (cJ p0)),cO (ai p1),V.i p2,.one (.s p3)] (.tup []) [cw [0,5] (cJ r)]:=by
 unfold lc at h
 refine b8 Tryz.f300 false ?_
 refine ae<|Wp.seq<|aL (jS []) (bR [(0,.obj 900),(2,.frz),(3,.frz),(5,.obj 5),(8,.obj 900),(9,.obj 900),(10,.own 900),(11,.frz),(12,.frz),(13,.win 900),(14,.frz)]) kr kr<|bc 5 kr ?_
 obtain ⟨r1,e_r1,h⟩:=bind_some h
 refine Y5 0 13 58982401 [.int .i64 p0.aT] (p0.bg.map (aw .u8)) [.agg ((ai p1).map .t),.i p2] (Cw e_r1)<|bc 1 kr ?_
 obtain ⟨_,e_2,h⟩:=bind_some h
 refine VN (y:=.s p3) (e:=5) (e':=5) (aw .u8) p0.bg p3 58982401 (Int.toNat r1.1) (Int.toNat (r1.2 - r1.1)) 1 rfl rfl rfl kr kr kr kr kr (.inl rfl) kr kr kr (qaA (bj e_2)) (qaB (bj e_2))<|aa<|aL (jS []) (bR [(0,.obj 900),(2,.frz),(16,.obj 900),(17,.obj 900),(18,.obj 900),(19,.frz),(20,.frz),(21,.frz),(22,.frz),(23,.obj 900),(24,.obj 900)]) kr kr<|bc 5 kr ?_
 obtain ⟨_,e_3,h⟩:=bind_some h
 exact iN .shl (.int .i64 1) (.int .i64 p2) (.int .i64 (i7 .i64 1 p2)) rfl kr kr kr kr (B8 _ _ _ _ _ (bj e_3))<|ab.all kr<|by cases h;exact Yh
theorem JA {u p0 p1 r} (h:rn u p0 p1=some r):al Tryz.prog 279 [cO (ai p0),.one (.s p1)] (V.w [0,5] (cJ r)) []:=by
 unfold rn at h
 refine b8 Tryz.f279 true ?_
 refine ae<|aK false 1 11 [.agg ((ai p0).map .t)] h (fun _=>Ly) fun r1 h=>Wp.seq<|aK false 1 13 [.agg ((ai p0).map .t)] h (fun _=>n6) fun r2 h=>ak h (fun h=>ae<|by cases h;exact Wp.ret aj) fun h=>aC<|pn (fun x18 x19=>ws u x18 x19=some r) (fun x18 x19=>⟨[(4,.obj 4 0),(5,.obj 5 0)],[(4,[.i 0,.nil]),(5,[.i x18,.own 328193])],[(328193,.live 5 1 (x19.map (aw .u8)))]⟩) (fun x18 x19 h=>ae<|by cases h;exact Wp.ret aj)<|aE<|ar 2 176 aH p0.aD<|aa<|Wp.block<|Jl (fun eM p1 p0 x6 x7 x8=>gl u eM p1 p0 x6 x7 x8=some r) (fun p1 p0 x6 x7 x8=>⟨[(1,.s p1),(2,.obj 2 0),(4,.obj 4 0),(5,.obj 5 0),(18,.i ((p0.aD.length:Int))),(19,.i x6)],[(2,((ai p0).map .t)),(4,[.i 0,.nil]),(5,[.i x7,.own 328193])],[(328193,.live 5 1 (x8.map (aw .u8)))]⟩) (fun eM p1 p0 x6 x7 x8 h=>?_) h (lo [(328193,720897)]) (fun _ _ _ _ _  h=>nomatch h)
 rw [gl] at h
 refine ae<|Wp.seq<|ak h (fun h=>?_) (fun h=>?_)
 ·refine aC<|wL (fun p1 p0 x6 x16 x17=>kB u (fun z0 z1 z2 z3 z4=>gl u eM z0 z1 z2 z3 z4) p1 p0 x6 x16 x17=some r) (fun p1 p0 x6 x16 x17=>⟨[(1,.s p1),(2,.obj 2 0),(4,.obj 4 0),(5,.obj 5 0),(18,.i ((p0.aD.length:Int))),(19,.i x6)],[(2,((ai p0).map .t)),(4,[.i 0,.nil]),(5,[.i x16,.own 328193])],[(328193,.live 5 1 (x17.map (aw .u8)))]⟩) (fun p1 p0 x6 x16 x17 h=>aV [] []<|aa<|⟨_,_,_,_,_,h,lo []⟩)<|Wp.block<|ae<|aK false 5 28 [.i p0.aS,.i p0.aY,.i x6] h (fun _=>oV) fun r12 h=>aK false 3 34 [.s p1,.agg ((ai p0).map .t),.i x6] h (fun _=>NN) fun r13 h=>ae<|ak h (fun h=>?_) (fun h=>?_)
  ·refine aL (jS []) (bR [(1,.frz),(2,.obj 2),(5,.obj 5),(6,.frz),(8,.frz),(9,.frz),(37,.frz),(38,.frz),(39,.frz),(40,.frz),(41,.frz),(42,.frz),(43,.frz),(44,.frz)]) kr kr<|bc 7 kr ?_
   obtain ⟨_,e_14,h⟩:=bind_some h
   exact eT (e:=5) (ax:=.s p1) (alo:=(some (.i r13))) (ahi:=(some (.i (aW .i64 r13 r12.2)))) (aw .u8) p1 1 r13 (aW .i64 r13 r12.2) rfl kr kr kr kr kr kr kr kr kr kr kr (bj e_14)<|ag true 0 45 [.obj 5 0,.agg ((ai p0).map .t),.i x6,.t (.sl 1 (((p1.take (Int.toNat (aW .i64 r13 r12.2))).drop (Int.toNat r13)).map (aw .u8)))] h (fun _=>Bi) fun r15 h=>ab.all kr<|bY<|aN<|⟨_,_,_,_,_,h,lo [(328193,2950465)]⟩
  exact Wp.skip<|bY<|aN<|⟨_,_,_,_,_,h,lo []⟩
 exact Wp.exit<|aZ<|aZ<|de<|aN<|⟨_,_,h,lo []⟩
theorem Sa {u p0 p1 r} (h:A6 u p0 p1=some r):al Tryz.prog 301 [cO (ai p0),.one (.s p1)] (V.b r) []:=by
 unfold A6 at h
 refine b8 Tryz.f301 false ?_
 exact ae<|Wp.seq<|aL (jS []) (bR [(1,.frz),(2,.obj 2),(5,.frz),(6,.frz),(7,.obj 2),(8,.frz),(9,.frz),(10,.frz),(11,.frz),(12,.obj 2),(13,.frz),(14,.own 14),(15,.obj 2),(16,.frz),(18,.frz)]) kr kr<|ar 1 5 (aw .u8) p1<|ah 4 10 h (fun h=>ag false 3 14 [.s p1,.i p0.aS] h (fun _=>Fj) fun r1 h=>eY 2 17 [.own 917504,.t (.sl 2 (p0.aD.map aH))] h (fun _=>lK) fun r2 h=>aa<|by cases h;exact Wp.ret aj) fun h=>aa<|by cases h;exact Wp.ret aj
theorem JB {u p0 p1 r} (h:ro u p0 p1=some r):al Tryz.prog 280 [cO (aB p0),cO (ai p1)] (V.b r) []:=by
 unfold ro at h
 refine b8 Tryz.f280 false ?_
 exact ae<|aK false 1 9 [.agg ((aB p0).map .t)] h (fun _=>zK) fun r1 h=>aE<|ah 5 16 h (fun h=>eY 2 19 [.agg ((ai p1).map .t),.own 590848] h (fun _=>Sa) fun r2 h=>aa<|by cases h;exact Wp.ret aj) fun h=>aa<|by cases h;exact Wp.ret aj
theorem NO {u p0 p1 p2 r} (h:wt u p0 p1 p2=some r):al Tryz.prog 230 [cO (ay p0),cO (aB p1),cO (ai p2)] (V.w [0,0,0,0,0,0,176,0,5,0,149,0] (ay r)) []:=by
 unfold wt at h
 refine b8 Tryz.f230 true ?_
 exact ae<|aK false 1 11 [.agg ((ay p0).map .t)] h (fun _=>jy) fun r1 h=>Zt (fun r1 x9 x10 x11 x12 x13 x14 x15 x16=>lf u r1 x9 x10 x11 x12 x13 x14 x15 x16=some r) (fun r1 x9 x10 x11 x12 x13 x14 x15 x16=>⟨[(6,.obj 6 0),(7,.obj 7 0)],[(6,[.b false,.i 0,.i 0,.i 0,.i 0,.i 0,.nil,.i 0,.nil,.i 0,.nil,.i 0]),(7,[.b r1.fM,.i r1.bf,.i r1.be,.i x9,.i x10,.i x11,.own 459270,.i x13,.own 459272,.i x15,.own 459274,.i x16])],[(459270,.live 176 2 (x12.map aH)),(459272,.live 5 1 (x14.map (aw .u8))),(459274,.live 149 5 (r1.aO.map am))]⟩) (fun r1 x9 x10 x11 x12 x13 x14 x15 x16 h=>ae<|by cases h;exact Wp.ret aj)<|Wp.block<|ae<|ak h (fun h=>aK false 3 19 [.agg ((ai p2).map .t),.agg ((ai p0.av).map .t)] h (fun _=>zJ) fun r2 h=>ak h (fun h=>aV [] []<|ab.all kr<|bY<|aN<|⟨_,_,_,_,_,_,_,_,_,h,lo [(459270,720902),(459272,720904),(459274,720906)]⟩) fun h=>Wp.skip<|bY<|aN<|⟨_,_,_,_,_,_,_,_,_,h,lo [(459270,720902),(459272,720904),(459274,720906)]⟩) fun h=>m2 (fun x4 p1 p2 r1=>uj u x4 p1 p2 r1=some r) (fun x4 p1 p2 r1=>⟨[(4,.obj 4 0),(5,.obj 5 0),(6,.obj 6 0),(7,.obj 7 0),(25,.b x4)],[(4,((aB p1).map .t)),(5,((ai p2).map .t)),(6,[.b false,.i 0,.i 0,.i 0,.i 0,.i 0,.nil,.i 0,.nil,.i 0,.nil,.i 0]),(7,[.b r1.fM,.i r1.bf,.i r1.be,.i r1.av.aP,.i r1.av.aS,.i r1.av.aY,.own 459270,.i r1.a7.aT,.own 459272,.i r1.aJ,.own 459274,.i r1.a8])],[(459270,.live 176 2 (r1.av.aD.map aH)),(459272,.live 5 1 (r1.a7.bg.map (aw .u8))),(459274,.live 149 5 (r1.aO.map am))]⟩) (fun x4 p1 p2 r1 h=>ak h (fun h=>aK false 1 35 [.agg ((aB p1).map .t)] h (fun _=>zK) fun r5 h=>Wp.seq<|aL (jS []) (bR [(5,.obj 5),(7,.obj 7),(9,.own 35),(38,.frz),(39,.own 39),(40,.frz),(41,.own 35),(42,.own 42),(43,.obj 7),(44,.obj 7),(45,.obj 7)]) kr kr<|ag false 1 39 [.agg ((ai p2).map .t)] h (fun _=>Ez) fun r6 h=>ag false 2 42 [.agg ((ai p2).map .t),.own 2294784] h (fun _=>JA) fun r7 h=>aa<|aK false 2 48 [.agg ((aB p1).map .t),.agg ((ai p2).map .t)] h (fun _=>JB) fun r8 h=>ak h (fun h=>aV [] []<|ab.all kr<|bY<|aN<|⟨_,_,_,_,_,_,_,_,_,h,lo [(459270,2555907),(459272,2752513)]⟩) fun h=>Wp.skip<|bY<|aN<|⟨_,_,_,_,_,_,_,_,_,h,lo [(459270,2555907),(459272,2752513)]⟩) fun h=>Wp.skip<|bY<|aN<|⟨_,_,_,_,_,_,_,_,_,h,lo []⟩)<|aV [] []<|ag false 1 27 [.agg ((ai p2).map .t)] h (fun _=>n6) fun r3 h=>ah 1 28 h (fun h=>aa<|⟨_,_,_,_,h,lo [(459270,720902),(459272,720904),(459274,720906)]⟩) fun h=>aa<|⟨_,_,_,_,h,lo [(459270,720902),(459272,720904),(459274,720906)]⟩
theorem Lz {u p0 p1 p2 p3 r} (h:tp u p0 p1 p2 p3=some r):al Tryz.prog 281 [cO (ai p0),cO (cJ p1),V.i p2,.one (.s p3)] (.tup [V.w [0,5] (cJ r.1),V.b r.2]) []:=by
 unfold tp at h
 refine b8 Tryz.f281 true ?_
 exact ae<|aK false 1 12 [.agg [.i p1.aT,.s p1.bg]] h (fun _=>Ca) fun r1 h=>Wp.seq<|wL (fun p2 p3 x7 r1 p0=>lT u p2 p3 x7 r1 p0=some r) (fun p2 p3 x7 r1 p0=>⟨[(2,.i p2),(3,.s p3),(4,.obj 4 0),(8,.obj 8 0),(9,.b false),(10,.obj 10 0),(41,.b x7)],[(4,((ai p0).map .t)),(8,[.i 0,.nil]),(10,[.i r1.aT,.own 655873])],[(655873,.live 5 1 (r1.bg.map (aw .u8)))]⟩) (fun p2 p3 x7 r1 p0 h=>ak h (fun h=>ae<|by cases h;exact Wp.ret aj) fun h=>aC<|aK true 3 46 [.obj 10 0,.agg ((ai p0).map .t),.i p2,.s p3] h (fun _=>Bi) fun r8 h=>ae<|by cases h;exact Wp.ret aj)<|aL (jS []) (bR [(2,.frz),(3,.frz),(4,.obj 4),(5,.obj 5),(13,.frz),(14,.frz),(15,.frz),(16,.frz),(17,.frz),(18,.frz),(19,.obj 4),(20,.frz),(21,.frz),(22,.frz),(23,.frz),(25,.frz),(26,.frz),(27,.obj 5),(28,.frz),(29,.frz),(31,.frz),(32,.frz),(33,.frz),(34,.frz),(35,.obj 4),(36,.frz),(37,.frz),(38,.frz),(39,.frz)]) kr kr<|ag false 2 15 [.agg ((ai p0).map .t),.agg [.i p1.aT,.s p1.bg]] h (fun _=>zI) fun r2 h=>ah 2 17 h (fun h=>aa<|⟨_,_,_,_,_,h,lo [(655873,786433)]⟩) fun h=>ar 3 176 aH p0.aD<|ag false 1 23 [.i p2,.i 0,.i (cy .i64 ((p0.aD.length:Int)) 1)] h (fun _=>bp) fun r3 h=>ah 3 26 h (fun h=>aa<|⟨_,_,_,_,_,h,lo [(655873,786433)]⟩) fun h=>ag false 3 30 [.i p1.aT,.i p2] h (fun _=>lJ) fun r4 h=>ah 2 32 h (fun h=>aa<|⟨_,_,_,_,_,h,lo [(655873,786433)]⟩) fun h=>ag false 1 34 [.s p3] h (fun _=>tx) fun r5 h=>aR 3 176 2 aH h fun y6 h _=>aa<|⟨_,_,_,_,_,h,lo [(655873,786433)]⟩
theorem NP {u p0 p1 p2 r} (h:wu u p0 p1 p2=some r):al Tryz.prog 282 [cO (ay p0),V.i p1,V.i p2] (V.w [0,0,0,0,0,0,176,0,5,0,149,0,118] (tM r)) []:=by
 unfold wu at h
 refine b8 Tryz.f282 true ?_
 refine ae<|aK false 1 13 [.agg ((ay p0).map .t)] h (fun _=>jy) fun r1 h=>aK false 5 21 [.agg ((ai p0.av).map .t),.agg [.i p0.a7.aT,.s p0.a7.bg],.i p2] h (fun _=>EB) fun r2 h=>Wp.seq<|ae<|ak h (fun h=>ae<|by cases h;exact Wp.ret aj) fun h=>aC<|kh (fun r1 x23 x24=>zA u r1 x23 x24=some r) (fun r1 x23 x24=>⟨[(6,.obj 6 0),(7,.obj 7 0)],[(6,[.b false,.i 0,.i 0,.i 0,.i 0,.i 0,.nil,.i 0,.nil,.i 0,.nil,.i 0,.nil]),(7,[.b r1.fM,.i r1.bf,.i r1.be,.i r1.av.aP,.i r1.av.aS,.i r1.av.aY,.own 459270,.i r1.a7.aT,.own 459272,.i r1.aJ,.own 459274,.i r1.a8,.own 459276])],[(459270,.live 176 2 (r1.av.aD.map aH)),(459272,.live 5 1 (r1.a7.bg.map (aw .u8))),(459274,.live 149 5 (x23.map am)),(459276,.live 118 3 (x24.map aI))]⟩) (fun r1 x23 x24 h=>ae<|by cases h;exact Wp.ret aj)<|aE<|ar 2 149 am p0.aO<|aa<|Wp.block<|PN (fun gq p1 p2 r2 p0 x6 r1 x7 x8=>je u gq p1 p2 r2 p0 x6 r1 x7 x8=some r) (fun p1 p2 r2 p0 x6 r1 x7 x8=>⟨[(1,.i p1),(2,.i p2),(3,.obj 3 0),(6,.obj 6 0),(7,.obj 7 0),(8,.s r2.1),(28,.t (.sl 5 (p0.aO.map am))),(29,.i ((p0.aO.length:Int))),(30,.i x6)],[(3,((ay p0).map .t)),(6,[.b false,.i 0,.i 0,.i 0,.i 0,.i 0,.nil,.i 0,.nil,.i 0,.nil,.i 0,.nil]),(7,[.b r1.fM,.i r1.bf,.i r1.be,.i r1.av.aP,.i r1.av.aS,.i r1.av.aY,.own 459270,.i r1.a7.aT,.own 459272,.i r1.aJ,.own 459274,.i r1.a8,.own 459276])],[(459270,.live 176 2 (r1.av.aD.map aH)),(459272,.live 5 1 (r1.a7.bg.map (aw .u8))),(459274,.live 149 5 (x7.map am)),(459276,.live 118 3 (x8.map aI))]⟩) (fun gq p1 p2 r2 p0 x6 r1 x7 x8 h=>?_) h (Le.trans (Le.frz 8 1376256 5 1 (r2.1.map (aw .u8)) kr kr kr) (Le.trans (jw 7 12 459276 118 3 [.b r1.fM,.i r1.bf,.i r1.be,.i r1.av.aP,.i r1.av.aS,.i r1.av.aY,.own 851974,.i r1.a7.aT,.own 851976,.i r1.aJ,.own 851978,.i r1.a8,.nil] kr kr kr) (lo [(459270,851974),(459272,851976),(459274,851978)]))) (fun _ _ _ _ _ _ _ _  h=>nomatch h)
 rw [je] at h
 refine ae<|Wp.seq<|ak h (fun h=>?_) (fun h=>?_)
 ·refine aC<|PM (fun p1 p2 r2 p0 x6 r1 x21 x22=>nq u (fun z0 z1 z2 z3 z4 z5 z6 z7=>je u gq z0 z1 z2 z3 z4 z5 z6 z7) p1 p2 r2 p0 x6 r1 x21 x22=some r) (fun p1 p2 r2 p0 x6 r1 x21 x22=>⟨[(1,.i p1),(2,.i p2),(3,.obj 3 0),(6,.obj 6 0),(7,.obj 7 0),(8,.s r2.1),(28,.t (.sl 5 (p0.aO.map am))),(29,.i ((p0.aO.length:Int))),(30,.i x6)],[(3,((ay p0).map .t)),(6,[.b false,.i 0,.i 0,.i 0,.i 0,.i 0,.nil,.i 0,.nil,.i 0,.nil,.i 0,.nil]),(7,[.b r1.fM,.i r1.bf,.i r1.be,.i r1.av.aP,.i r1.av.aS,.i r1.av.aY,.own 459270,.i r1.a7.aT,.own 459272,.i r1.aJ,.own 459274,.i r1.a8,.own 459276])],[(459270,.live 176 2 (r1.av.aD.map aH)),(459272,.live 5 1 (r1.a7.bg.map (aw .u8))),(459274,.live 149 5 (x21.map am)),(459276,.live 118 3 (x22.map aI))]⟩) (fun p1 p2 r2 p0 x6 r1 x21 x22 h=>aV [] []<|aa<|⟨_,_,_,_,_,_,_,_,h,lo []⟩)<|Wp.block<|aE<|aR 0 149 5 am h fun y12 h _=>aa<|Wp.seq<|aL (jS []) (bR [(2,.frz),(3,.obj 3),(7,.obj 7),(11,.obj 11),(34,.obj 7),(35,.obj 7),(36,.own 7),(37,.obj 11),(38,.frz),(39,.frz),(40,.frz),(41,.frz),(42,.frz)]) kr kr<|ag false 6 40 [.agg ((ay p0).map .t)] h (fun _=>Fo) fun r13 h=>eY 0 41 [.own 459274,.i y12.fd,.i r13] h (fun _=>Fq) fun r14 h=>ag false 1 43 [.i r14,.i p2] h (fun _=>lJ) fun r15 h=>aa<|ak h (fun h=>?_) (fun h=>?_)
  ·refine Wp.seq<|aL (jS []) (bR [(1,.frz),(2,.frz),(3,.obj 3),(7,.obj 7),(8,.frz),(11,.obj 11),(44,.obj 7),(45,.own 7),(46,.frz),(47,.obj 11),(48,.frz),(49,.obj 3),(50,.obj 3),(51,.frz),(52,.frz),(53,.frz),(54,.own 54),(55,.own 55),(56,.own 56),(57,.own 57),(58,.obj 7)]) kr kr<|ag false 10 54 [.i p0.av.aP,.i p2,.s r2.1] h (fun _=>EC) fun r16 h=>ag false 0 55 [.i p1,.i y12.fd,.agg [.i r16.bA,.i r16.aP,.i r16.av.aP,.i r16.av.aS,.i r16.av.aY,.t (.sl 2 (r16.av.aD.map aH)),.i r16.bx,.i r16.bL,.i r16.fI,.own 3538953]] h (fun _=>xR) fun r17 h=>cg (ys:=[r17]) 1 57 118 3 459276 aI h fun h=>aa<|aL (jS []) (bR [(2,.frz),(7,.obj 7),(11,.obj 11),(59,.obj 7),(60,.obj 7),(61,.own 7),(62,.obj 11),(63,.frz),(64,.frz),(65,.frz),(66,.own 66),(67,.obj 7),(68,.obj 7)]) kr kr<|bc 6 kr ?_
   obtain ⟨_,e_19,h⟩:=bind_some h
   exact iN .shl (.int .i64 1) (.int .i64 p2) (.int .i64 (i7 .i64 1 p2)) rfl kr kr kr kr (B8 _ _ _ _ _ (bj e_19))<|ag false 0 66 [.own 459274,.i y12.fd,.i (i7 .i64 1 p2)] h (fun _=>Ds) fun r20 h=>ab.all kr<|bY<|aN<|⟨_,_,_,_,_,_,_,_,h,lo [(459274,4325376),(459276,3735552)]⟩
  exact Wp.skip<|bY<|aN<|⟨_,_,_,_,_,_,_,_,h,lo []⟩
 exact Wp.exit<|aZ<|aZ<|de<|aN<|⟨_,_,_,h,lo []⟩
theorem LA {u p0 p1 p2 r} (h:tq u p0 p1 p2=some r):al Tryz.prog 231 [cO (ay p0),V.i p1,cO (dA p2)] (V.w [0,0,0,0,0,0,176,0,5,0,149,0,118] (tM r)) []:=by
 unfold tq at h
 refine b8 Tryz.f231 true ?_
 exact ae<|aK false 1 11 [.agg ((ay p0).map .t)] h (fun _=>jy) fun r1 h=>Wp.seq<|wL (fun p1 x2 p0 p2 r1=>sn u p1 x2 p0 p2 r1=some r) (fun p1 x2 p0 p2 r1=>⟨[(1,.i p1),(3,.obj 3 0),(5,.obj 5 0),(6,.obj 6 0),(7,.obj 7 0),(23,.b x2)],[(3,((ay p0).map .t)),(5,((dA p2).map .t)),(6,[.b false,.i 0,.i 0,.i 0,.i 0,.i 0,.nil,.i 0,.nil,.i 0,.nil,.i 0,.nil]),(7,[.b r1.fM,.i r1.bf,.i r1.be,.i r1.av.aP,.i r1.av.aS,.i r1.av.aY,.own 459270,.i r1.a7.aT,.own 459272,.i r1.aJ,.own 459274,.i r1.a8,.nil])],[(459270,.live 176 2 (r1.av.aD.map aH)),(459272,.live 5 1 (r1.a7.bg.map (aw .u8))),(459274,.live 149 5 (r1.aO.map am))]⟩) (fun p1 x2 p0 p2 r1 h=>ak h (fun h=>ae<|ae<|by cases h;exact Wp.ret aj) fun h=>aC<|Wp.seq<|aK false 5 36 [.i p0.a7.aT,.i p2.fI] h (fun _=>lJ) fun r3 h=>ak h (fun h=>ae<|by cases h;exact Wp.ret aj) fun h=>aC<|aK false 8 47 [.agg ((ai p0.av).map .t),.agg [.i p0.a7.aT,.s p0.a7.bg],.i p2.fI,.s p2.fB] h (fun _=>Lz) fun r4 h=>Wp.seq<|ae<|ak h (fun h=>ae<|ae<|by cases h;exact Wp.ret aj) fun h=>aC<|ae<|aK false 5 67 [.agg [.b r1.fM,.i r1.bf,.i r1.be,.i r1.av.aP,.i r1.av.aS,.i r1.av.aY,.own 459270,.i r4.1.aT,.own 3080193,.i r1.aJ,.own 459274,.i r1.a8],.i p1,.i p2.fI] h (fun _=>NP) fun r5 h=>by cases h;exact Wp.ret aj)<|aV [] []<|ah 4 16 h (fun h=>aa<|⟨_,_,_,_,_,h,lo [(459270,720902),(459272,720904),(459274,720906)]⟩) fun h=>aa<|⟨_,_,_,_,_,h,lo [(459270,720902),(459272,720904),(459274,720906)]⟩
theorem LB {u p0 p1 p2 p3 r} (h:tr u p0 p1 p2 p3=some r):al Tryz.prog 183 [cO (ay p0),V.i p1,cO (aB p2),cO (dA p3)] (V.w [0,0,0,0,0,0,176,0,5,0,149,0,118] (tM r)) []:=by
 unfold tr at h
 refine b8 Tryz.f183 true ?_
 exact ae<|aK false 1 11 [.agg ((ay p0).map .t)] h (fun _=>jy) fun r1 h=>ae<|pn (fun r1 x4=>so u r1 x4=some r) (fun r1 x4=>⟨[(8,.obj 8 0),(9,.obj 9 0)],[(8,[.b false,.i 0,.i 0,.i 0,.i 0,.i 0,.nil,.i 0,.nil,.i 0,.nil,.i 0,.nil]),(9,[.b r1.fM,.i r1.bf,.i 0,.i r1.av.aP,.i r1.av.aS,.i r1.av.aY,.own 590342,.i r1.a7.aT,.own 590344,.i r1.aJ,.own 590346,.i x4])],[(590342,.live 176 2 (r1.av.aD.map aH)),(590344,.live 5 1 (r1.a7.bg.map (aw .u8))),(590346,.live 149 5 (r1.aO.map am))]⟩) (fun r1 x4 h=>ae<|by cases h;exact Wp.ret aj)<|ae<|Wp.block<|ae<|ak h (fun h=>aK false 4 21 [.agg [.b r1.fM,.i r1.bf,.i 0,.i r1.av.aP,.i r1.av.aS,.i r1.av.aY,.own 720902,.i r1.a7.aT,.own 720904,.i r1.aJ,.own 720906,.i r1.a8],.agg ((aB p2).map .t),.agg ((ai p3.av).map .t)] h (fun _=>NO) fun r2 h=>by cases h;exact Wp.ret aj) fun h=>ae<|ak h (fun h=>aK false 3 28 [.agg [.b r1.fM,.i r1.bf,.i 0,.i r1.av.aP,.i r1.av.aS,.i r1.av.aY,.own 720902,.i r1.a7.aT,.own 720904,.i r1.aJ,.own 720906,.i r1.a8],.i p1,.agg ((dA p3).map .t)] h (fun _=>LA) fun r3 h=>by cases h;exact Wp.ret aj) fun h=>ae<|ak h (fun h=>aV [] []<|ab.all kr<|bY<|aN<|⟨_,_,h,lo [(590342,720902),(590344,720904),(590346,720906)]⟩) fun h=>Wp.skip<|bY<|aN<|⟨_,_,h,lo [(590342,720902),(590344,720904),(590346,720906)]⟩
theorem TN {u p0 p1 p2 p3 p4 r} (h:C9 u p0 p1 p2 p3 p4=some r):al Tryz.prog 125 [cO (hH p0),V.i p1,cO (ay p2),cO (aB p3),cO (aI p4)] (V.w [0,0,0,0,0,0,176,0,5,0,149,0,118] (tM r)) []:=by
 unfold C9 at h
 refine b8 Tryz.f125 true ?_
 exact ae<|aK false 1 15 [.agg ((ay p2).map .t)] h (fun _=>jy) fun r1 h=>Wp.seq<|ae<|ak h (fun h=>ae<|by cases h;exact Wp.ret aj) fun h=>aC<|aK false 2 24 [.s p4.fB] h (fun _=>Ql) fun r2 h=>Wp.seq<|Wp.block<|qad (fun p1 x4 p2 p3 p4 r1 r2=>wv u p1 x4 p2 p3 p4 r1 r2=some r) (fun p1 x4 p2 p3 p4 r1 r2=>⟨[(1,.i p1),(7,.obj 7 0),(8,.obj 8 0),(9,.obj 9 0),(10,.obj 10 0),(11,.obj 11 0),(12,.obj 12 0),(27,.b x4)],[(7,((ay p2).map .t)),(8,((aB p3).map .t)),(9,((aI p4).map .t)),(10,[.b false,.i 0,.i 0,.i 0,.i 0,.i 0,.nil,.i 0,.nil,.i 0,.nil,.i 0,.nil]),(11,[.b r1.fM,.i r1.bf,.i r1.be,.i r1.av.aP,.i r1.av.aS,.i r1.av.aY,.own 721414,.i r1.a7.aT,.own 721416,.i r1.aJ,.own 721418,.i r1.a8,.nil]),(12,((dA r2.1).map .t))],[(721414,.live 176 2 (r1.av.aD.map aH)),(721416,.live 5 1 (r1.a7.bg.map (aw .u8))),(721418,.live 149 5 (r1.aO.map am))]⟩) (fun p1 x4 p2 p3 p4 r1 r2 h=>ak h (fun h=>ae<|ae<|by cases h;exact Wp.ret aj) fun h=>ae<|ak h (fun h=>aK false 5 59 [.agg ((ay p2).map .t),.i p1,.i p4.du,.agg ((dA r2.1).map .t)] h (fun _=>HC) fun r5 h=>by cases h;exact Wp.ret aj) fun h=>ae<|ak h (fun h=>aK false 4 70 [.agg ((ay p2).map .t),.i p1,.agg ((aB p3).map .t),.agg ((dA r2.1).map .t)] h (fun _=>LB) fun r6 h=>by cases h;exact Wp.ret aj) fun h=>Wp.skip<|bY<|aN<|ae<|ae<|by cases h;exact Wp.ret aj)<|aV [] []<|ah 3 30 h (fun h=>aa<|⟨_,_,_,_,_,_,_,h,lo [(721414,983046),(721416,983048),(721418,983050)]⟩) fun h=>ag false 3 34 [.agg [.t (.sl 1 (p0.cx.map (aw .i64)))],.i p4.du] h (fun _=>hU) fun r3 h=>ah 3 37 h (fun h=>aa<|⟨_,_,_,_,_,_,_,h,lo [(721414,983046),(721416,983048),(721418,983050)]⟩) fun h=>aa<|⟨_,_,_,_,_,_,_,h,lo [(721414,983046),(721416,983048),(721418,983050)]⟩
theorem tA {u p0 p1 r} (h:dI u p0 p1=some r):al Tryz.prog 184 [.one (.t (.sl 5 (p0.map am))),.one (.t (.sl 5 (p1.map am)))] (V.b r) []:=by
 unfold dI at h
 refine b8 Tryz.f184 false ?_
 refine ae<|Wp.seq<|aE<|ar 1 149 am p0<|ar 1 149 am p1<|aa<|ak h (fun h=>ae<|by cases h;exact Wp.ret aj) fun h=>aC<|io (gI u=some r) ⟨[(4,.b false)],[],[]⟩ (fun h=>ae<|by cases h;exact Wp.ret aj)<|aE<|ar 1 149 am p0<|aa<|Wp.block<|dZ (fun cD p0 p1 x2=>cQ u cD p0 p1 x2=some r) (fun p0 p1 x2=>⟨[(0,.t (.sl 5 (p0.map am))),(1,.t (.sl 5 (p1.map am))),(4,.b false),(12,.i ((p0.length:Int))),(13,.i x2)],[],[]⟩) (fun cD p0 p1 x2 h=>?_) h (lo []) (fun _ _ _  h=>nomatch h)
 rw [cQ] at h
 exact ae<|Wp.seq<|ak h (fun h=>aC<|Wp.seq<|Wp.block<|ae<|Wp.seq<|aL (jS []) (bR [(0,.frz),(1,.frz),(5,.frz),(16,.frz),(17,.frz),(18,.frz),(19,.frz),(20,.frz),(21,.frz),(22,.frz),(23,.frz)]) kr kr<|aR 2 149 5 am h fun y4 h _=>aR 3 149 5 am h fun y5 h _=>aa<|ak h (fun h=>ae<|by cases h;exact Wp.ret aj) fun h=>Wp.skip<|bY<|aN<|aV [] []<|aa<|⟨_,_,_,h,lo []⟩) fun h=>Wp.exit<|aZ<|aZ<|de<|aN<|⟨h,lo []⟩
theorem LC {u p0 p1 r} (h:qp u p0 p1=some r):al Tryz.prog 126 [cO (ay p0),cO (ay p1)] (V.b r) []:=by
 unfold qp at h
 refine b8 Tryz.f126 false ?_
 exact ae<|aE<|ah 6 10 h (fun h=>ah 7 17 h (fun h=>ah 7 24 h (fun h=>ag false 4 29 [.agg ((ai p0.av).map .t),.agg ((ai p1.av).map .t)] h (fun _=>zJ) fun r1 h=>ah 2 31 h (fun h=>ah 9 40 h (fun h=>ag false 6 47 [.s p0.a7.bg,.s p1.a7.bg] h (fun _=>wV) fun r2 h=>ah 2 49 h (fun h=>ah 7 56 h (fun h=>ag false 4 61 [.t (.sl 5 (p0.aO.map am)),.t (.sl 5 (p1.aO.map am))] h (fun _=>tA) fun r3 h=>ah 2 63 h (fun h=>aa<|pm ⟨[(4,.b (p0.a8 == p1.a8))],[],[]⟩<|by cases h;exact Wp.ret aj) fun h=>aa<|pm ⟨[(4,.b false)],[],[]⟩<|by cases h;exact Wp.ret aj) fun h=>aa<|pm ⟨[(4,.b false)],[],[]⟩<|by cases h;exact Wp.ret aj) fun h=>aa<|by cases h;exact Wp.ret aj) fun h=>aa<|by cases h;exact Wp.ret aj) fun h=>aa<|by cases h;exact Wp.ret aj) fun h=>aa<|by cases h;exact Wp.ret aj) fun h=>aa<|by cases h;exact Wp.ret aj) fun h=>aa<|by cases h;exact Wp.ret aj
theorem NQ {u p0 p1 p2 p3 p4 r} (h:An u p0 p1 p2 p3 p4=some r):al Tryz.prog 75 [cO (hH p0),V.i p1,cO (ay p2),cO (aB p3),cO (aI p4)] (V.b r) []:=by
 unfold An at h
 refine b8 Tryz.f75 false ?_
 exact ae<|aK false 5 17 [.agg [.t (.sl 1 (p0.cx.map (aw .i64)))],.i p1,.agg ((ay p2).map .t),.agg ((aB p3).map .t),.agg ((aI p4).map .t)] h (fun _=>TN) fun r1 h=>ae<|aE<|ar 2 118 aI r1.sW<|ah 2 26 h (fun h=>eY 3 30 [.agg [.b r1.fN.fM,.i r1.fN.bf,.i r1.fN.be,.i r1.fN.av.aP,.i r1.fN.av.aS,.i r1.fN.av.aY,.own 1114118,.i r1.fN.a7.aT,.own 1114120,.i r1.fN.aJ,.own 1114122,.i p2.a8],.agg ((ay p2).map .t)] h (fun _=>LC) fun r2 h=>aa<|by cases h;exact Wp.ret aj) fun h=>aa<|by cases h;exact Wp.ret aj
theorem D0 {u p0 p1 r} (h:iU u p0 p1=some r):al Tryz.prog 32 [cO (bw p0),V.i p1] (V.b r) []:=by
 unfold iU at h
 refine b8 Tryz.f32 false ?_
 exact ae<|aE<|aR 3 118 3 aI h fun y1 h _=>aa<|Wp.seq<|aL (jS []) (bR [(2,.obj 2),(5,.obj 5),(11,.obj 2),(12,.frz),(13,.obj 5),(14,.frz),(15,.obj 2),(16,.frz),(17,.obj 5),(18,.frz),(19,.frz),(20,.frz),(21,.obj 2),(22,.frz),(23,.obj 5),(24,.frz),(25,.frz),(26,.frz),(27,.frz),(28,.frz)]) kr kr<|aR 8 111 12 ay h fun y2 h _=>aR 5 116 6 aB h fun y3 h _=>ag false 2 28 [.agg [.t (.sl 1 (p0.fT.cx.map (aw .i64)))],.i y1.G2,.agg ((ay y2).map .t),.agg ((aB y3).map .t),.agg ((aI y1).map .t)] h (fun _=>NQ) fun r4 h=>aa<|by cases h;exact Wp.ret aj
theorem NR {u p0 r} (h:ww u p0=some r):al Tryz.prog 11 [cO (bw p0)] (V.i r) []:=by
 unfold ww at h
 refine b8 Tryz.f11 false ?_
 refine ae<|ae<|Wp.seq<|aK false 1 6 [.agg ((bw p0).map .t)] h (fun _=>NG) fun r1 h=>ak h (fun h=>ae<|by cases h;exact Wp.ret aj) fun h=>aC<|jL (fun x10=>zB u x10=some r) (fun x10=>⟨[(2,.i 0),(3,.i x10)],[],[]⟩) (fun x10 h=>ae<|by cases h;exact Wp.ret aj)<|aE<|ar 2 118 aI p0.dX<|aa<|Wp.block<|dZ (fun gu x4 p0 x5=>eE u gu x4 p0 x5=some r) (fun x4 p0 x5=>⟨[(1,.obj 1 0),(2,.i 0),(3,.i x4),(11,.i ((p0.dX.length:Int))),(12,.i x5)],[(1,((bw p0).map .t))],[]⟩) (fun gu x4 p0 x5 h=>?_) h (lo []) (fun _ _ _  h=>nomatch h)
 rw [eE] at h
 exact ae<|Wp.seq<|ak h (fun h=>aC<|kh (fun x9 p0 x5=>nr u (fun z0 z1 z2=>eE u gu z0 z1 z2) x9 p0 x5=some r) (fun x9 p0 x5=>⟨[(1,.obj 1 0),(2,.i 0),(3,.i x9),(11,.i ((p0.dX.length:Int))),(12,.i x5)],[(1,((bw p0).map .t))],[]⟩) (fun x9 p0 x5 h=>aV [] []<|aa<|⟨_,_,_,h,lo []⟩)<|Wp.block<|ae<|aK false 2 17 [.agg ((bw p0).map .t),.i x5] h (fun _=>D0) fun r8 h=>ak h (fun h=>aV [] []<|ab.all kr<|bY<|aN<|⟨_,_,_,h,lo []⟩) fun h=>Wp.skip<|bY<|aN<|⟨_,_,_,h,lo []⟩) fun h=>Wp.exit<|aZ<|aZ<|de<|aN<|⟨_,h,lo []⟩
theorem Qn {u p0 p1 r} (h:yN u p0 p1=some r):al Tryz.prog 33 [cO (pG p0),cO (pG p1)] (V.b r) []:=by
 unfold yN at h
 refine b8 Tryz.f33 false ?_
 exact ae<|Wp.seq<|ae<|ak h (fun h=>ae<|by cases h;exact Wp.ret aj) fun h=>aC<|Wp.seq<|ae<|ak h (fun h=>ae<|by cases h;exact Wp.ret aj) fun h=>aC<|Wp.seq<|ae<|ak h (fun h=>ae<|by cases h;exact Wp.ret aj) fun h=>aC<|Wp.seq<|ae<|ak h (fun h=>ae<|by cases h;exact Wp.ret aj) fun h=>aC<|ae<|by cases h;exact Wp.ret aj
theorem Qo {u p0 p1 r} (h:yO u p0 p1=some r):al Tryz.prog 76 [.one (.t (.sl 1 (p0.map (aw .i64)))),.one (.t (.sl 1 (p1.map (aw .i64))))] (V.b r) []:=by
 unfold yO at h
 refine b8 Tryz.f76 false ?_
 refine ae<|Wp.seq<|aE<|ar 1 3 (aw .i64) p0<|ar 1 3 (aw .i64) p1<|aa<|ak h (fun h=>ae<|by cases h;exact Wp.ret aj) fun h=>aC<|io (A7 u=some r) ⟨[(4,.b false)],[],[]⟩ (fun h=>ae<|by cases h;exact Wp.ret aj)<|ae<|Wp.block<|dZ (fun md p0 p1 x2=>oP u md p0 p1 x2=some r) (fun p0 p1 x2=>⟨[(0,.t (.sl 1 (p0.map (aw .i64)))),(1,.t (.sl 1 (p1.map (aw .i64)))),(4,.b false),(5,.i x2)],[],[]⟩) (fun md p0 p1 x2 h=>?_) h (lo []) (fun _ _ _  h=>nomatch h)
 rw [oP] at h
 exact Wp.seq<|aE<|ar 2 3 (aw .i64) p0<|aa<|ak h (fun h=>aC<|Wp.seq<|Wp.block<|Wp.seq<|aL (jS []) (bR [(0,.frz),(1,.frz),(5,.frz),(17,.frz),(18,.frz),(19,.frz),(20,.frz),(21,.frz),(22,.frz),(23,.frz),(24,.frz)]) kr kr<|aR 2 3 1 (aw .i64) h fun y4 h _=>aR 3 3 1 (aw .i64) h fun y5 h _=>aa<|ak h (fun h=>ae<|by cases h;exact Wp.ret aj) fun h=>Wp.skip<|bY<|aN<|aV [] []<|aa<|⟨_,_,_,h,lo []⟩) fun h=>Wp.exit<|aZ<|aZ<|de<|aN<|⟨h,lo []⟩
theorem Qp {u p0 p1 r} (h:yP u p0 p1=some r):al Tryz.prog 34 [cO (hH p0),cO (hH p1)] (V.b r) []:=by
 unfold yP at h
 refine b8 Tryz.f34 false ?_
 exact ae<|Wp.seq<|aK false 4 9 [.t (.sl 1 (p0.cx.map (aw .i64))),.t (.sl 1 (p1.cx.map (aw .i64)))] h (fun _=>Qo) fun r1 h=>ak h (fun h=>ae<|by cases h;exact Wp.ret aj) fun h=>aC<|ae<|by cases h;exact Wp.ret aj
theorem ll {u p0 p1 r} (h:iL u p0 p1=some r):al Tryz.prog 35 [.one (.s p0),.one (.s p1)] (V.b r) []:=by
 unfold iL at h
 refine b8 Tryz.f35 false ?_
 refine ae<|Wp.seq<|aE<|ar 1 5 (aw .u8) p0<|ar 1 5 (aw .u8) p1<|aa<|ak h (fun h=>ae<|by cases h;exact Wp.ret aj) fun h=>aC<|io (zC u=some r) ⟨[(4,.b false)],[],[]⟩ (fun h=>ae<|by cases h;exact Wp.ret aj)<|ae<|Wp.block<|dZ (fun kJ p0 p1 x2=>nt u kJ p0 p1 x2=some r) (fun p0 p1 x2=>⟨[(0,.s p0),(1,.s p1),(4,.b false),(5,.i x2)],[],[]⟩) (fun kJ p0 p1 x2 h=>?_) h (lo []) (fun _ _ _  h=>nomatch h)
 rw [nt] at h
 exact Wp.seq<|aE<|ar 2 5 (aw .u8) p0<|aa<|ak h (fun h=>aC<|Wp.seq<|Wp.block<|Wp.seq<|aL (jS []) (bR [(0,.frz),(1,.frz),(5,.frz),(17,.frz),(18,.frz),(19,.frz),(20,.frz),(21,.frz),(22,.frz),(23,.frz),(24,.frz)]) kr kr<|aR 2 5 1 (aw .u8) h fun y4 h _=>aR 3 5 1 (aw .u8) h fun y5 h _=>aa<|ak h (fun h=>ae<|by cases h;exact Wp.ret aj) fun h=>Wp.skip<|bY<|aN<|aV [] []<|aa<|⟨_,_,_,h,lo []⟩) fun h=>Wp.exit<|aZ<|aZ<|de<|aN<|⟨h,lo []⟩
theorem NS {u p0 p1 r} (h:sv u p0 p1=some r):al Tryz.prog 77 [cO (bd p0),cO (bd p1)] (V.b r) []:=by
 unfold sv at h
 refine b8 Tryz.f77 false ?_
 exact ae<|Wp.seq<|aK false 4 9 [.s p0.fB,.s p1.fB] h (fun _=>ll) fun r1 h=>ak h (fun h=>ae<|by cases h;exact Wp.ret aj) fun h=>aC<|ae<|by cases h;exact Wp.ret aj
theorem LD {u p0 p1 r} (h:tu u p0 p1=some r):al Tryz.prog 36 [.one (.t (.sl 1 (p0.map bd))),.one (.t (.sl 1 (p1.map bd)))] (V.b r) []:=by
 unfold tu at h
 refine b8 Tryz.f36 false ?_
 refine ae<|Wp.seq<|aE<|ar 1 121 bd p0<|ar 1 121 bd p1<|aa<|ak h (fun h=>ae<|by cases h;exact Wp.ret aj) fun h=>aC<|io (xI u=some r) ⟨[(4,.b false)],[],[]⟩ (fun h=>ae<|by cases h;exact Wp.ret aj)<|ae<|Wp.block<|dZ (fun jE p0 p1 x2=>lU u jE p0 p1 x2=some r) (fun p0 p1 x2=>⟨[(0,.t (.sl 1 (p0.map bd))),(1,.t (.sl 1 (p1.map bd))),(4,.b false),(5,.i x2)],[],[]⟩) (fun jE p0 p1 x2 h=>?_) h (lo []) (fun _ _ _  h=>nomatch h)
 rw [lU] at h
 exact Wp.seq<|aE<|ar 2 121 bd p0<|aa<|ak h (fun h=>aC<|Wp.seq<|Wp.block<|Wp.seq<|aL (jS []) (bR [(0,.frz),(1,.frz),(5,.frz),(17,.frz),(18,.frz),(19,.frz),(20,.frz),(21,.frz),(22,.frz),(23,.frz),(24,.frz),(25,.frz)]) kr kr<|aR 2 121 1 bd h fun y4 h _=>aR 3 121 1 bd h fun y5 h _=>ag false 1 25 [.agg [.s y4.fB],.agg [.s y5.fB]] h (fun _=>NS) fun r6 h=>aa<|ak h (fun h=>ae<|by cases h;exact Wp.ret aj) fun h=>Wp.skip<|bY<|aN<|aV [] []<|aa<|⟨_,_,_,h,lo []⟩) fun h=>Wp.exit<|aZ<|aZ<|de<|aN<|⟨h,lo []⟩
theorem Sb {u p0 p1 r} (h:xJ u p0 p1=some r):al Tryz.prog 232 [cO (aH p0),cO (aH p1)] (V.b r) []:=by
 unfold xJ at h
 refine b8 Tryz.f232 false ?_
 exact ae<|Wp.seq<|ae<|ak h (fun h=>ae<|by cases h;exact Wp.ret aj) fun h=>aC<|Wp.seq<|ae<|ak h (fun h=>ae<|by cases h;exact Wp.ret aj) fun h=>aC<|ae<|by cases h;exact Wp.ret aj
theorem Qq {u p0 p1 r} (h:yQ u p0 p1=some r):al Tryz.prog 185 [.one (.t (.sl 2 (p0.map aH))),.one (.t (.sl 2 (p1.map aH)))] (V.b r) []:=by
 unfold yQ at h
 refine b8 Tryz.f185 false ?_
 refine ae<|Wp.seq<|aE<|ar 1 176 aH p0<|ar 1 176 aH p1<|aa<|ak h (fun h=>ae<|by cases h;exact Wp.ret aj) fun h=>aC<|io (A9 u=some r) ⟨[(4,.b false)],[],[]⟩ (fun h=>ae<|by cases h;exact Wp.ret aj)<|ae<|Wp.block<|dZ (fun mh p0 p1 x2=>oQ u mh p0 p1 x2=some r) (fun p0 p1 x2=>⟨[(0,.t (.sl 2 (p0.map aH))),(1,.t (.sl 2 (p1.map aH))),(4,.b false),(5,.i x2)],[],[]⟩) (fun mh p0 p1 x2 h=>?_) h (lo []) (fun _ _ _  h=>nomatch h)
 rw [oQ] at h
 exact Wp.seq<|aE<|ar 2 176 aH p0<|aa<|ak h (fun h=>aC<|Wp.seq<|Wp.block<|Wp.seq<|aL (jS []) (bR [(0,.frz),(1,.frz),(5,.frz),(17,.frz),(18,.frz),(19,.frz),(20,.frz),(21,.frz),(22,.frz),(23,.frz),(24,.frz),(25,.frz)]) kr kr<|aR 2 176 2 aH h fun y4 h _=>aR 3 176 2 aH h fun y5 h _=>ag false 1 25 [.agg [.i y4.fW,.i y4.fS],.agg [.i y5.fW,.i y5.fS]] h (fun _=>Sb) fun r6 h=>aa<|ak h (fun h=>ae<|by cases h;exact Wp.ret aj) fun h=>Wp.skip<|bY<|aN<|aV [] []<|aa<|⟨_,_,_,h,lo []⟩) fun h=>Wp.exit<|aZ<|aZ<|de<|aN<|⟨h,lo []⟩
theorem HD {u p0 p1 r} (h:pS u p0 p1=some r):al Tryz.prog 127 [cO (ai p0),cO (ai p1)] (V.b r) []:=by
 unfold pS at h
 refine b8 Tryz.f127 false ?_
 exact ae<|Wp.seq<|ae<|ak h (fun h=>ae<|by cases h;exact Wp.ret aj) fun h=>aC<|Wp.seq<|ae<|ak h (fun h=>ae<|by cases h;exact Wp.ret aj) fun h=>aC<|Wp.seq<|ae<|ak h (fun h=>ae<|by cases h;exact Wp.ret aj) fun h=>aC<|Wp.seq<|aK false 4 24 [.t (.sl 2 (p0.aD.map aH)),.t (.sl 2 (p1.aD.map aH))] h (fun _=>Qq) fun r1 h=>ak h (fun h=>ae<|by cases h;exact Wp.ret aj) fun h=>aC<|ae<|by cases h;exact Wp.ret aj
theorem NT {u p0 p1 r} (h:wx u p0 p1=some r):al Tryz.prog 128 [cO (cJ p0),cO (cJ p1)] (V.b r) []:=by
 unfold wx at h
 refine b8 Tryz.f128 false ?_
 exact ae<|Wp.seq<|ae<|ak h (fun h=>ae<|by cases h;exact Wp.ret aj) fun h=>aC<|Wp.seq<|aK false 4 14 [.s p0.bg,.s p1.bg] h (fun _=>ll) fun r1 h=>ak h (fun h=>ae<|by cases h;exact Wp.ret aj) fun h=>aC<|ae<|by cases h;exact Wp.ret aj
theorem Sc {u p0 p1 r} (h:xK u p0 p1=some r):al Tryz.prog 186 [cO (am p0),cO (am p1)] (V.b r) []:=by
 unfold xK at h
 refine b8 Tryz.f186 false ?_
 exact ae<|Wp.seq<|ae<|ak h (fun h=>ae<|by cases h;exact Wp.ret aj) fun h=>aC<|Wp.seq<|ae<|ak h (fun h=>ae<|by cases h;exact Wp.ret aj) fun h=>aC<|Wp.seq<|ae<|ak h (fun h=>ae<|by cases h;exact Wp.ret aj) fun h=>aC<|Wp.seq<|ae<|ak h (fun h=>ae<|by cases h;exact Wp.ret aj) fun h=>aC<|Wp.seq<|ae<|ak h (fun h=>ae<|by cases h;exact Wp.ret aj) fun h=>aC<|ae<|by cases h;exact Wp.ret aj
theorem Qr {u p0 p1 r} (h:yR u p0 p1=some r):al Tryz.prog 129 [.one (.t (.sl 5 (p0.map am))),.one (.t (.sl 5 (p1.map am)))] (V.b r) []:=by
 unfold yR at h
 refine b8 Tryz.f129 false ?_
 refine ae<|Wp.seq<|aE<|ar 1 149 am p0<|ar 1 149 am p1<|aa<|ak h (fun h=>ae<|by cases h;exact Wp.ret aj) fun h=>aC<|io (Ba u=some r) ⟨[(4,.b false)],[],[]⟩ (fun h=>ae<|by cases h;exact Wp.ret aj)<|ae<|Wp.block<|dZ (fun mf p0 p1 x2=>oS u mf p0 p1 x2=some r) (fun p0 p1 x2=>⟨[(0,.t (.sl 5 (p0.map am))),(1,.t (.sl 5 (p1.map am))),(4,.b false),(5,.i x2)],[],[]⟩) (fun mf p0 p1 x2 h=>?_) h (lo []) (fun _ _ _  h=>nomatch h)
 rw [oS] at h
 exact Wp.seq<|aE<|ar 2 149 am p0<|aa<|ak h (fun h=>aC<|Wp.seq<|Wp.block<|Wp.seq<|aL (jS []) (bR [(0,.frz),(1,.frz),(5,.frz),(17,.frz),(18,.frz),(19,.frz),(20,.frz),(21,.frz),(22,.frz),(23,.frz),(24,.frz),(25,.frz)]) kr kr<|aR 2 149 5 am h fun y4 h _=>aR 3 149 5 am h fun y5 h _=>ag false 1 25 [.agg ((am y4).map .t),.agg ((am y5).map .t)] h (fun _=>Sc) fun r6 h=>aa<|ak h (fun h=>ae<|by cases h;exact Wp.ret aj) fun h=>Wp.skip<|bY<|aN<|aV [] []<|aa<|⟨_,_,_,h,lo []⟩) fun h=>Wp.exit<|aZ<|aZ<|de<|aN<|⟨h,lo []⟩
theorem Qs {u p0 p1 r} (h:u2 u p0 p1=some r):al Tryz.prog 78 [cO (ay p0),cO (ay p1)] (V.b r) []:=by
 unfold u2 at h
 refine b8 Tryz.f78 false ?_
 exact ae<|Wp.seq<|ae<|ak h (fun h=>ae<|by cases h;exact Wp.ret aj) fun h=>aC<|Wp.seq<|ae<|ak h (fun h=>ae<|by cases h;exact Wp.ret aj) fun h=>aC<|Wp.seq<|ae<|ak h (fun h=>ae<|by cases h;exact Wp.ret aj) fun h=>aC<|Wp.seq<|aK false 4 24 [.agg ((ai p0.av).map .t),.agg ((ai p1.av).map .t)] h (fun _=>HD) fun r1 h=>ak h (fun h=>ae<|by cases h;exact Wp.ret aj) fun h=>aC<|Wp.seq<|aK false 4 30 [.agg [.i p0.a7.aT,.s p0.a7.bg],.agg [.i p1.a7.aT,.s p1.a7.bg]] h (fun _=>NT) fun r2 h=>ak h (fun h=>ae<|by cases h;exact Wp.ret aj) fun h=>aC<|Wp.seq<|ae<|ak h (fun h=>ae<|by cases h;exact Wp.ret aj) fun h=>aC<|Wp.seq<|aK false 4 41 [.t (.sl 5 (p0.aO.map am)),.t (.sl 5 (p1.aO.map am))] h (fun _=>Qr) fun r3 h=>ak h (fun h=>ae<|by cases h;exact Wp.ret aj) fun h=>aC<|Wp.seq<|ae<|pm ⟨[(4,.b false),(47,.b (p0.a8 != p1.a8))],[],[]⟩<|ak h (fun h=>ae<|by cases h;exact Wp.ret aj) fun h=>aC<|ae<|by cases h;exact Wp.ret aj
theorem NU {u p0 p1 r} (h:wy u p0 p1=some r):al Tryz.prog 37 [.one (.t (.sl 12 (p0.map ay))),.one (.t (.sl 12 (p1.map ay)))] (V.b r) []:=by
 unfold wy at h
 refine b8 Tryz.f37 false ?_
 refine ae<|Wp.seq<|aE<|ar 1 111 ay p0<|ar 1 111 ay p1<|aa<|ak h (fun h=>ae<|by cases h;exact Wp.ret aj) fun h=>aC<|io (zD u=some r) ⟨[(4,.b false)],[],[]⟩ (fun h=>ae<|by cases h;exact Wp.ret aj)<|ae<|Wp.block<|dZ (fun kL p0 p1 x2=>nu u kL p0 p1 x2=some r) (fun p0 p1 x2=>⟨[(0,.t (.sl 12 (p0.map ay))),(1,.t (.sl 12 (p1.map ay))),(4,.b false),(5,.i x2)],[],[]⟩) (fun kL p0 p1 x2 h=>?_) h (lo []) (fun _ _ _  h=>nomatch h)
 rw [nu] at h
 exact Wp.seq<|aE<|ar 2 111 ay p0<|aa<|ak h (fun h=>aC<|Wp.seq<|Wp.block<|Wp.seq<|aL (jS []) (bR [(0,.frz),(1,.frz),(5,.frz),(17,.frz),(18,.frz),(19,.frz),(20,.frz),(21,.frz),(22,.frz),(23,.frz),(24,.frz),(25,.frz)]) kr kr<|aR 2 111 12 ay h fun y4 h _=>aR 3 111 12 ay h fun y5 h _=>ag false 1 25 [.agg ((ay y4).map .t),.agg ((ay y5).map .t)] h (fun _=>Qs) fun r6 h=>aa<|ak h (fun h=>ae<|by cases h;exact Wp.ret aj) fun h=>Wp.skip<|bY<|aN<|aV [] []<|aa<|⟨_,_,_,h,lo []⟩) fun h=>Wp.exit<|aZ<|aZ<|de<|aN<|⟨h,lo []⟩
theorem Dt {u p0 p1 r} (h:qq u p0 p1=some r):al Tryz.prog 130 [cO (fk p0),cO (fk p1)] (V.b r) []:=by
 unfold qq at h
 refine b8 Tryz.f130 false ?_
 exact ae<|Wp.seq<|ae<|ak h (fun h=>ae<|by cases h;exact Wp.ret aj) fun h=>aC<|Wp.seq<|ae<|ak h (fun h=>ae<|by cases h;exact Wp.ret aj) fun h=>aC<|Wp.seq<|ae<|ak h (fun h=>ae<|by cases h;exact Wp.ret aj) fun h=>aC<|ae<|by cases h;exact Wp.ret aj
theorem Se {u p0 p1 r} (h:xL u p0 p1=some r):al Tryz.prog 187 [cO (aU p0),cO (aU p1)] (V.b r) []:=by
 unfold xL at h
 refine b8 Tryz.f187 false ?_
 exact ae<|Wp.seq<|ae<|ak h (fun h=>ae<|by cases h;exact Wp.ret aj) fun h=>aC<|Wp.seq<|ae<|ak h (fun h=>ae<|by cases h;exact Wp.ret aj) fun h=>aC<|Wp.seq<|aK false 4 19 [.s p0.fB,.s p1.fB] h (fun _=>ll) fun r1 h=>ak h (fun h=>ae<|by cases h;exact Wp.ret aj) fun h=>aC<|Wp.seq<|aK false 4 25 [.agg ((fk p0.fR).map .t),.agg ((fk p1.fR).map .t)] h (fun _=>Dt) fun r2 h=>ak h (fun h=>ae<|by cases h;exact Wp.ret aj) fun h=>aC<|ae<|by cases h;exact Wp.ret aj
theorem Qt {u p0 p1 r} (h:yS u p0 p1=some r):al Tryz.prog 131 [.one (.t (.sl 6 (p0.map aU))),.one (.t (.sl 6 (p1.map aU)))] (V.b r) []:=by
 unfold yS at h
 refine b8 Tryz.f131 false ?_
 refine ae<|Wp.seq<|aE<|ar 1 155 aU p0<|ar 1 155 aU p1<|aa<|ak h (fun h=>ae<|by cases h;exact Wp.ret aj) fun h=>aC<|io (Bb u=some r) ⟨[(4,.b false)],[],[]⟩ (fun h=>ae<|by cases h;exact Wp.ret aj)<|ae<|Wp.block<|dZ (fun mg p0 p1 x2=>oT u mg p0 p1 x2=some r) (fun p0 p1 x2=>⟨[(0,.t (.sl 6 (p0.map aU))),(1,.t (.sl 6 (p1.map aU))),(4,.b false),(5,.i x2)],[],[]⟩) (fun mg p0 p1 x2 h=>?_) h (lo []) (fun _ _ _  h=>nomatch h)
 rw [oT] at h
 exact Wp.seq<|aE<|ar 2 155 aU p0<|aa<|ak h (fun h=>aC<|Wp.seq<|Wp.block<|Wp.seq<|aL (jS []) (bR [(0,.frz),(1,.frz),(5,.frz),(17,.frz),(18,.frz),(19,.frz),(20,.frz),(21,.frz),(22,.frz),(23,.frz),(24,.frz),(25,.frz)]) kr kr<|aR 2 155 6 aU h fun y4 h _=>aR 3 155 6 aU h fun y5 h _=>ag false 1 25 [.agg ((aU y4).map .t),.agg ((aU y5).map .t)] h (fun _=>Se) fun r6 h=>aa<|ak h (fun h=>ae<|by cases h;exact Wp.ret aj) fun h=>Wp.skip<|bY<|aN<|aV [] []<|aa<|⟨_,_,_,h,lo []⟩) fun h=>Wp.exit<|aZ<|aZ<|de<|aN<|⟨h,lo []⟩
theorem Qu {u p0 p1 r} (h:u6 u p0 p1=some r):al Tryz.prog 79 [cO (aB p0),cO (aB p1)] (V.b r) []:=by
 unfold u6 at h
 refine b8 Tryz.f79 false ?_
 exact ae<|Wp.seq<|aK false 4 9 [.s p0.fA,.s p1.fA] h (fun _=>ll) fun r1 h=>ak h (fun h=>ae<|by cases h;exact Wp.ret aj) fun h=>aC<|Wp.seq<|aK false 4 15 [.s p0.fB,.s p1.fB] h (fun _=>ll) fun r2 h=>ak h (fun h=>ae<|by cases h;exact Wp.ret aj) fun h=>aC<|Wp.seq<|aK false 4 21 [.agg ((fk p0.fR).map .t),.agg ((fk p1.fR).map .t)] h (fun _=>Dt) fun r3 h=>ak h (fun h=>ae<|by cases h;exact Wp.ret aj) fun h=>aC<|Wp.seq<|aK false 4 27 [.t (.sl 6 (p0.fP.map aU)),.t (.sl 6 (p1.fP.map aU))] h (fun _=>Qt) fun r4 h=>ak h (fun h=>ae<|by cases h;exact Wp.ret aj) fun h=>aC<|ae<|by cases h;exact Wp.ret aj
theorem NV {u p0 p1 r} (h:wz u p0 p1=some r):al Tryz.prog 38 [.one (.t (.sl 6 (p0.map aB))),.one (.t (.sl 6 (p1.map aB)))] (V.b r) []:=by
 unfold wz at h
 refine b8 Tryz.f38 false ?_
 refine ae<|Wp.seq<|aE<|ar 1 116 aB p0<|ar 1 116 aB p1<|aa<|ak h (fun h=>ae<|by cases h;exact Wp.ret aj) fun h=>aC<|io (zE u=some r) ⟨[(4,.b false)],[],[]⟩ (fun h=>ae<|by cases h;exact Wp.ret aj)<|ae<|Wp.block<|dZ (fun kK p0 p1 x2=>nv u kK p0 p1 x2=some r) (fun p0 p1 x2=>⟨[(0,.t (.sl 6 (p0.map aB))),(1,.t (.sl 6 (p1.map aB))),(4,.b false),(5,.i x2)],[],[]⟩) (fun kK p0 p1 x2 h=>?_) h (lo []) (fun _ _ _  h=>nomatch h)
 rw [nv] at h
 exact Wp.seq<|aE<|ar 2 116 aB p0<|aa<|ak h (fun h=>aC<|Wp.seq<|Wp.block<|Wp.seq<|aL (jS []) (bR [(0,.frz),(1,.frz),(5,.frz),(17,.frz),(18,.frz),(19,.frz),(20,.frz),(21,.frz),(22,.frz),(23,.frz),(24,.frz),(25,.frz)]) kr kr<|aR 2 116 6 aB h fun y4 h _=>aR 3 116 6 aB h fun y5 h _=>ag false 1 25 [.agg ((aB y4).map .t),.agg ((aB y5).map .t)] h (fun _=>Qu) fun r6 h=>aa<|ak h (fun h=>ae<|by cases h;exact Wp.ret aj) fun h=>Wp.skip<|bY<|aN<|aV [] []<|aa<|⟨_,_,_,h,lo []⟩) fun h=>Wp.exit<|aZ<|aZ<|de<|aN<|⟨h,lo []⟩
theorem LE {u p0 p1 r} (h:qr u p0 p1=some r):al Tryz.prog 80 [cO (aI p0),cO (aI p1)] (V.b r) []:=by
 unfold qr at h
 refine b8 Tryz.f80 false ?_
 exact ae<|Wp.seq<|ae<|ak h (fun h=>ae<|by cases h;exact Wp.ret aj) fun h=>aC<|Wp.seq<|ae<|ak h (fun h=>ae<|by cases h;exact Wp.ret aj) fun h=>aC<|Wp.seq<|aK false 4 19 [.s p0.fB,.s p1.fB] h (fun _=>ll) fun r1 h=>ak h (fun h=>ae<|by cases h;exact Wp.ret aj) fun h=>aC<|ae<|by cases h;exact Wp.ret aj
theorem JC {u p0 p1 r} (h:rp u p0 p1=some r):al Tryz.prog 39 [.one (.t (.sl 3 (p0.map aI))),.one (.t (.sl 3 (p1.map aI)))] (V.b r) []:=by
 unfold rp at h
 refine b8 Tryz.f39 false ?_
 refine ae<|Wp.seq<|aE<|ar 1 118 aI p0<|ar 1 118 aI p1<|aa<|ak h (fun h=>ae<|by cases h;exact Wp.ret aj) fun h=>aC<|io (wA u=some r) ⟨[(4,.b false)],[],[]⟩ (fun h=>ae<|by cases h;exact Wp.ret aj)<|ae<|Wp.block<|dZ (fun iX p0 p1 x2=>kD u iX p0 p1 x2=some r) (fun p0 p1 x2=>⟨[(0,.t (.sl 3 (p0.map aI))),(1,.t (.sl 3 (p1.map aI))),(4,.b false),(5,.i x2)],[],[]⟩) (fun iX p0 p1 x2 h=>?_) h (lo []) (fun _ _ _  h=>nomatch h)
 rw [kD] at h
 exact Wp.seq<|aE<|ar 2 118 aI p0<|aa<|ak h (fun h=>aC<|Wp.seq<|Wp.block<|Wp.seq<|aL (jS []) (bR [(0,.frz),(1,.frz),(5,.frz),(17,.frz),(18,.frz),(19,.frz),(20,.frz),(21,.frz),(22,.frz),(23,.frz),(24,.frz),(25,.frz)]) kr kr<|aR 2 118 3 aI h fun y4 h _=>aR 3 118 3 aI h fun y5 h _=>ag false 1 25 [.agg ((aI y4).map .t),.agg ((aI y5).map .t)] h (fun _=>LE) fun r6 h=>aa<|ak h (fun h=>ae<|by cases h;exact Wp.ret aj) fun h=>Wp.skip<|bY<|aN<|aV [] []<|aa<|⟨_,_,_,h,lo []⟩) fun h=>Wp.exit<|aZ<|aZ<|de<|aN<|⟨h,lo []⟩
theorem Qv {u p0 p1 r} (h:u7 u p0 p1=some r):al Tryz.prog 81 [cO (cp p0),cO (cp p1)] (V.b r) []:=by
 unfold u7 at h
 refine b8 Tryz.f81 false ?_
 exact ae<|Wp.seq<|ae<|ak h (fun h=>ae<|by cases h;exact Wp.ret aj) fun h=>aC<|Wp.seq<|ae<|ak h (fun h=>ae<|by cases h;exact Wp.ret aj) fun h=>aC<|Wp.seq<|ae<|ak h (fun h=>ae<|by cases h;exact Wp.ret aj) fun h=>aC<|ae<|by cases h;exact Wp.ret aj
theorem NW {u p0 p1 r} (h:wB u p0 p1=some r):al Tryz.prog 40 [.one (.t (.sl 3 (p0.map cp))),.one (.t (.sl 3 (p1.map cp)))] (V.b r) []:=by
 unfold wB at h
 refine b8 Tryz.f40 false ?_
 refine ae<|Wp.seq<|aE<|ar 1 127 cp p0<|ar 1 127 cp p1<|aa<|ak h (fun h=>ae<|by cases h;exact Wp.ret aj) fun h=>aC<|io (zF u=some r) ⟨[(4,.b false)],[],[]⟩ (fun h=>ae<|by cases h;exact Wp.ret aj)<|ae<|Wp.block<|dZ (fun kM p0 p1 x2=>nx u kM p0 p1 x2=some r) (fun p0 p1 x2=>⟨[(0,.t (.sl 3 (p0.map cp))),(1,.t (.sl 3 (p1.map cp))),(4,.b false),(5,.i x2)],[],[]⟩) (fun kM p0 p1 x2 h=>?_) h (lo []) (fun _ _ _  h=>nomatch h)
 rw [nx] at h
 exact Wp.seq<|aE<|ar 2 127 cp p0<|aa<|ak h (fun h=>aC<|Wp.seq<|Wp.block<|Wp.seq<|aL (jS []) (bR [(0,.frz),(1,.frz),(5,.frz),(17,.frz),(18,.frz),(19,.frz),(20,.frz),(21,.frz),(22,.frz),(23,.frz),(24,.frz),(25,.frz)]) kr kr<|aR 2 127 3 cp h fun y4 h _=>aR 3 127 3 cp h fun y5 h _=>ag false 1 25 [.agg ((cp y4).map .t),.agg ((cp y5).map .t)] h (fun _=>Qv) fun r6 h=>aa<|ak h (fun h=>ae<|by cases h;exact Wp.ret aj) fun h=>Wp.skip<|bY<|aN<|aV [] []<|aa<|⟨_,_,_,h,lo []⟩) fun h=>Wp.exit<|aZ<|aZ<|de<|aN<|⟨h,lo []⟩
theorem NX {u p0 p1 r} (h:wC u p0 p1=some r):al Tryz.prog 9 [cO (bw p0),cO (bw p1)] (V.b r) []:=by
 unfold wC at h
 refine b8 Tryz.f9 false ?_
 exact ae<|Wp.seq<|aK false 4 9 [.agg ((pG p0.fC).map .t),.agg ((pG p1.fC).map .t)] h (fun _=>Qn) fun r1 h=>ak h (fun h=>ae<|by cases h;exact Wp.ret aj) fun h=>aC<|Wp.seq<|aK false 4 15 [.agg [.t (.sl 1 (p0.fT.cx.map (aw .i64)))],.agg [.t (.sl 1 (p1.fT.cx.map (aw .i64)))]] h (fun _=>Qp) fun r2 h=>ak h (fun h=>ae<|by cases h;exact Wp.ret aj) fun h=>aC<|Wp.seq<|aK false 4 21 [.s p0.jj,.s p1.jj] h (fun _=>ll) fun r3 h=>ak h (fun h=>ae<|by cases h;exact Wp.ret aj) fun h=>aC<|Wp.seq<|aK false 4 27 [.t (.sl 1 (p0.f6.map bd)),.t (.sl 1 (p1.f6.map bd))] h (fun _=>LD) fun r4 h=>ak h (fun h=>ae<|by cases h;exact Wp.ret aj) fun h=>aC<|Wp.seq<|aK false 4 33 [.t (.sl 12 (p0.fN.map ay)),.t (.sl 12 (p1.fN.map ay))] h (fun _=>NU) fun r5 h=>ak h (fun h=>ae<|by cases h;exact Wp.ret aj) fun h=>aC<|Wp.seq<|aK false 4 39 [.t (.sl 6 (p0.fD.map aB)),.t (.sl 6 (p1.fD.map aB))] h (fun _=>NV) fun r6 h=>ak h (fun h=>ae<|by cases h;exact Wp.ret aj) fun h=>aC<|Wp.seq<|aK false 4 45 [.t (.sl 3 (p0.dX.map aI)),.t (.sl 3 (p1.dX.map aI))] h (fun _=>JC) fun r7 h=>ak h (fun h=>ae<|by cases h;exact Wp.ret aj) fun h=>aC<|Wp.seq<|aK false 4 51 [.t (.sl 3 (p0.p5.map cp)),.t (.sl 3 (p1.p5.map cp))] h (fun _=>NW) fun r8 h=>pm ⟨[(2,.obj 2 0),(3,.obj 3 0),(4,.b false),(52,.b (!r8))],[(2,((bw p0).map .t)),(3,((bw p1).map .t))],[]⟩<|ak h (fun h=>ae<|by cases h;exact Wp.ret aj) fun h=>aC<|Wp.seq<|ae<|ak h (fun h=>ae<|by cases h;exact Wp.ret aj) fun h=>aC<|ae<|by cases h;exact Wp.ret aj
theorem D1 {u p0 r} (h:lw u p0=some r):al Tryz.prog 4 [cO (bw p0)] (V.b r) []:=by
 unfold lw at h
 refine b8 Tryz.f4 false ?_
 exact ae<|ae<|aK false 2 9 [.agg ((bw p0).map .t),.i 1048576] h (fun _=>Nd) fun r1 h=>Wp.seq<|ae<|ak h (fun h=>ae<|by cases h;exact Wp.ret aj) fun h=>aC<|aE<|ag false 1 13 [.agg ((bw p0).map .t)] h (fun _=>zG) fun r2 h=>eY 0 14 [.agg [.i r2.fC.aS,.i r2.fC.gB,.i r2.fC.eo,.i r2.fC.ik,.own 851972,.own 851973,.own 851974,.own 851975,.own 851976,.own 851977,.own 851978,.i r2.qO]] h (fun _=>Nz) fun r3 h=>aa<|aK false 1 16 [.agg ((bw p0).map .t)] h (fun _=>zG) fun r4 h=>aE<|eY 1 18 [.agg [.i r4.fC.aS,.i r4.fC.gB,.i r4.fC.eo,.i r4.fC.ik,.own 1048580,.own 1048581,.own 1048582,.own 1048583,.own 1048584,.own 1048585,.own 1048586,.i r4.qO]] h (fun _=>NR) fun r5 h=>aa<|Wp.seq<|ae<|ak h (fun h=>ae<|by cases h;exact Wp.ret aj) fun h=>aC<|Wp.seq<|Wp.seq<|Wp.le (Le.trans (mW 5 4 1048580 3 1 [.i r4.fC.aS,.i r4.fC.gB,.i r4.fC.eo,.i r4.fC.ik,.own 1048580,.own 1048581,.own 1048582,.own 1048583,.own 1048584,.own 1048585,.own 1048586,.i r4.qO] (r4.fT.cx.map (aw .i64)) kr kr kr) (Le.trans (mW 5 5 1048581 5 1 [.i r4.fC.aS,.i r4.fC.gB,.i r4.fC.eo,.i r4.fC.ik,.t (.sl 1 (r4.fT.cx.map (aw .i64))),.own 1048581,.own 1048582,.own 1048583,.own 1048584,.own 1048585,.own 1048586,.i r4.qO] (r4.jj.map (aw .u8)) kr kr kr) (Le.trans (mW 5 6 1048582 121 1 [.i r4.fC.aS,.i r4.fC.gB,.i r4.fC.eo,.i r4.fC.ik,.t (.sl 1 (r4.fT.cx.map (aw .i64))),.s r4.jj,.own 1048582,.own 1048583,.own 1048584,.own 1048585,.own 1048586,.i r4.qO] (r4.f6.map bd) kr kr kr) (Le.trans (mW 5 7 1048583 111 12 [.i r4.fC.aS,.i r4.fC.gB,.i r4.fC.eo,.i r4.fC.ik,.t (.sl 1 (r4.fT.cx.map (aw .i64))),.s r4.jj,.t (.sl 1 (r4.f6.map bd)),.own 1048583,.own 1048584,.own 1048585,.own 1048586,.i r4.qO] (r4.fN.map ay) kr kr kr) (Le.trans (mW 5 8 1048584 116 6 [.i r4.fC.aS,.i r4.fC.gB,.i r4.fC.eo,.i r4.fC.ik,.t (.sl 1 (r4.fT.cx.map (aw .i64))),.s r4.jj,.t (.sl 1 (r4.f6.map bd)),.t (.sl 12 (r4.fN.map ay)),.own 1048584,.own 1048585,.own 1048586,.i r4.qO] (r4.fD.map aB) kr kr kr) (Le.trans (mW 5 9 1048585 118 3 [.i r4.fC.aS,.i r4.fC.gB,.i r4.fC.eo,.i r4.fC.ik,.t (.sl 1 (r4.fT.cx.map (aw .i64))),.s r4.jj,.t (.sl 1 (r4.f6.map bd)),.t (.sl 12 (r4.fN.map ay)),.t (.sl 6 (r4.fD.map aB)),.own 1048585,.own 1048586,.i r4.qO] (r4.dX.map aI) kr kr kr) (mW 5 10 1048586 127 3 [.i r4.fC.aS,.i r4.fC.gB,.i r4.fC.eo,.i r4.fC.ik,.t (.sl 1 (r4.fT.cx.map (aw .i64))),.s r4.jj,.t (.sl 1 (r4.f6.map bd)),.t (.sl 12 (r4.fN.map ay)),.t (.sl 6 (r4.fD.map aB)),.t (.sl 3 (r4.dX.map aI)),.own 1048586,.i r4.qO] (r4.p5.map cp) kr kr kr)))))))<|aL (jS []) (bR [(1,.obj 1),(5,.obj 5),(22,.frz),(23,.frz),(24,.own 24),(25,.frz)]) kr kr<|ag false 2 24 [.agg ((bw p0).map .t)] h (fun _=>zG) fun r6 h=>eY 0 25 [.agg ((bw r4).map .t),.agg [.i r6.fC.aS,.i r6.fC.gB,.i r6.fC.eo,.i r6.fC.ik,.own 1572868,.own 1572869,.own 1572870,.own 1572871,.own 1572872,.own 1572873,.own 1572874,.i r6.qO]] h (fun _=>NX) fun r7 h=>aa<|pm ⟨[(2,.b false),(26,.b (!r7))],[],[]⟩<|ak h (fun h=>ae<|by cases h;exact Wp.ret aj) fun h=>aC<|ae<|by cases h;exact Wp.ret aj
end Go.Tm
