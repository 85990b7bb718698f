/- The translated functions do what the pure ones say. -/
import Derived.Test.YtdcoelkflgpfgaaGreatDoorCFnTextsK2
import Derived.Shelf.Strings.OnBuilder
import Derived.Test.YtdcoelkflgpfgaaGreatDoorProg
set_option maxRecDepth 100000
set_option maxHeartbeats 20000000
set_option linter.unusedVariables false
set_option linter.unusedSimpArgs false
open Int renaming toNat->sY
open List renaming replicate->zQq
open ByteArray renaming mk->zm
open Go.IntKind renaming wrap->Ir
open Go.Proofs.Tryz renaming prog->aam
open Go.Proofs.Tryz (f142 f73 f93 f56 f29 f11 f94 f57 f30 f12 f58 f95 f96 f59 f40 f31 f13 f63 f42 f64 f33 f14 f70 f71 f72 f113 f74 f43 f44 f21 f15 f46 f22 f16 f100 f65 f66 f35 f34 f17 f67 f68 f37 f36 f18 f39 f19 f20 f23 f3)
namespace Go.Tm
open Go.Proofs
theorem sE{u p0 p1 r}(h:gG u p0 p1=some r):aD aam 163 [.fptr [.sl 1 (p0.fA.map (aj .u8)),.sl 1 (p0.fB.map (aj .u8)),.int .i64 p0.fR.aH,.int .i64 p0.fR.b8,.int .i64 p0.fR.aT,.sl 6 (p0.fP.map bf)],V.i p1] (.fptr [.sl 1 (r.map (aj .u8))]) []:=by
 unfold gG at h;refine da Tryz.f163 false ?_;refine ag<|ap<|ag<|au h (λh=>?_) (λh=>?_)
 ·refine ag<|Wp.ret<|qa5 ?_
  obtain rfl:=Option.some.inj h;exact qa4 [.fadr (al p0)] (.fptr ([.sl 1 (p0.fA.map (aj .u8))]++[.sl 1 (p0.fB.map (aj .u8)),.int .i64 p0.fR.aH,.int .i64 p0.fR.b8,.int .i64 p0.fR.aT,.sl 6 (p0.fP.map bf)])) [] kr kr (.cut _ _) .nil
 refine aQ<|ag<|Wp.ret ?_
 obtain rfl:=Option.some.inj h;exact qa4 [.fadr [.sl 1 (p0.fB.map (aj .u8)),.int .i64 p0.fR.aH,.int .i64 p0.fR.b8,.int .i64 p0.fR.aT,.sl 6 (p0.fP.map bf)]] (.fptr ([.sl 1 (p0.fB.map (aj .u8))]++[.int .i64 p0.fR.aH,.int .i64 p0.fR.b8,.int .i64 p0.fR.aT,.sl 6 (p0.fP.map bf)])) [] kr kr (.cut _ _) .nil
theorem Pm{u p0 r}(h:yP u p0=some r):aD aam 194 [eP (bf p0)] (V.b r) []:=by
 unfold yP at h;refine da Tryz.f194 false ?_;exact ag<|ap<|ag<|au h (λh=>aE<|aA 4 9 h (λh=>aM 2 5 (aj .u8) p0.fB<|aA 3 15 h (λh=>ai false 2 18 [.agg ((tr p0.fR).map .t)] h (λ_=>BE) λr1 h=>ae<|jn) λh=>ae<|jn) λh=>ae<|jn) λh=>aQ<|aE<|ai false 2 22 [.i p0.mi] h (λ_=>DT) λr2 h=>aA 1 23 h (λh=>aA 6 29 h (λh=>aM 4 5 (aj .u8) p0.fB<|ai false 1 36 [.i p0.Di,.i 0,.i (cG .i64 240 ((p0.fB.length:Int)))] h (λ_=>cg) λr3 h=>ae<|jn) λh=>ae<|jn) λh=>ae<|jn
theorem Jt{u p0 r}(h:si u p0=some r):aD aam 193 [eP (bf p0)] (V.b r) []:=by
 unfold si at h;refine da Tryz.f193 false ?_;exact ag<|aV false 1 4 [.agg ((bf p0).map .t)] h (λ_=>Pm) λr1 h=>jn
theorem kO{u p0 r}(h:cL u p0=some r):aD aam 217 [.one (.t (.sl 6 (p0.map bf))),.clo 193 []] (V.i r) []:=by
 unfold cL at h;refine da Tryz.f217 false ?_;refine ag<|tN r (λk=>k (dj u) ⟨[(4,.i 0)],[],[]⟩) rfl (λh=>dg)<|aE<|aM 1 148 bf p0<|ae<|cx<|yX r (λbK p0 x2 k=>k (bN u bK p0 x2) ⟨[(0,.t (.sl 6 (p0.map bf))),(1,.clo 193 []),(4,.i 0),(7,.i ((p0.length:Int))),(8,.i x2)],[],[]⟩) rfl (λbK p0 x2 h=>?_) h (lo []) (λ_ _  h=>nomatch h)
 rw [bN] at h;exact ag<|ap<|au h (λh=>aQ<|ap<|cx<|ag<|aE<|bR 3 148 6 bf h λy4 h _=>ai false 1 16 [.agg ((bf y4).map .t)] h (λ_=>Jt) λr5 h=>ae<|au h (λh=>dg) λh=>ld<|em<|ck<|fg [] []<|Fb) λh=>Uz
theorem jN{u p0 r}(h:b6 u p0=some r):aD aam 192 [.one (.t (.sl 6 (p0.map bf))),.clo 193 []] (V.b r) []:=by
 unfold b6 at h;refine da Tryz.f192 false ?_;exact ag<|aV false 2 7 [.t (.sl 6 (p0.map bf)),.clo 193 []] h (λ_=>kO) λr1 h=>jn
theorem NC{u p0 r}(h:wO u p0=some r):aD aam 162 [eP (al p0)] (V.b r) []:=by
 unfold wO at h;refine da Tryz.f162 false ?_;exact ag<|ap<|js r (λp0 x3 k=>k (nJ u p0 x3) ⟨[(1,.fadr (al p0)),(2,.b false),(31,.b x3)],[],[]⟩) rfl (λp0 x3 h=>au h (λh=>dg) λh=>aQ<|aE<|aM 2 148 bf p0.fP<|aA 2 36 h (λh=>ai false 2 39 [.t (.sl 6 (p0.fP.map bf)),.clo 193 []] h (λ_=>jN) λr4 h=>ae<|jn) λh=>ae<|jn)<|Wp.le (SL 1 (al p0) kr kr)<|bP [] [(1073608698,.frz)]<|aM 2 5 (aj .u8) p0.fA<|aA 2 7 h (λh=>Fb) λh=>aM 2 5 (aj .u8) p0.fB<|aA 3 13 h (λh=>Fb) λh=>ai false 2 16 [.agg ((tr p0.fR).map .t)] h (λ_=>BE) λr1 h=>aA 3 19 h (λh=>Fb) λh=>ai false 6 26 [.fadr (al p0),.i p0.fR.b8] h (λ_=>sE) λr2 h=>aM 2 5 (aj .u8) r2<|Fb
theorem zf{u p0 r}(h:lg u p0=some r):aD aam 142 [.one (.s p0)] (.one (.ow 5 1 (r.map (aj .u8)))) []:=by
 unfold lg at h;refine da f142 true ?_;refine ag<|aE<|aM 1 5 (aj .u8) p0 ?_
 obtain ⟨_,e_1,h⟩:=aan h;obtain ⟨_,e_2,h⟩:=aan h;exact Hu (aj .u8) (0:Int) 5 5 1 1 0 ((p0.length:Int)) rfl rfl kr kr kr kr kr kr (aK e_1) (of_decide_eq_true (aK e_2)) kr<|bt 1 7 5 1 327680 (aj .u8) h λh=>ae<|jn
theorem Lm{u p0 r}(h:uG u p0=some r):aD aam 129 [eP (al p0)] (.tup [V.i r.1,.one (.ow 5 1 (r.2.map (aj .u8)))]) []:=by
 unfold uG at h;refine da Tryz.f129 true ?_;refine ag<|ap<|aV false 1 5 [.agg ((al p0).map .t)] h (λ_=>NC) λr1 h=>au h (λh=>dg) λh=>aQ<|ap<|Wp.le (SL 1 (al p0) kr kr)<|bP [] [(1048450,.frz),(1048576,.own 20)]<|ai false 6 13 [.fadr (al p0),.i p0.fR.b8] h (λ_=>sE) λr2 h=>ah 5 kr ?_
 obtain ⟨_,e_3,h⟩:=aan h;exact eX (e:=5) (ax:=.s r2) (alo:=none) (ahi:=(some (.i p0.fR.aT))) (aj .u8) r2 1 0 p0.fR.aT rfl kr kr kr kr kr kr kr kr kr kr kr (aK e_3)<|ai false 0 20 [.t (.bb ((r2.take (sY p0.fR.aT)).drop (sY 0)))] h (λ_=>zf) λr4 h=>ae<|jn
theorem ND{u p0 p1 r}(h:Dm u p0 p1=some r):aD aam 112 [.one (.s p0),.one (.s p1)] (V.b r) []:=by
 unfold Dm at h;refine da Tryz.f112 false ?_;exact ag<|aE<|ah 1 kr<|sB (y:=.s p0) (e:=5) p0 1 rfl kr kr kr kr kr kr kr<|ah 1 kr<|sB (y:=.s p1) (e:=5) p1 1 rfl kr kr kr kr kr kr kr<|ae<|jn
theorem Ap{u p0 p1 r}(h:p7 u p0 p1=some r):aD aam 73 [.one (.s p0),.one (.s p1)] (V.b r) []:=by
 unfold p7 at h;refine da f73 false ?_;exact ag<|aV false 2 7 [.s p0,.s p1] h (λ_=>ND) λr1 h=>jn
theorem Fj{u p0 p1 p2 r}(h:vL u p0 p1 p2=some r):aD aam 93 [eP (al p0),V.i p1,.one (.s p2)] (V.b r) []:=by
 unfold vL at h;refine da f93 false ?_;exact ag<|aV false 1 11 [.agg ((al p0).map .t)] h (λ_=>Lm) λr1 h=>aE<|aA 4 17 h (λh=>ce 2 20 [.own 721920,.s p2] h (λ_=>Ap) λr2 h=>ae<|jn) λh=>ae<|jn
theorem Ln{u p0 p1 r}(h:qW u p0 p1=some r):aD aam 56 [eP (bm p0),V.i p1] (V.i r) []:=by
 unfold qW at h;refine da f56 false ?_;exact ag<|ap<|cx<|dn r (λp1 x3 p0 k=>k (ta u p1 x3 p0) ⟨[(1,.i p1),(2,.obj 2 0),(4,.i 0),(5,.b x3)],[(2,((bm p0).map .t))],[]⟩) rfl (λp1 x3 p0 h=>au h (λh=>dg) λh=>ap<|bP [] [(34074525698,.frz),(276824068,.obj 2)]<|bR 3 109 6 al h λy4 h _=>bR 4 112 1 bA h λy5 h _=>ai false 2 34 [.agg ((al y4).map .t),.i 0,.s y5.fB] h (λ_=>Fj) λr6 h=>ae<|au h (λh=>dg) λh=>ap<|bP [] [(15255723835394,.frz),(2267742732292,.obj 2)]<|bR 3 109 6 al h λy7 h _=>ai false 3 43 [.agg ((al y7).map .t),.i 1,.s p0.ct] h (λ_=>Fj) λr8 h=>ae<|au h (λh=>dg) λh=>ld<|em<|ck<|dg)<|fg [] []<|aM 3 109 al p0.fD<|ai false 1 11 [.i p1,.i 0,.i (cG .i64 ((p0.fD.length:Int)) 1)] h (λ_=>cg) λr1 h=>aA 2 13 h (λh=>nU) λh=>aM 3 112 bA p0.ca<|ai false 1 19 [.i p1,.i 0,.i (cG .i64 ((p0.ca.length:Int)) 1)] h (λ_=>cg) λr2 h=>nU
theorem NE{u p0 r}(h:wP u p0=some r):aD aam 29 [eP (bm p0)] (.one (.ow 3 1 (r.map (aj .i64)))) []:=by
 unfold wP at h;refine da f29 true ?_;refine ag<|ag<|ff r (λx9 k=>k (p8 u x9) ⟨[(2,.nil),(3,.own 196609)],[],[(196609,.live 3 1 (x9.map (aj .i64)))]⟩) rfl (λx9 h=>dg)<|aE<|aM 2 65 aw p0.fN<|ae<|cx<|fh r (λir x3 p0 x4 k=>k (j8 u ir x3 p0 x4) ⟨[(1,.obj 1 0),(2,.nil),(3,.own 196609),(8,.i ((p0.fN.length:Int))),(9,.i x4)],[(1,((bm p0).map .t))],[(196609,.live 3 1 (x3.map (aj .i64)))]⟩) rfl (λir x3 p0 x4 h=>?_) h (lo [(196609,327680)]) (λ_ _ _  h=>nomatch h)
 rw [j8] at h;exact ag<|ap<|au h (λh=>aQ<|dn r (λx8 p0 x4 k=>k (lX u (j8 u ir) x8 p0 x4) ⟨[(1,.obj 1 0),(2,.nil),(3,.own 196609),(8,.i ((p0.fN.length:Int))),(9,.i x4)],[(1,((bm p0).map .t))],[(196609,.live 3 1 (x8.map (aj .i64)))]⟩) rfl (λx8 p0 x4 h=>fg [] []<|nU)<|cx<|ag<|ag<|au h (λh=>fg [] []<|ai false 3 17 [.agg ((bm p0).map .t),.i x4] h (λ_=>Ln) λr7 h=>bt 1 19 3 1 196609 (aj .i64) h λh=>be<|⟨_,_,_,h,lo [(196609,1245184)]⟩) λh=>ld<|em<|ck<|Q4) λh=>F2
theorem HF{u p0 r}(h:p9 u p0=some r):aD aam 11 [eP (bm p0)] (.one (.t (.str r))) []:=by
 unfold p9 at h;refine da f11 false ?_;refine ag<|ag<|ff r (λx10 k=>k (uH u x10) ⟨[(2,.t (.str ((zm #[])))),(3,.t (.str x10))],[],[]⟩) rfl (λx10 h=>dg)<|aE<|ai false 1 7 [.agg ((bm p0).map .t)] h (λ_=>NE) λr1 h=>aM 0 3 (aj .i64) r1<|ae<|cx<|fh r (λeg x4 r1 x5 k=>k (eY u eg x4 r1 x5) ⟨[(2,.t (.str ((zm #[])))),(3,.t (.str x4)),(7,.own 458753),(8,.i ((r1.length:Int))),(9,.i x5)],[],[(458753,.live 3 1 (r1.map (aj .i64)))]⟩) rfl (λeg x4 r1 x5 h=>?_) h (lo [(458753,458752)]) (λ_ _ _  h=>nomatch h)
 rw [eY] at h;refine ag<|ap<|au h (λh=>?_) (λh=>?_)
 ·refine aQ<|dn r (λx9 r1 x5 k=>k (gp u (eY u eg) x9 r1 x5) ⟨[(2,.t (.str ((zm #[])))),(3,.t (.str x9)),(7,.own 458753),(8,.i ((r1.length:Int))),(9,.i x5)],[],[(458753,.live 3 1 (r1.map (aj .i64)))]⟩) rfl (λx9 r1 x5 h=>fg [] []<|nU)<|cx<|aE<|bE 0 3 1 458753 3 (aj .i64) h λy8 h e_y8=>cW 0 1 1 458753 0 3 false (aj .i64) ((bB e_y8).2)<|ae<|ag<|cx<|ag<|au h (λh=>?_) (λh=>?_)
  ·refine fg [] []<|ah 1 kr ?_
   obtain ⟨_,e_9,h⟩:=aan h;exact bL x4 ((zm #[111])) rfl kr kr kr kr (of_decide_eq_true (aK e_9))<|ab.all kr<|em<|em<|ck<|Q4
  refine ag<|au h (λh=>?_) (λh=>?_)
  ·refine fg [] []<|ah 1 kr ?_
   obtain ⟨_,e_10,h⟩:=aan h;exact bL x4 ((zm #[110])) rfl kr kr kr kr (of_decide_eq_true (aK e_10))<|ab.all kr<|em<|em<|ck<|Q4
  refine fg [] []<|ah 1 kr ?_
  obtain ⟨_,e_11,h⟩:=aan h;exact bL x4 ((zm #[63])) rfl kr kr kr kr (of_decide_eq_true (aK e_11))<|ab.all kr<|em<|em<|ck<|Q4
 exact F2
theorem Fk{u p0 p1 p2 r}(h:vM u p0 p1 p2=some r):aD aam 94 [eP (al p0),V.i p1,.one (.s p2)] (V.b r) []:=by
 unfold vM at h;refine da f94 false ?_;exact ag<|aV false 1 11 [.agg ((al p0).map .t)] h (λ_=>CW) λr1 h=>aE<|aA 4 17 h (λh=>ce 2 20 [.own 721920,.s p2] h (λ_=>Aj) λr2 h=>ae<|jn) λh=>ae<|jn
theorem Lo{u p0 p1 r}(h:qX u p0 p1=some r):aD aam 57 [eP (bm p0),V.i p1] (V.i r) []:=by
 unfold qX at h;refine da f57 false ?_;exact ag<|ap<|dn r (λp1 x2 p0 k=>k (tc u p1 x2 p0) ⟨[(1,.i p1),(2,.obj 2 0),(4,.i 0),(18,.b x2)],[(2,((bm p0).map .t))],[]⟩) rfl (λp1 x2 p0 h=>au h (λh=>dg) λh=>aQ<|ap<|cx<|ap<|bP [] [(4259315714,.frz),(34603012,.obj 2)]<|bR 3 109 6 al h λy3 h _=>bR 4 112 1 bA h λy4 h _=>ai false 2 31 [.agg ((al y3).map .t),.i 0,.s y4.fB] h (λ_=>Fk) λr5 h=>ae<|au h (λh=>dg) λh=>ap<|bP [] [(1906965479426,.frz),(283467841540,.obj 2)]<|bR 3 109 6 al h λy6 h _=>ai false 3 40 [.agg ((al y6).map .t),.i 1,.s p0.ct] h (λ_=>Fk) λr7 h=>ae<|au h (λh=>dg) λh=>ld<|em<|ck<|dg)<|fg [] []<|aM 3 109 al p0.fD<|ai false 1 10 [.i p1,.i 0,.i (cG .i64 ((p0.fD.length:Int)) 1)] h (λ_=>bi) λr1 h=>aA 2 12 h (λh=>nU) λh=>aM 3 112 bA p0.ca<|nU
theorem NF{u p0 r}(h:wQ u p0=some r):aD aam 30 [eP (bm p0)] (.one (.ow 3 1 (r.map (aj .i64)))) []:=by
 unfold wQ at h;refine da f30 true ?_;refine ag<|ag<|ff r (λx8 k=>k (yQ u x8) ⟨[(2,.nil),(3,.own 196609)],[],[(196609,.live 3 1 (x8.map (aj .i64)))]⟩) rfl (λx8 h=>dg)<|ag<|cx<|fh r (λlI x3 x4 p0 k=>k (lY u lI x3 x4 p0) ⟨[(1,.obj 1 0),(2,.nil),(3,.own 196609),(4,.i x4)],[(1,((bm p0).map .t))],[(196609,.live 3 1 (x3.map (aj .i64)))]⟩) rfl (λlI x3 x4 p0 h=>?_) h (lo [(196609,327680)]) (λ_ _ _  h=>nomatch h)
 rw [lY] at h;exact ap<|aE<|aM 3 65 aw p0.fN<|ae<|au h (λh=>aQ<|ap<|cx<|fg [] []<|ai false 3 16 [.agg ((bm p0).map .t),.i x4] h (λ_=>Lo) λr7 h=>bt 1 18 3 1 196609 (aj .i64) h λh=>be<|fg [] []<|ae<|⟨_,_,_,h,lo [(196609,1179648)]⟩) λh=>F2
theorem HG{u p0 r}(h:qa u p0=some r):aD aam 12 [eP (bm p0)] (.one (.t (.str r))) []:=by
 unfold qa at h;refine da f12 false ?_;refine ag<|ag<|aV false 1 7 [.agg ((bm p0).map .t)] h (λ_=>NF) λr1 h=>ff r (λx10 k=>k (uI u x10) ⟨[(2,.t (.str ((zm #[])))),(3,.t (.str x10))],[],[]⟩) rfl (λx10 h=>dg)<|ag<|cx<|fh r (λeh x4 r1 x5 k=>k (eZ u eh x4 r1 x5) ⟨[(2,.t (.str ((zm #[])))),(3,.t (.str x4)),(4,.own 262145),(5,.i x5)],[],[(262145,.live 3 1 (r1.map (aj .i64)))]⟩) rfl (λeh x4 r1 x5 h=>?_) h (lo [(262145,458752)]) (λ_ _ _  h=>nomatch h)
 rw [eZ] at h;refine ap<|aE<|aM 2 3 (aj .i64) r1<|ae<|au h (λh=>?_) (λh=>?_)
 ·refine aQ<|dn r (λx9 r1 x5 k=>k (gq u (eZ u eh) x9 r1 x5) ⟨[(2,.t (.str ((zm #[])))),(3,.t (.str x9)),(4,.own 262145),(5,.i x5)],[],[(262145,.live 3 1 (r1.map (aj .i64)))]⟩) rfl (λx9 r1 x5 h=>fg [] []<|nU)<|cx<|aE<|bE 2 3 1 262145 3 (aj .i64) h λy8 h e_y8=>cW 0 1 1 262145 0 3 false (aj .i64) ((bB e_y8).2)<|ae<|cx<|ag<|au h (λh=>?_) (λh=>?_)
  ·refine fg [] []<|ah 1 kr ?_
   obtain ⟨_,e_9,h⟩:=aan h;exact bL x4 ((zm #[111])) rfl kr kr kr kr (of_decide_eq_true (aK e_9))<|ab.all kr<|em<|em<|ck<|Q4
  refine ag<|au h (λh=>?_) (λh=>?_)
  ·refine fg [] []<|ah 1 kr ?_
   obtain ⟨_,e_10,h⟩:=aan h;exact bL x4 ((zm #[110])) rfl kr kr kr kr (of_decide_eq_true (aK e_10))<|ab.all kr<|em<|em<|ck<|Q4
  refine fg [] []<|ah 1 kr ?_
  obtain ⟨_,e_11,h⟩:=aan h;exact bL x4 ((zm #[63])) rfl kr kr kr kr (of_decide_eq_true (aK e_11))<|ab.all kr<|em<|em<|ck<|Q4
 exact F2
theorem NG{u p0 r}(h:wR u p0=some r):aD aam 58 [V.i p0] (.one (.t (.str r))) []:=by
 unfold wR at h;refine da f58 false ?_;exact ag<|ap<|aV false 1 4 [.i p0,.i 0,.i 6] h (λ_=>cg) λr1 h=>au h (λh=>dg) λh=>aQ<|aE<|bE 2 9 1 393216 9 xB h λy2 h e_y2=>cW 0 1 1 393216 0 9 false xB ((bB e_y2).2)<|ae<|jn
theorem AN{u p0 r}(h:tH u p0=some r):aD aam 95 [V.i p0] (V.b r) []:=by
 unfold tH at h;refine da f95 false ?_;exact ag<|aV false 1 4 [.i p0,.i 0,.i 1099511627775] h (λ_=>cg) λr1 h=>jn
theorem EZ{u p0 r}(h:nK u p0=some r):aD aam 96 [.one (.t (.int .u64 p0))] (V.i r) []:=by
 unfold nK at h;refine da f96 false ?_;exact ag<|ag<|ag<|ag<|ag<|ag<|ag<|dg
theorem vZ{u p0 r}(h:lh u p0=some r):aD aam 59 [V.i p0] (V.i r) []:=by
 unfold lh at h;refine da f59 false ?_;exact ag<|ap<|aV false 1 4 [.i p0] h (λ_=>AN) λr1 h=>au h (λh=>dg) λh=>aQ<|aV false 2 8 [.t (.int .u64 (Ir .u64 p0))] h (λ_=>EZ) λr2 h=>jn
def Rb:Go.Shelf.Ren:=⟨λ| 171=>69 | 243=>103 | 246=>134 | 283=>165 | 284=>166 | 285=>167 | 286=>168 | 129=>196 | 317=>195 | 318=>197 | 319=>198 | 320=>199 | 337=>218 | 338=>219 | n=>n,λ| 3=>3 | 9=>9 | 2=>2 | 4=>4 | 171=>178 | 0=>0 | 53=>129 | 37=>22 | 5=>5 | 173=>180 | 212=>198 | 51=>199 | 20=>20 | 213=>200 | 46=>113 | 232=>232 | 233=>233 | n=>n,λ| 17=>1 | 18=>2 | 19=>3 | n=>n⟩
theorem XW:Go.Proofs.LaysM.n171 aam Rb:={
 mixed:=by kernel_rfl,
 f129:=Tryz.func196.trans (congrArg some kr),
 f171:=Tryz.func69.trans (congrArg some kr),
 f243:=Tryz.func103.trans (congrArg some kr),
 f246:=Tryz.func134.trans (congrArg some kr),
 f283:=Tryz.func165.trans (congrArg some kr),
 f284:=Tryz.func166.trans (congrArg some kr),
 f285:=Tryz.func167.trans (congrArg some kr),
 f286:=Tryz.func168.trans (congrArg some kr),
 f317:=Tryz.func195.trans (congrArg some kr),
 f318:=Tryz.func197.trans (congrArg some kr),
 f319:=Tryz.func198.trans (congrArg some kr),
 f320:=Tryz.func199.trans (congrArg some kr),
 f337:=Tryz.func218.trans (congrArg some kr),
 f338:=Tryz.func219.trans (congrArg some kr),
 t0:=Tryz.underlying0,
 a0:=Tryz.isAgg0,
 z0:=Tryz.sizeOf0,
 v0:=Tryz.zeroValue0,
 t2:=Tryz.underlying2,
 a2:=Tryz.isAgg2,
 z2:=Tryz.sizeOf2,
 v2:=Tryz.zeroValue2,
 t3:=Tryz.underlying3,
 a3:=Tryz.isAgg3,
 z3:=Tryz.sizeOf3,
 v3:=Tryz.zeroValue3,
 t4:=Tryz.underlying4,
 a4:=Tryz.isAgg4,
 z4:=Tryz.sizeOf4,
 v4:=Tryz.zeroValue4,
 t5:=Tryz.underlying5,
 a5:=Tryz.isAgg5,
 z5:=Tryz.sizeOf5,
 v5:=Tryz.zeroValue5,
 t9:=Tryz.underlying9,
 a9:=Tryz.isAgg9,
 z9:=Tryz.sizeOf9,
 v9:=Tryz.zeroValue9,
 t20:=Tryz.underlying20,
 a20:=Tryz.isAgg20,
 z20:=Tryz.sizeOf20,
 v20:=Tryz.zeroValue20,
 t37:=Tryz.underlying22,
 a37:=Tryz.isAgg22,
 z37:=Tryz.sizeOf22,
 v37:=Tryz.zeroValue22,
 t46:=Tryz.underlying113,
 a46:=Tryz.isAgg113,
 z46:=Tryz.sizeOf113,
 v46:=Tryz.zeroValue113,
 t51:=Tryz.underlying199,
 a51:=Tryz.isAgg199,
 z51:=Tryz.sizeOf199,
 v51:=Tryz.zeroValue199,
 t53:=Tryz.underlying129,
 a53:=Tryz.isAgg129,
 z53:=Tryz.sizeOf129,
 v53:=Tryz.zeroValue129,
 t171:=Tryz.underlying178,
 a171:=Tryz.isAgg178,
 z171:=Tryz.sizeOf178,
 v171:=Tryz.zeroValue178,
 t173:=Tryz.underlying180,
 a173:=Tryz.isAgg180,
 z173:=Tryz.sizeOf180,
 v173:=Tryz.zeroValue180,
 t212:=Tryz.underlying198,
 a212:=Tryz.isAgg198,
 z212:=Tryz.sizeOf198,
 v212:=Tryz.zeroValue198,
 t213:=Tryz.underlying200,
 a213:=Tryz.isAgg200,
 z213:=Tryz.sizeOf200,
 t232:=Tryz.underlying232,
 a232:=Tryz.isAgg232,
 z232:=Tryz.sizeOf232,
 v232:=Tryz.zeroValue232,
 t233:=Tryz.underlying233,
 a233:=Tryz.isAgg233,
 z233:=Tryz.sizeOf233,
 v233:=Tryz.zeroValue233,
 g17:=by kernel_rfl,
 g18:=by kernel_rfl,
 g19:=by kernel_rfl,
 i0:=by kernel_rfl,
 i2:=by kernel_rfl,
 i3:=by kernel_rfl,
 i4:=by kernel_rfl,
 i5:=by kernel_rfl,
 i9:=by kernel_rfl,
 i20:=by kernel_rfl,
 i37:=by kernel_rfl,
 i46:=by kernel_rfl,
 i51:=by kernel_rfl,
 i53:=by kernel_rfl,
 i171:=by kernel_rfl,
 i173:=by kernel_rfl,
 i212:=by kernel_rfl,
 i232:=by kernel_rfl,
 i233:=by kernel_rfl,
 m17:=by kernel_rfl,
 m18:=by kernel_rfl,
 m19:=by kernel_rfl }
theorem Lp{u p0 r}(h:strconv_Itoa u p0=some r):aD aam 69 [.one (.i p0)] (.one (.t (.str r))) [] :=
 WA ⟨_,Tryz.func69,by kernel_rfl,by kernel_rfl⟩ (k:=1) kr (Go.Proofs.Any.strconv_Itoa XW) h
theorem dG{u p0 r}(h:de u p0=some r):aD aam 40 [V.i p0] (.one (.t (.str r))) []:=by
 unfold de at h;refine da f40 false ?_;exact ag<|aV false 1 4 [.i p0] h (λ_=>Lp) λr1 h=>jn
theorem Ju{u p0 r}(h:pu u p0=some r):aD aam 31 [eP (aw p0)] (.one (.t (.str r))) []:=by
 unfold pu at h;refine da f31 false ?_;refine ag<|ap<|ag<|au h (λh=>dg) λh=>aQ<|aV false 2 11 [.i p0.bh] h (λ_=>NG) λr1 h=>ff r (λx11 k=>k (vO u x11) ⟨[(2,.t (.str ((zm #[])))),(3,.t (.str x11))],[],[]⟩) rfl (λx11 h=>dg)<|ap<|bP [] [(2412546,.obj 1),(5971968,.frz),(8388608,.own 23)]<|ai false 5 17 [.i p0.bw.bl] h (λ_=>vZ) λr2 h=>aM 2 239 aX p0.aZ<|aM 3 3 (aj .i64) (([p0.bD,r2,(p0.aZ.length:Int),p0.bg]:List Int))<|ae<|cx<|vW r (λjz x5 p0 r2 x6 k=>k (lw u jz x5 p0 r2 x6) ⟨[(2,.t (.str ((zm #[])))),(3,.t (.str x5)),(23,.own 1507329),(24,.i (((([p0.bD,r2,(p0.aZ.length:Int),p0.bg]:List Int)).length:Int))),(25,.i x6)],[],[(1507329,.live 3 1 ((([p0.bD,r2,(p0.aZ.length:Int),p0.bg]:List Int)).map (aj .i64)))]⟩) rfl (λjz x5 p0 r2 x6 h=>?_) h (lo [(1507329,1507328)]) (λ_ _ _ _  h=>nomatch h)
 rw [lw] at h;refine ag<|ap<|au h (λh=>?_) (λh=>?_)
 ·refine aQ<|ap<|cx<|aE<|bE 0 3 1 1507329 3 (aj .i64) h λy9 h e_y9=>cW 0 1 1 1507329 0 3 false (aj .i64) ((bB e_y9).2)<|ae<|fg [] []<|ai false 2 31 [.i y9] h (λ_=>dG) (λr10 h=>?_)
  obtain ⟨_,e_11,h⟩:=aan h;refine bL ((zm #[32])) r10 rfl kr kr kr kr (of_decide_eq_true (aK e_11)) ?_;obtain ⟨_,e_12,h⟩:=aan h;exact bL x5 (((zm #[32]))++r10) rfl kr kr kr kr (of_decide_eq_true (aK e_12))<|be<|fg [] []<|AH
 exact F2
def HH:Go.Shelf.Ren:=⟨λ| 156=>32 | 165=>60 | 166=>61 | 169=>62 | 240=>97 | 241=>98 | 276=>132 | 277=>133 | n=>n,λ| 31=>60 | 9=>9 | 3=>3 | 4=>4 | 0=>0 | 20=>20 | 72=>87 | 76=>91 | 70=>85 | 37=>22 | 75=>90 | 127=>130 | 164=>152 | 5=>5 | 80=>93 | n=>n,λ| n=>n⟩
theorem S1:Go.Proofs.Lays.n156 aam HH:={
 mixed:=by kernel_rfl,
 f156:=Tryz.func32.trans (congrArg some kr),
 f165:=Tryz.func60.trans (congrArg some kr),
 f166:=Tryz.func61.trans (congrArg some kr),
 f169:=Tryz.func62.trans (congrArg some kr),
 f240:=Tryz.func97.trans (congrArg some kr),
 f241:=Tryz.func98.trans (congrArg some kr),
 f276:=Tryz.func132.trans (congrArg some kr),
 f277:=Tryz.func133.trans (congrArg some kr),
 t0:=Tryz.underlying0,
 a0:=Tryz.isAgg0,
 z0:=Tryz.sizeOf0,
 v0:=Tryz.zeroValue0,
 t3:=Tryz.underlying3,
 a3:=Tryz.isAgg3,
 z3:=Tryz.sizeOf3,
 v3:=Tryz.zeroValue3,
 t4:=Tryz.underlying4,
 a4:=Tryz.isAgg4,
 z4:=Tryz.sizeOf4,
 v4:=Tryz.zeroValue4,
 t9:=Tryz.underlying9,
 a9:=Tryz.isAgg9,
 z9:=Tryz.sizeOf9,
 v9:=Tryz.zeroValue9,
 t20:=Tryz.underlying20,
 a20:=Tryz.isAgg20,
 z20:=Tryz.sizeOf20,
 v20:=Tryz.zeroValue20,
 t31:=Tryz.underlying60,
 a31:=Tryz.isAgg60,
 z31:=Tryz.sizeOf60,
 v31:=Tryz.zeroValue60,
 t37:=Tryz.underlying22,
 a37:=Tryz.isAgg22,
 z37:=Tryz.sizeOf22,
 v37:=Tryz.zeroValue22,
 t70:=Tryz.underlying85,
 a70:=Tryz.isAgg85,
 z70:=Tryz.sizeOf85,
 v70:=Tryz.zeroValue85,
 t72:=Tryz.underlying87,
 a72:=Tryz.isAgg87,
 z72:=Tryz.sizeOf87,
 v72:=Tryz.zeroValue87,
 t75:=Tryz.underlying90,
 a75:=Tryz.isAgg90,
 z75:=Tryz.sizeOf90,
 v75:=Tryz.zeroValue90,
 t76:=Tryz.underlying91,
 a76:=Tryz.isAgg91,
 z76:=Tryz.sizeOf91,
 v76:=Tryz.zeroValue91,
 t127:=Tryz.underlying130,
 a127:=Tryz.isAgg130,
 z127:=Tryz.sizeOf130,
 v127:=Tryz.zeroValue130,
 t164:=Tryz.underlying152,
 a164:=Tryz.isAgg152,
 z164:=Tryz.sizeOf152,
 v164:=Tryz.zeroValue152 }
theorem Ql:Go.Proofs.Builder.Extra aam HH:={
 sizeBuilder:=by kernel_rfl,
 liesBuilder:=by kernel_rfl,
 t5:=Tryz.underlying5,
 a5:=Tryz.isAgg5,
 z5:=Tryz.sizeOf5,
 v5:=Tryz.zeroValue5,
 infoByte:=by kernel_rfl,
 cellsByte:=by kernel_rfl,
 sizeByte:=by kernel_rfl,
 neB5:=by decide }
theorem xF{u p0 p1 r}(h:strings_Join u p0 p1=some r):aD aam 32 [.one (.t (.sl 1 (p0.map xB))),.one (.t (.str p1))] (.one (.t (.str r))) [] :=
 WB ⟨_,Tryz.func32,by kernel_rfl,by kernel_rfl⟩ (Go.Proofs.Any.strings_Join_none S1 Ql) (Go.Proofs.Any.strings_Join S1 Ql) h
theorem HI{u p0 r}(h:qb u p0=some r):aD aam 13 [eP (bm p0)] (.one (.t (.str r))) []:=by
 unfold qb at h;refine da f13 false ?_;refine ag<|ag<|ff r (λx9 k=>k (pB u x9) ⟨[(2,.t (.str ((zm #[])))),(3,.own 196609)],[],[(196609,.live 9 1 (x9.map xB))]⟩) rfl (λx9 h=>aE<|ce 1 21 [.own 196609,.t (.str ((zm #[59,32])))] h (λ_=>xF) λr10 h=>ae<|jn)<|aE<|aM 2 65 aw p0.fN<|ae<|cx<|fh r (λiT x3 p0 x4 k=>k (kt u iT x3 p0 x4) ⟨[(2,.t (.str ((zm #[])))),(3,.own 196609),(8,.t (.sl 12 (p0.fN.map aw))),(9,.i ((p0.fN.length:Int))),(10,.i x4)],[],[(196609,.live 9 1 (x3.map xB))]⟩) rfl (λiT x3 p0 x4 h=>?_) h (lo [(196609,393216)]) (λ_ _ _  h=>nomatch h)
 rw [kt] at h;exact ag<|ap<|au h (λh=>aQ<|ap<|cx<|aE<|bR 0 65 12 aw h λy7 h _=>ae<|fg [] []<|ai false 2 16 [.agg ((aw y7).map .t)] h (λ_=>Ju) λr8 h=>bt (ys:=[r8]) 1 18 9 1 196609 xB h λh=>be<|fg [] []<|ae<|⟨_,_,_,h,lo [(196609,1179648)]⟩) λh=>F2
theorem NH{u p0 r}(h:wS u p0=some r):aD aam 63 [V.i p0] (.one (.t (.str r))) []:=by
 unfold wS at h;refine da f63 false ?_;exact ag<|ag<|ap<|aE<|aM 2 9 xB ([(zm #[105,100,108,101]),(zm #[103,97,116,104,101,114]),(zm #[115,116,97,103,101,100]),(zm #[115,117,114,101]),(zm #[109,101,97,110,116]),(zm #[100,111,110,101]),(zm #[114,111,111,116])])<|ai false 1 9 [.i p0,.i 0,.i (cG .i64 ((([(zm #[105,100,108,101]),(zm #[103,97,116,104,101,114]),(zm #[115,116,97,103,101,100]),(zm #[115,117,114,101]),(zm #[109,101,97,110,116]),(zm #[100,111,110,101]),(zm #[114,111,111,116])]).length:Int)) 1)] h (λ_=>bi) λr1 h=>ae<|au h (λh=>dg) λh=>aQ<|aE<|bE 2 9 1 262144 9 xB h λy2 h e_y2=>cW 0 1 1 262144 0 9 false xB ((bB e_y2).2)<|ae<|jn
theorem db{u p0 r}(h:dc u p0=some r):aD aam 42 [V.i p0] (.one (.t (.str r))) []:=by
 unfold dc at h;refine da f42 false ?_;refine ag<|ap<|ag<|au h (λh=>dg) λh=>aQ<|ag<|js r (λp0 x8 k=>k (my u p0 x8) ⟨[(0,.i p0),(2,.t (.str ((zm #[])))),(3,.t (.str x8))],[],[]⟩) rfl (λp0 x8 h=>?_) ?_
 ·refine ap<|ag<|au h (λh=>?_) (λh=>?_)
  ·refine aE<|ah 1 kr ?_
   obtain ⟨_,e_9,h⟩:=aan h;exact bL ((zm #[45])) x8 rfl kr kr kr kr (of_decide_eq_true (aK e_9))<|ae<|jn
  exact aQ<|dg
 refine ag<|cx<|fh r (λgC p0 x3 x4 k=>k (eM u gC p0 x3 x4) ⟨[(0,.i p0),(2,.t (.str ((zm #[])))),(3,.t (.str x3)),(4,.i x4)],[],[]⟩) rfl (λgC p0 x3 x4 h=>?_) h (lo []) (λ_ _ _  h=>nomatch h)
 rw [eM] at h;refine ap<|ag<|au h (λh=>?_) (λh=>?_)
 ·refine aQ<|ap<|cx<|ag<|ja r (λp0 x3 x4 x7 k=>k (oZ u (eM u gC) p0 x3 x4 x7) ⟨[(0,.i p0),(2,.t (.str ((zm #[])))),(3,.t (.str x3)),(4,.i x4),(5,.i x7)],[],[]⟩) rfl (λp0 x3 x4 x7 h=>?_) ?_
  ·refine fg [] []<|ah 4 kr<|sB (y:=.own 1441792) (e:=5) (([Ir .u8 (aL .i64 48 x7)]:List Int)) 1 rfl kr kr kr kr kr kr kr<|ah 1 kr ?_
   obtain ⟨_,e_8,h⟩:=aan h;exact bL (strOfNums (([Ir .u8 (aL .i64 48 x7)]:List Int))) x3 rfl kr kr kr kr (of_decide_eq_true (aK e_8))<|be<|fg [] []<|nU
  exact ag<|au h (λh=>fg [] []<|AH) λh=>aQ<|rx4
 exact T0
theorem wa{u p0 r}(h:li u p0=some r):aD aam 64 [V.i p0] (V.i r) []:=by
 unfold li at h;refine da f64 false ?_;refine ag<|ag<|ff r (λx9 k=>k (nL u x9) ⟨[(2,.i 0),(3,.i x9)],[],[]⟩) rfl (λx9 h=>dg)<|ag<|cx<|fh r (λfu p0 x3 x4 k=>k (ii u fu p0 x3 x4) ⟨[(0,.i p0),(2,.i 0),(3,.i x3),(4,.i x4)],[],[]⟩) rfl (λfu p0 x3 x4 h=>?_) h (lo []) (λ_ _ _  h=>nomatch h)
 rw [ii] at h;exact ap<|ag<|au h (λh=>aQ<|dn r (λp0 x8 x4 k=>k (jo u (ii u fu) p0 x8 x4) ⟨[(0,.i p0),(2,.i 0),(3,.i x8),(4,.i x4)],[],[]⟩) rfl (λp0 x8 x4 h=>fg [] []<|nU)<|cx<|aV false 2 11 [.i p0,.i x4] h (λ_=>gL) λr7 h=>au h (λh=>fg [] []<|rb3) λh=>ld<|em<|ck<|Q4) λh=>F2
theorem Jv{u p0 r}(h:sj u p0=some r):aD aam 33 [eP (aw p0)] (.one (.t (.str r))) []:=by
 unfold sj at h;refine da f33 false ?_;refine ag<|ap<|ag<|au h (λh=>dg) λh=>aQ<|ap<|bP [] [(4022238080,.frz),(272729154,.obj 1)]<|ai false 2 8 [.i p0.bh] h (λ_=>NH) (λr1 h=>?_)
 obtain ⟨_,e_2,h⟩:=aan h;refine bL r1 ((zm #[32])) rfl kr kr kr kr (of_decide_eq_true (aK e_2))<|ai false 2 12 [.i p0.bD] h (λ_=>db) (λr3 h=>?_)
 obtain ⟨_,e_4,h⟩:=aan h;refine bL (r1++((zm #[32]))) r3 rfl kr kr kr kr (of_decide_eq_true (aK e_4)) ?_;obtain ⟨_,e_5,h⟩:=aan h;refine bL ((r1++((zm #[32])))++r3) ((zm #[32])) rfl kr kr kr kr (of_decide_eq_true (aK e_5))<|ai false 3 18 [.i p0.bw.bl] h (λ_=>wa) λr6 h=>ai false 0 19 [.i r6] h (λ_=>db) (λr7 h=>?_)
 obtain ⟨_,e_8,h⟩:=aan h;refine bL (((r1++((zm #[32])))++r3)++((zm #[32]))) r7 rfl kr kr kr kr (of_decide_eq_true (aK e_8)) ?_;obtain ⟨_,e_9,h⟩:=aan h;refine bL ((((r1++((zm #[32])))++r3)++((zm #[32])))++r7) ((zm #[32])) rfl kr kr kr kr (of_decide_eq_true (aK e_9))<|aM 2 239 aX p0.aZ<|ai false 0 25 [.i ((p0.aZ.length:Int))] h (λ_=>db) (λr10 h=>?_)
 obtain ⟨_,e_11,h⟩:=aan h;refine bL (((((r1++((zm #[32])))++r3)++((zm #[32])))++r7)++((zm #[32]))) r10 rfl kr kr kr kr (of_decide_eq_true (aK e_11)) ?_;obtain ⟨_,e_12,h⟩:=aan h;refine bL ((((((r1++((zm #[32])))++r3)++((zm #[32])))++r7)++((zm #[32])))++r10) ((zm #[32])) rfl kr kr kr kr (of_decide_eq_true (aK e_12))<|ai false 2 30 [.i p0.bg] h (λ_=>db) (λr13 h=>?_)
 obtain ⟨_,e_14,h⟩:=aan h;exact bL (((((((r1++((zm #[32])))++r3)++((zm #[32])))++r7)++((zm #[32])))++r10)++((zm #[32]))) r13 rfl kr kr kr kr (of_decide_eq_true (aK e_14))<|ae<|jn
theorem HJ{u p0 r}(h:qc u p0=some r):aD aam 14 [eP (bm p0)] (.one (.t (.str r))) []:=by
 unfold qc at h;refine da f14 false ?_;refine ag<|ag<|ff r (λx10 k=>k (uJ u x10) ⟨[(2,.t (.str ((zm #[])))),(3,.t (.str x10))],[],[]⟩) rfl (λx10 h=>dg)<|ag<|cx<|fh r (λeV x3 x4 p0 k=>k (gr u eV x3 x4 p0) ⟨[(1,.obj 1 0),(2,.t (.str ((zm #[])))),(3,.t (.str x3)),(4,.i x4)],[(1,((bm p0).map .t))],[]⟩) rfl (λeV x3 x4 p0 h=>?_) h (lo []) (λ_ _ _  h=>nomatch h)
 rw [gr] at h;refine ap<|aE<|aM 3 65 aw p0.fN<|ae<|au h (λh=>?_) (λh=>?_)
 ·refine aQ<|ap<|cx<|dn r (λx7 x4 p0 k=>k (iJ u (gr u eV) x7 x4 p0) ⟨[(1,.obj 1 0),(2,.t (.str ((zm #[])))),(3,.t (.str x7)),(4,.i x4)],[(1,((bm p0).map .t))],[]⟩) rfl (λx7 x4 p0 h=>?_) ?_
  ·refine fg [] []<|bR 4 65 12 aw h λy8 h _=>ai false 1 22 [.agg ((aw y8).map .t)] h (λ_=>Jv) (λr9 h=>?_)
   obtain ⟨_,e_10,h⟩:=aan h;exact bL x7 r9 rfl kr kr kr kr (of_decide_eq_true (aK e_10))<|be<|fg [] []<|nU
  refine ag<|au h (λh=>?_) (λh=>?_)
  ·refine fg [] []<|ah 1 kr ?_
   obtain ⟨_,e_7,h⟩:=aan h;exact bL x3 ((zm #[59,32])) rfl kr kr kr kr (of_decide_eq_true (aK e_7))<|nU
  exact aQ<|Q4
 exact F2
theorem CX{u p0 p1 p2 r}(h:oE u p0 p1 p2=some r):aD aam 104 [.one (.s p0),V.i p1,V.i p2] (.tup [V.i r.1,V.i r.2.1,V.b r.2.2]) []:=by
 unfold oE at h;refine da Tryz.f104 false ?_;refine ag<|ag<|tN r (λk=>k (td u) ⟨[(6,.i 0),(7,.i 0),(8,.b false)],[],[]⟩) rfl (λh=>dg)<|ag<|cx<|Cb r (λkA p0 p1 x3 p2 x4 k=>k (fG u kA p0 p1 x3 p2 x4) ⟨[(0,.s p0),(1,.i p1),(6,.i 0),(7,.i 0),(8,.b false),(9,.i x3),(12,.i p2),(13,.i x4)],[],[]⟩) rfl (λkA p0 p1 x3 p2 x4 h=>?_) h (lo []) (λ_ _ _ _ _  h=>nomatch h)
 rw [fG] at h;refine ag<|ap<|au h (λh=>?_) (λh=>?_)
 ·refine aQ<|ap<|cx<|ag<|ap<|aE<|aM 2 5 (aj .u8) p0<|ai false 3 22 [.i p1,.i 0,.i (cG .i64 (cG .i64 ((p0.length:Int)) 1) x4)] h (λ_=>cg) λr7 h=>ae<|au h (λh=>dg) λh=>aQ<|aE<|bR 4 5 1 (aj .u8) h λy8 h _=>ae<|aE<|ah 5 kr ?_
  obtain ⟨_,e_9,h⟩:=aan h;exact ik .shl (.int .i64 (bJ .i64 (Ir .i64 y8) 127)) (.int .i64 (eO .i64 7 x4)) (.int .i64 (il .i64 (bJ .i64 (Ir .i64 y8) 127) (eO .i64 7 x4))) rfl kr kr kr kr (Ae _ _ _ _ _ (aK e_9))<|ae<|ag<|au h (λh=>aE<|aA 8 47 h (λh=>ae<|jn) λh=>ae<|jn) λh=>ld<|em<|ck<|fg [] []<|Nd
 exact Uz
theorem u7{u p0 p1 r}(h:mR u p0 p1=some r):aD aam 70 [.one (.s p0),V.i p1] (.tup [V.i r.1,V.i r.2.1,V.b r.2.2]) []:=by
 unfold mR at h;refine da f70 false ?_;exact ag<|aV false 2 13 [.s p0,.i p1,.i 6] h (λ_=>CX) λr1 h=>ap<|js r (λr1 x2 k=>k (qd u r1 x2) ⟨[(4,.i 0),(5,.i 0),(6,.b false),(7,.i r1.1),(8,.i r1.2.1),(22,.b x2)],[],[]⟩) rfl (λr1 x2 h=>au h (λh=>dg) λh=>aQ<|dg)<|fg [] []<|aA 3 19 h (λh=>Fb) λh=>Fb
theorem wb{u p0 p1 p2 r}(h:m5 u p0 p1 p2=some r):aD aam 106 [.one (.s p0),V.i p1,V.i p2] (.tup [.one (.ow 3 1 (r.1.map (aj .i64))),V.i r.2.1,V.b r.2.2]) []:=by
 unfold m5 at h;refine da Tryz.f106 true ?_;refine ag<|ag<|js r (λx11 x12 k=>k (qY u x11 x12) ⟨[(1,.i x11),(6,.nil),(7,.i 0),(8,.b false),(9,.own 589825)],[],[(589825,.live 3 1 (x12.map (aj .i64)))]⟩) rfl (λx11 x12 h=>dg)<|ag<|cx<|Cb r (λjA p0 x4 x5 p2 x6 k=>k (fQ u jA p0 x4 x5 p2 x6) ⟨[(0,.s p0),(1,.i x4),(6,.nil),(7,.i 0),(8,.b false),(9,.own 589825),(14,.i p2),(15,.i x6)],[],[(589825,.live 3 1 (x5.map (aj .i64)))]⟩) rfl (λjA p0 x4 x5 p2 x6 h=>?_) h (lo [(589825,851968)]) (λ_ _ _ _ _  h=>nomatch h)
 rw [fQ] at h;exact ag<|ap<|au h (λh=>aQ<|ap<|cx<|aV false 2 20 [.s p0,.i x4] h (λ_=>u7) λr10 h=>ap<|ag<|au h (λh=>dg) λh=>aQ<|aE<|bt 3 29 3 1 589825 (aj .i64) h λh=>ae<|fg [] []<|be<|fg [] []<|ae<|⟨_,_,_,_,_,h,lo [(589825,1900544)]⟩) λh=>T0
theorem DU{u p0 p1 r}(h:tU u p0 p1=some r):aD aam 140 [V.i p0,V.i p1] (V.b r) []:=by
 unfold tU at h;refine da Tryz.f140 false ?_;exact ag<|aE<|ai false 1 6 [.i p0,.i 2,.i 6] h (λ_=>cg) λr1 h=>aA 1 7 h (λh=>ai false 3 11 [.i p1,.i 0,.i (eO .i64 40 p0)] h (λ_=>cg) λr2 h=>ae<|jn) λh=>ae<|jn
theorem Lq{u p0 p1 r}(h:uK u p0 p1=some r):aD aam 169 [V.i p0,V.i p1] (V.i r) []:=by
 unfold uK at h;refine da Tryz.f169 false ?_;refine ag<|ap<|dn r (λp0 p1 x3 k=>k (te u p0 p1 x3) ⟨[(0,.i p0),(1,.i p1),(4,.i 0),(12,.b x3)],[],[]⟩) rfl (λp0 p1 x3 h=>?_) ?_
 ·refine au h (λh=>dg) λh=>aQ<|aE<|ah 5 kr ?_
  obtain ⟨_,e_4,h⟩:=aan h;exact ik .quo (.int .i64 (cG .i64 (aL .i64 p0 p1) 1)) (.int .i64 p1) (.int .i64 (Pc .i64 (cG .i64 (aL .i64 p0 p1) 1) p1)) rfl kr kr kr kr (Vw _ _ _ _ (by simpa using aK e_4))<|ae<|jn
 exact fg [] []<|ai false 1 6 [.i p0,.i 0,.i 1000000000000] h (λ_=>cg) λr1 h=>aA 2 8 h (λh=>nU) λh=>ai false 1 10 [.i p1,.i 1,.i 1000000000000] h (λ_=>cg) λr2 h=>nU
theorem zg{u p0 p1 r}(h:qe u p0 p1=some r):aD aam 135 [V.i p0,V.i p1] (V.i r) []:=by
 unfold qe at h;refine da Tryz.f135 false ?_;exact ag<|ap<|aV false 2 7 [.i p0,.i p1] h (λ_=>DU) λr1 h=>au h (λh=>dg) λh=>aQ<|aV false 2 11 [.i p1,.i p0] h (λ_=>Lq) λr2 h=>jn
theorem CY{u p0 r}(h:mS u p0=some r):aD aam 136 [V.i p0] (.tup [.one (.ow 5 1 (r.1.map (aj .u8))),V.b r.2]) []:=by
 unfold mS at h;refine da Tryz.f136 true ?_;refine ag<|ag<|js r (λp0 x5 k=>k (o3 u p0 x5) ⟨[(0,.i p0),(2,.nil),(3,.b false),(4,.i x5)],[],[]⟩) rfl (λp0 x5 h=>?_) ?_
 ·refine ap<|dn r (λp0 x5 x6 k=>k (mA u p0 x5 x6) ⟨[(0,.i p0),(2,.nil),(3,.b false),(4,.i x5),(26,.b x6)],[],[]⟩) rfl (λp0 x5 x6 h=>?_) ?_
  ·refine au h (λh=>dg) λh=>aQ<|aE<|ah 1 kr ?_
   obtain ⟨_,e_7,h⟩:=aan h;obtain ⟨_,e_8,h⟩:=aan h;refine Hu (aj .u8) (0:Int) 28 5 1 1 x5 x5 rfl rfl kr kr kr kr kr kr (aK e_7) (of_decide_eq_true (aK e_8)) kr<|ae<|ff r (λx17 k=>k (xw u x17) ⟨[(2,.nil),(3,.b false),(5,.own 327681)],[],[(327681,.live 5 1 (x17.map (aj .u8)))]⟩) rfl (λx17 h=>dg)<|aE<|aM 1 5 (aj .u8) (zQq (sY x5) (0:Int))<|ae<|cx<|vW r (λkx p0 x5 x11 x12 k=>k (mz u kx p0 x5 x11 x12) ⟨[(0,.i p0),(2,.nil),(3,.b false),(4,.i x5),(5,.own 327681),(30,.i (((zQq (sY x5) (0:Int)).length:Int))),(31,.i x12)],[],[(327681,.live 5 1 (x11.map (aj .u8)))]⟩) rfl (λkx p0 x5 x11 x12 h=>?_) h (lo [(327681,1835008)]) (λ_ _ _ _  h=>nomatch h)
   rw [mz] at h;refine ag<|ap<|au h (λh=>?_) (λh=>?_)
   ·refine aQ<|ap<|cx<|ag<|fg [] []<|ah 8 kr ?_
    obtain ⟨_,e_15,h⟩:=aan h;exact ik .shr (.int .i64 p0) (.int .i64 (eO .i64 8 (cG .i64 (cG .i64 x5 1) x12))) (.int .i64 (cU .i64 p0 (eO .i64 8 (cG .i64 (cG .i64 x5 1) x12)))) rfl kr kr kr kr (Ml _ _ _ _ _ (aK e_15))<|bE 1 5 1 327681 5 (aj .u8) h λy16 h e_y16=>gu (e:=5) (sz:=1) (m:=1) (aj .u8) x11 327681 (sY x12) 0 (Ir .u8 (cU .i64 p0 (eO .i64 8 (cG .i64 (cG .i64 x5 1) x12)))) (.t (.int .u8 (Ir .u8 (cU .i64 p0 (eO .i64 8 (cG .i64 (cG .i64 x5 1) x12)))))) [.int .u8 (Ir .u8 (cU .i64 p0 (eO .i64 8 (cG .i64 (cG .i64 x5 1) x12))))] rfl kr kr kr kr kr kr kr kr ((bB e_y16).2) kr kr<|be<|fg [] []<|AH
   exact F2
  refine fg [] []<|aA 3 20 h (λh=>nU) λh=>ah 3 kr ?_
  obtain ⟨_,e_6,h⟩:=aan h;exact ik .shr (.int .i64 p0) (.int .i64 (eO .i64 8 x5)) (.int .i64 (cU .i64 p0 (eO .i64 8 x5))) rfl kr kr kr kr (Ml _ _ _ _ _ (aK e_6))<|nU
 refine cx<|yX r (λgz p0 x2 k=>k (gU u gz p0 x2) ⟨[(0,.i p0),(2,.nil),(3,.b false),(4,.i x2)],[],[]⟩) rfl (λgz p0 x2 h=>?_) h (lo []) (λ_ _  h=>nomatch h)
 rw [gU] at h;refine ap<|dn r (λp0 x2 x4 k=>k (o4 u (gU u gz) p0 x2 x4) ⟨[(0,.i p0),(2,.nil),(3,.b false),(4,.i x2),(15,.b x4)],[],[]⟩) rfl (λp0 x2 x4 h=>au h (λh=>aQ<|cx<|fg [] []<|rb2) λh=>T0)<|fg [] []<|aA 3 9 h (λh=>?_) (λh=>?_)
 ·refine ah 3 kr ?_;obtain ⟨_,e_4,h⟩:=aan h;exact ik .shr (.int .i64 p0) (.int .i64 (eO .i64 8 x2)) (.int .i64 (cU .i64 p0 (eO .i64 8 x2))) rfl kr kr kr kr (Ml _ _ _ _ _ (aK e_4))<|nU
 exact nU
theorem HK{u p0 p1 r}(h:yu u p0 p1=some r):aD aam 170 [V.i p0,V.i p1] (V.i r) []:=by
 unfold yu at h;refine da Tryz.f170 false ?_;refine ag<|ap<|aV false 1 6 [.i p1,.i 1,.i 1000000000000] h (λ_=>cg) λr1 h=>au h (λh=>dg) λh=>aQ<|aE<|ah 2 kr ?_
 obtain ⟨_,e_2,h⟩:=aan h;refine ik .rem (.int .i64 p0) (.int .i64 p1) (.int .i64 (ml .i64 p0 p1)) rfl kr kr kr kr (Ew _ _ _ _ (by simpa using aK e_2))<|ah 3 kr ?_
 obtain ⟨_,e_3,h⟩:=aan h;exact ik .rem (.int .i64 (aL .i64 (ml .i64 p0 p1) p1)) (.int .i64 p1) (.int .i64 (ml .i64 (aL .i64 (ml .i64 p0 p1) p1) p1)) rfl kr kr kr kr (Ew _ _ _ _ (by simpa using aK e_3))<|ae<|jn
theorem Rc{u p0 p1 r}(h:Bg u p0 p1=some r):aD aam 144 [V.i p0,V.i p1] (V.i r) []:=by
 unfold Bg at h;refine da Tryz.f144 false ?_;exact ag<|aE<|ai false 1 6 [.i p0,.i 251] h (λ_=>HK) λr1 h=>ai false 1 8 [.i p1,.i 251] h (λ_=>HK) λr2 h=>ae<|jn
theorem zh{u p0 r}(h:oe u p0=some r):aD aam 117 [.one (.s p0)] (V.i r) []:=by
 unfold oe at h;refine da Tryz.f117 false ?_;refine ag<|ag<|js r (λx11 x12 k=>k (qf u x11 x12) ⟨[(2,.i 0),(3,.i x11),(4,.i x12)],[],[]⟩) rfl (λx11 x12 h=>aV false 2 25 [.i x11,.i x12] h (λ_=>Rc) λr13 h=>jn)<|aE<|aM 1 5 (aj .u8) p0<|ae<|cx<|vW r (λlD x4 x5 p0 x6 k=>k (nM u lD x4 x5 p0 x6) ⟨[(2,.i 0),(3,.i x4),(4,.i x5),(7,.s p0),(8,.i ((p0.length:Int))),(9,.i x6)],[],[]⟩) rfl (λlD x4 x5 p0 x6 h=>?_) h (lo []) (λ_ _ _ _  h=>nomatch h)
 rw [nM] at h;exact ag<|ap<|au h (λh=>aQ<|ap<|cx<|aE<|bR 0 5 1 (aj .u8) h λy10 h _=>ae<|ag<|fg [] []<|be<|fg [] []<|AH) λh=>T0
theorem Pn{u p0 r}(h:yR u p0=some r):aD aam 137 [.one (.s p0)] (eP (aS r)) []:=by
 unfold yR at h;refine da Tryz.f137 false ?_;refine ag<|ap<|aE<|aM 1 5 (aj .u8) p0<|ae<|au h (λh=>dg) λh=>aQ<|ag<|js r (λp0 x8 k=>k (sm u p0 x8) ⟨[(0,.s p0),(2,.obj 2 0),(3,.i x8)],[(2,[.i 0,.i 0])],[]⟩) rfl (λp0 x8 h=>aV false 1 23 [.s p0] h (λ_=>zh) λr9 h=>jn)<|aE<|aM 1 5 (aj .u8) p0<|ae<|cx<|fh r (λmE p0 x3 x4 k=>k (pv u mE p0 x3 x4) ⟨[(0,.s p0),(2,.obj 2 0),(3,.i x3),(10,.s p0),(11,.i ((p0.length:Int))),(12,.i x4)],[(2,[.i 0,.i 0])],[]⟩) rfl (λmE p0 x3 x4 h=>?_) h (lo []) (λ_ _ _  h=>nomatch h)
 rw [pv] at h;exact ag<|ap<|au h (λh=>aQ<|ap<|cx<|aE<|bR 0 5 1 (aj .u8) h λy7 h _=>ae<|fg [] []<|be<|fg [] []<|nU) λh=>T0
theorem Aq{u p0 r}(h:l6 u p0=some r):aD aam 139 [eP (aF p0)] (V.b r) []:=by
 unfold l6 at h;refine da Tryz.f139 false ?_;exact ag<|aE<|aA 4 6 h (λh=>aA 5 11 h (λh=>aA 5 16 h (λh=>aM 2 120 aS p0.aI<|ae<|jn) λh=>ae<|jn) λh=>ae<|jn) λh=>ae<|jn
theorem NI{u p0 p1 p2 r}(h:tW u p0 p1 p2=some r):aD aam 141 [V.i p0,V.i p1,V.i p2] (.tup [V.i r.1,V.i r.2]) []:=by
 unfold tW at h;refine da Tryz.f141 false ?_;exact ag<|ap<|aE<|ai false 3 11 [.i p0,.i p1] h (λ_=>zg) λr1 h=>ai false 1 13 [.i p2,.i 0,.i (cG .i64 r1 1)] h (λ_=>cg) λr2 h=>ae<|au h (λh=>dg) λh=>aQ<|dg
theorem AO{u p0 r}(h:tJ u p0=some r):aD aam 108 [eP (aF p0)] (V.b r) []:=by
 unfold tJ at h;refine da Tryz.f108 false ?_;refine ag<|ap<|aV false 1 10 [.agg ((aF p0).map .t)] h (λ_=>Aq) λr1 h=>au h (λh=>dg) λh=>aQ<|ap<|js r (λx5 p0 k=>k (sn u x5 p0) ⟨[(1,.obj 1 0),(2,.b false),(33,.b x5)],[(1,((aF p0).map .t))],[]⟩) rfl (λx5 p0 h=>?_) ?_
 ·refine au h (λh=>dg) λh=>aQ<|tN r (λk=>k (AF u) ⟨[(2,.b false)],[],[]⟩) rfl (λh=>dg)<|aE<|aM 2 120 aS p0.aI<|ae<|cx<|yX r (λhH p0 x7 k=>k (jK u hH p0 x7) ⟨[(1,.obj 1 0),(2,.b false),(35,.t (.sl 2 (p0.aI.map aS))),(36,.i ((p0.aI.length:Int))),(37,.i x7)],[(1,((aF p0).map .t))],[]⟩) rfl (λhH p0 x7 h=>?_) h (lo []) (λ_ _  h=>nomatch h)
  rw [jK] at h;exact ag<|ap<|au h (λh=>aQ<|ap<|cx<|aE<|bR 1 120 2 aS h λy9 h _=>ae<|aV false 2 45 [.i y9.fS] h (λ_=>CY) λr10 h=>aV false 5 54 [.i p0.aB,.i p0.aT,.i x7] h (λ_=>NI) λr11 h=>dn r (λp0 x7 x13 k=>k (lj u (jK u hH) p0 x7 x13) ⟨[(1,.obj 1 0),(2,.b false),(35,.t (.sl 2 (p0.aI.map aS))),(36,.i ((p0.aI.length:Int))),(37,.i x7),(71,.b x13)],[(1,((aF p0).map .t))],[]⟩) rfl (λp0 x7 x13 h=>au h (λh=>dg) λh=>ld<|em<|ck<|fg [] []<|Fb)<|bP [] [(801136330513682792768,.frz),(74939897799445053472,.own 45),(295147905179352825872,.obj 4)]<|aA 3 59 h (λh=>nU) λh=>aM 1 5 (aj .u8) r10.1<|aA 4 65 h (λh=>nU) λh=>ce 1 67 [.own 2949120] h (λ_=>zh) λr12 h=>nU) λh=>Uz
 exact bP [] [(3604672512,.frz),(688195586,.obj 1)]<|ai false 2 13 [.i p0.aH,.i 1,.i 1000000] h (λ_=>cg) λr2 h=>aA 2 15 h (λh=>Fb) λh=>ai false 4 20 [.i p0.aB,.i p0.aT] h (λ_=>DU) λr3 h=>aA 3 23 h (λh=>Fb) λh=>aM 2 120 aS p0.aI<|ai false 4 31 [.i p0.aB,.i p0.aT] h (λ_=>zg) λr4 h=>Fb
theorem NJ{u p0 p1 r}(h:wT u p0 p1=some r):aD aam 105 [.one (.s p0),V.i p1] (.tup [V.w [0,0,0,120] (aF r.1),V.i r.2.1,V.b r.2.2]) []:=by
 unfold wT at h;refine da Tryz.f105 true ?_;refine ag<|aV false 2 18 [.s p0,.i p1,.i 3] h (λ_=>wb) λr1 h=>ap<|ag<|au h (λh=>dg) λh=>aQ<|ap<|bP [] [(2449473664,.own 18),(26977763328,.frz),(4898947072,.el 18),(512,.obj 9)]<|bE 1 3 1 1179648 3 (aj .i64) h λy2 h e_y2=>cW 0 1 1 1179648 0 3 false (aj .i64) ((bB e_y2).2)<|bE 1 3 1 1179648 3 (aj .i64) h λy3 h e_y3=>cW 0 1 1 1179648 0 3 false (aj .i64) ((bB e_y3).2)<|bE 1 3 1 1179648 3 (aj .i64) h λy4 h e_y4=>cW 0 1 1 1179648 0 3 false (aj .i64) ((bB e_y4).2)<|ae<|oG r (λx19 y2 y3 y4 x20 k=>k (uL u x19 y2 y3 y4 x20) ⟨[(1,.i x19),(4,.obj 4 0),(5,.i 0),(6,.b false),(9,.obj 9 0)],[(4,[.i 0,.i 0,.i 0,.nil]),(9,[.i y2,.i y3,.i y4,.own 590339])],[(590339,.live 120 2 (x20.map aS))]⟩) rfl (λx19 y2 y3 y4 x20 h=>ap<|aE<|ce 1 71 [.agg [.i y2,.i y3,.i y4,.own 590339]] h (λ_=>AO) λr21 h=>ae<|au h (λh=>dg) λh=>aQ<|dg)<|aV false 4 39 [.i y3,.i y4] h (λ_=>zg) λr5 h=>cx<|I7 r (λiq p0 x9 r5 x10 y2 y3 y4 x11 k=>k (fq u iq p0 x9 r5 x10 y2 y3 y4 x11) ⟨[(0,.s p0),(1,.i x9),(4,.obj 4 0),(5,.i 0),(6,.b false),(9,.obj 9 0),(39,.i r5),(40,.i x10)],[(4,[.i 0,.i 0,.i 0,.nil]),(9,[.i y2,.i y3,.i y4,.own 590339])],[(590339,.live 120 2 (x11.map aS))]⟩) rfl (λiq p0 x9 r5 x10 y2 y3 y4 x11 h=>?_) h (Le.trans (ly 9 3 590339 120 2 [.i y2,.i y3,.i y4,.nil] kr kr kr) (lo [])) (λ_ _ _ _ _ _ _ _  h=>nomatch h)
 rw [fq] at h;exact ag<|ap<|au h (λh=>aQ<|ap<|cx<|aV false 2 45 [.s p0,.i x9,.i 8] h (λ_=>CX) λr15 h=>aV false 1 51 [.i r15.1] h (λ_=>CY) λr16 h=>ap<|Q2 r (λp0 x9 r15 r16 r5 x10 x17 y2 y3 y4 x11 k=>k (nN u (fq u iq) p0 x9 r15 r16 r5 x10 x17 y2 y3 y4 x11) ⟨[(0,.s p0),(1,.i x9),(4,.obj 4 0),(5,.i 0),(6,.b false),(9,.obj 9 0),(11,.i r15.2.1),(13,.own 851969),(39,.i r5),(40,.i x10),(59,.b x17)],[(4,[.i 0,.i 0,.i 0,.nil]),(9,[.i y2,.i y3,.i y4,.own 590339])],[(590339,.live 120 2 (x11.map aS)),(851969,.live 5 1 (r16.1.map (aj .u8)))]⟩) rfl (λp0 x9 r15 r16 r5 x10 x17 y2 y3 y4 x11 h=>au h (λh=>dg) λh=>aQ<|ap<|bP [] [(149879795598890107392,.obj 9),(9223372036854784000,.own 13),(4611686018427387904,.own 9),(18446744073709551616,.frz),(36893488147419103232,.own 65),(73786976294838206464,.own 66)]<|ce 3 64 [.own 851969] h (λ_=>Pn) λr18 h=>bt (ys:=[r18]) 1 66 120 2 590339 aS h λh=>ae<|fg [] []<|be<|fg [] []<|ae<|⟨_,_,_,_,_,_,_,_,h,lo [(590339,4325376)]⟩)<|fg [] []<|aA 3 56 h (λh=>ae<|⟨_,_,_,_,_,_,_,_,_,_,_,h,lo [(851969,3342336)]⟩) λh=>ae<|⟨_,_,_,_,_,_,_,_,_,_,_,h,lo [(851969,3342336)]⟩) λh=>re5
theorem Po{u p0 p1 p2 r}(h:vQ u p0 p1 p2=some r):aD aam 138 [.one (.s p0),V.i p1,V.i p2] (.tup [.one (.ow 5 1 (r.1.map (aj .u8))),V.b r.2]) []:=by
 unfold vQ at h;refine da Tryz.f138 true ?_;refine ag<|ap<|ja r (λp0 p1 p2 x3 k=>k (so u p0 p1 p2 x3) ⟨[(0,.s p0),(1,.i p1),(2,.i p2),(6,.nil),(7,.b false),(21,.b x3)],[],[]⟩) rfl (λp0 p1 p2 x3 h=>?_) ?_
 ·refine au h (λh=>dg) λh=>aQ<|aE<|ah 5 kr ?_
  obtain ⟨_,e_4,h⟩:=aan h;exact eX (e:=5) (ax:=.s p0) (alo:=(some (.i p1))) (ahi:=(some (.i (aL .i64 p1 p2)))) (aj .u8) p0 1 p1 (aL .i64 p1 p2) rfl kr kr kr kr kr kr kr kr kr kr kr (aK e_4)<|ai false 0 28 [.t (.bb ((p0.take (sY (aL .i64 p1 p2))).drop (sY p1)))] h (λ_=>zf) λr5 h=>ae<|jn
 exact fg [] []<|aM 2 5 (aj .u8) p0<|ai false 0 11 [.i p1,.i 0,.i ((p0.length:Int))] h (λ_=>cg) λr1 h=>aA 2 13 h (λh=>AH) λh=>aM 2 5 (aj .u8) p0<|ai false 2 19 [.i p2,.i 0,.i (cG .i64 ((p0.length:Int)) p1)] h (λ_=>cg) λr2 h=>AH
theorem Lr{u p0 p1 p2 r}(h:uM u p0 p1 p2=some r):aD aam 107 [.one (.s p0),V.i p1,V.i p2] (.tup [.one (.ow 5 1 (r.1.map (aj .u8))),V.i r.2.1,V.b r.2.2]) []:=by
 unfold uM at h;refine da Tryz.f107 true ?_;exact ag<|aV false 2 16 [.s p0,.i p1] h (λ_=>u7) λr1 h=>ap<|dn r (λp0 r1 x2 k=>k (tg u p0 r1 x2) ⟨[(0,.s p0),(6,.nil),(7,.i 0),(8,.b false),(9,.i r1.1),(10,.i r1.2.1),(26,.b x2)],[],[]⟩) rfl (λp0 r1 x2 h=>au h (λh=>dg) λh=>aQ<|aV false 3 31 [.s p0,.i r1.2.1,.i r1.1] h (λ_=>Po) λr3 h=>ap<|ag<|au h (λh=>dg) λh=>aQ<|dg)<|fg [] []<|aA 3 22 h (λh=>nU) λh=>nU
theorem Ls{u p0 p1 p2 r}(h:fU u p0 p1 p2=some r):aD aam 71 [.one (.s p0),V.i p1,V.i p2] (.tup [V.w [0,0,0,0,0,120,0,0,0,5] (cR r.1),V.b r.2]) []:=by
 unfold fU at h;refine da f71 true ?_;exact ag<|ag<|ag<|Q2 r (λx13 p1 x14 x15 x16 x17 x18 x19 x20 x21 x22 k=>k (kK u x13 p1 x14 x15 x16 x17 x18 x19 x20 x21 x22) ⟨[(6,.obj 6 0),(7,.b false),(8,.obj 8 0),(9,.b x13)],[(6,[.i 0,.i 0,.i 0,.i 0,.i 0,.nil,.i 0,.i 0,.i 0,.nil]),(8,[.i p1,.i x14,.i x15,.i x16,.i x17,.own 524805,.i x19,.i x20,.i x21,.own 524809])],[(524805,.live 120 2 (x18.map aS)),(524809,.live 5 1 (x22.map (aj .u8)))]⟩) rfl (λx13 p1 x14 x15 x16 x17 x18 x19 x20 x21 x22 h=>dg)<|ag<|cx<|ag<|au h (λh=>fg [] []<|ai false 2 24 [.s p0,.i p2] h (λ_=>NJ) λr1 h=>be<|⟨_,_,_,_,_,_,_,_,_,_,_,h,Le.trans (ly 8 9 524809 5 1 [.i p1,.i 0,.i r1.1.aH,.i r1.1.aB,.i r1.1.aT,.own 1572867,.i 0,.i 0,.i 0,.nil] kr kr kr) (lo [(524805,1572867)])⟩) λh=>ag<|au h (λh=>aV false 2 34 [.s p0,.i p2,.i 5] h (λ_=>wb) λr2 h=>ap<|ag<|au h (λh=>dg) λh=>aQ<|bP [] [(1030840529551622144,.frz),(40692925343990784,.own 34),(81385850687979520,.el 34),(8070450532247929088,.obj 8)]<|bE 1 3 1 2228224 3 (aj .i64) h λy3 h e_y3=>cW 0 1 1 2228224 0 3 false (aj .i64) ((bB e_y3).2)<|bE 1 3 1 2228224 3 (aj .i64) h λy4 h e_y4=>cW 0 1 1 2228224 0 3 false (aj .i64) ((bB e_y4).2)<|bE 1 3 1 2228224 3 (aj .i64) h λy5 h e_y5=>cW 0 1 1 2228224 0 3 false (aj .i64) ((bB e_y5).2)<|bE 3 3 1 2228224 3 (aj .i64) h λy6 h e_y6=>cW 0 1 1 2228224 0 3 false (aj .i64) ((bB e_y6).2)<|bE 1 3 1 2228224 3 (aj .i64) h λy7 h e_y7=>cW 0 1 1 2228224 0 3 false (aj .i64) ((bB e_y7).2)<|be<|⟨_,_,_,_,_,_,_,_,_,_,_,h,Le.trans (ly 8 5 524805 120 2 [.i p1,.i y3,.i 0,.i 0,.i 0,.nil,.i (tZ .i64 y4 (il .i64 y5 20)),.i (tZ .i64 y6 (il .i64 y7 20)),.i 0,.nil] kr kr kr) (Le.trans (ly 8 9 524809 5 1 [.i p1,.i y3,.i 0,.i 0,.i 0,.own 524805,.i (tZ .i64 y4 (il .i64 y5 20)),.i (tZ .i64 y6 (il .i64 y7 20)),.i 0,.nil] kr kr kr) (lo []))⟩) λh=>ag<|au h (λh=>aV false 2 68 [.s p0,.i p2,.i 2] h (λ_=>wb) λr8 h=>ap<|ag<|au h (λh=>dg) λh=>aQ<|ap<|bP [] [(7253554917687775048237312,.obj 8),(340010386766614455394304,.own 68),(680020773533228910772224,.el 68),(1360041547066457821544448,.frz)]<|bE 1 3 1 4456448 3 (aj .i64) h λy9 h e_y9=>cW 0 1 1 4456448 0 3 false (aj .i64) ((bB e_y9).2)<|bE 1 3 1 4456448 3 (aj .i64) h λy10 h e_y10=>cW 0 1 1 4456448 0 3 false (aj .i64) ((bB e_y10).2)<|ae<|fg [] []<|ai false 2 86 [.s p0,.i r8.2.1,.i 6] h (λ_=>Lr) λr11 h=>be<|⟨_,_,_,_,_,_,_,_,_,_,_,h,Le.trans (ly 8 5 524805 120 2 [.i p1,.i y9,.i 0,.i 0,.i 0,.nil,.i 0,.i 0,.i y10,.own 5636096] kr kr kr) (lo [(524809,5636096)])⟩) λh=>ag<|au h (λh=>fg [] []<|ai false 2 96 [.s p0,.i p2] h (λ_=>u7) λr12 h=>be<|⟨_,_,_,_,_,_,_,_,_,_,_,h,Le.trans (ly 8 5 524805 120 2 [.i p1,.i r12.1,.i 0,.i 0,.i 0,.nil,.i 0,.i 0,.i 0,.nil] kr kr kr) (Le.trans (ly 8 9 524809 5 1 [.i p1,.i r12.1,.i 0,.i 0,.i 0,.own 524805,.i 0,.i 0,.i 0,.nil] kr kr kr) (lo []))⟩) λh=>ld<|em<|ck<|⟨_,_,_,_,_,_,_,_,_,_,_,h,Le.trans (ly 8 5 524805 120 2 [.i p1,.i 0,.i 0,.i 0,.i 0,.nil,.i 0,.i 0,.i 0,.nil] kr kr kr) (Le.trans (ly 8 9 524809 5 1 [.i p1,.i 0,.i 0,.i 0,.i 0,.own 524805,.i 0,.i 0,.i 0,.nil] kr kr kr) (lo []))⟩
theorem ng{u p0 p1 p2 p3 r}(h:jp u p0 p1 p2 p3=some r):aD aam 109 [eP (cR p0),V.b p1,V.b p2,V.b p3] (V.b r) []:=by
 unfold jp at h;refine da Tryz.f109 false ?_;exact ag<|aE<|aA 2 10 h (λh=>aA 7 17 h (λh=>aA 13 30 h (λh=>ae<|jn) λh=>aA 4 34 h (λh=>aM 2 5 (aj .u8) p0.fB<|ae<|jn) λh=>ae<|jn) λh=>aA 4 21 h (λh=>aA 7 28 h (λh=>aA 2 30 h (λh=>ae<|jn) λh=>aA 4 34 h (λh=>aM 2 5 (aj .u8) p0.fB<|ae<|jn) λh=>ae<|jn) λh=>ae<|jn) λh=>ae<|jn) λh=>ai false 2 13 [.agg ((aF p0.ay).map .t)] h (λ_=>Aq) λr1 h=>aA 2 15 h (λh=>aA 2 17 h (λh=>aA 13 30 h (λh=>ae<|jn) λh=>aA 4 34 h (λh=>aM 2 5 (aj .u8) p0.fB<|ae<|jn) λh=>ae<|jn) λh=>aA 4 21 h (λh=>aA 7 28 h (λh=>aA 2 30 h (λh=>ae<|jn) λh=>aA 4 34 h (λh=>aM 2 5 (aj .u8) p0.fB<|ae<|jn) λh=>ae<|jn) λh=>ae<|jn) λh=>ae<|jn) λh=>ae<|jn
theorem Lt{u p0 r}(h:yf u p0=some r):aD aam 111 [V.i p0] (V.b r) []:=by
 unfold yf at h;refine da Tryz.f111 false ?_;exact ag<|aV false 1 4 [.i p0,.i 0,.i 39] h (λ_=>cg) λr1 h=>jn
theorem AP{u p0 r}(h:tK u p0=some r):aD aam 72 [eP (cR p0)] (V.b r) []:=by
 unfold tK at h;refine da f72 false ?_;exact ag<|ap<|ag<|cx<|ag<|au h (λh=>aE<|ai false 2 9 [.agg ((aF p0.ay).map .t)] h (λ_=>AO) λr1 h=>aA 1 10 h (λh=>aA 6 16 h (λh=>aA 5 21 h (λh=>ai false 1 23 [.agg ((cR p0).map .t),.b true,.b false,.b false] h (λ_=>ng) λr2 h=>ae<|jn) λh=>ae<|jn) λh=>ae<|jn) λh=>ae<|jn) λh=>ag<|au h (λh=>aE<|ai false 2 29 [.i p0.aH] h (λ_=>AM) λr3 h=>aA 1 30 h (λh=>ai false 2 33 [.i p0.bQ] h (λ_=>AN) λr4 h=>aA 2 35 h (λh=>ai false 2 38 [.i p0.bW] h (λ_=>AN) λr5 h=>aA 2 40 h (λh=>ai false 1 42 [.agg ((cR p0).map .t),.b false,.b true,.b false] h (λ_=>ng) λr6 h=>ae<|jn) λh=>ae<|jn) λh=>ae<|jn) λh=>ae<|jn) λh=>ag<|au h (λh=>aE<|ai false 2 48 [.i p0.aH,.i 1,.i 1000000] h (λ_=>cg) λr7 h=>aA 1 49 h (λh=>ai false 2 52 [.i p0.fI] h (λ_=>Lt) λr8 h=>aA 2 54 h (λh=>aM 2 5 (aj .u8) p0.fB<|ai false 0 58 [.i ((p0.fB.length:Int)),.i 1,.i 6] h (λ_=>cg) λr9 h=>aA 2 60 h (λh=>ai false 1 62 [.agg ((cR p0).map .t),.b false,.b false,.b true] h (λ_=>ng) λr10 h=>ae<|jn) λh=>ae<|jn) λh=>ae<|jn) λh=>ae<|jn) λh=>ag<|au h (λh=>aE<|ai false 2 68 [.i p0.aH] h (λ_=>AM) λr11 h=>aA 1 69 h (λh=>ai false 1 71 [.agg ((cR p0).map .t),.b false,.b false,.b false] h (λ_=>ng) λr12 h=>ae<|jn) λh=>ae<|jn) λh=>ld<|em<|ck<|dg
theorem u9{u p0 p1 r}(h:nO u p0 p1=some r):aD aam 143 [.one (.ow 5 1 (p0.map (aj .u8))),V.i p1] (.one (.ow 5 1 (r.map (aj .u8)))) []:=by
 unfold nO at h;refine da Tryz.f143 true ?_;refine ag<|js r (λx7 x8 k=>k (pC u x7 x8) ⟨[(0,.own 1),(1,.i x8),(4,.nil)],[],[(1,.live 5 1 (x7.map (aj .u8)))]⟩) rfl (λx7 x8 h=>aE<|bt 4 19 5 1 1 (aj .u8) h λh=>ae<|jn)<|cx<|yX r (λiU x3 x4 k=>k (iK u iU x3 x4) ⟨[(0,.own 1),(1,.i x4),(4,.nil)],[],[(1,.live 5 1 (x3.map (aj .u8)))]⟩) rfl (λiU x3 x4 h=>?_) h (lo [(1,58982400)]) (λ_ _  h=>nomatch h)
 rw [iK] at h;exact ap<|ag<|au h (λh=>aQ<|cx<|aE<|bt 5 12 5 1 1 (aj .u8) h λh=>ae<|fg [] []<|be<|⟨_,_,h,lo [(1,786432)]⟩) λh=>T0
theorem NK{u p0 p1 r}(h:ef u p0 p1=some r):aD aam 113 [.one (.s p0),V.i p1] (.one (.ow 5 1 (r.map (aj .u8)))) []:=by
 unfold ef at h;refine da f113 true ?_;exact ag<|aV false 1 7 [.s p0] h (λ_=>zf) λr1 h=>ap<|aV false 1 9 [.i p1,.i 0,.i 1000000000000] h (λ_=>cg) λr2 h=>au h (λh=>dg) λh=>aQ<|aV true 2 14 [.own 458752,.i p1] h (λ_=>u9) λr3 h=>jn
theorem CZ{u p0 r}(h:lg u p0=some r):n6 aam 142 [.one (.s p0)] (.one (.ow 5 1 (r.map (aj .u8)))):=by
 unfold lg at h;refine bO (fn:=f142) (m:=true) kr rfl kr kr kr<|ag<|aE<|ah 1 kr<|dh (e:=5) (aj .u8) p0 false 1 rfl rfl rfl kr kr kr kr ?_
 obtain ⟨_,e_1,h⟩:=aan h;obtain ⟨_,e_2,h⟩:=aan h;refine Hu (aj .u8) (0:Int) 5 5 1 1 0 ((p0.length:Int)) rfl rfl kr kr kr kr kr kr (aK e_1) (of_decide_eq_true (aK e_2)) kr<|ah 1 kr ?_
 obtain ⟨_,e_3,h⟩:=aan h;exact dY (y:=.ext false (.bb p0)) (aj .u8) 7 1 5 1 1 327680 (zQq (sY 0) (0:Int)) p0 rfl rfl rfl rfl kr kr kr kr kr (fi _ _ _) (.inl rfl) kr (of_decide_eq_true (aK e_3)) kr kr<|ae<|jn
theorem eQ{u p0 p1 r}(h:ef u p0 p1=some r):n6 aam 113 [.one (.s p0),V.i p1] (.one (.ow 5 1 (r.map (aj .u8)))):=by
 unfold ef at h;refine bO (fn:=f113) (m:=true) kr rfl kr kr kr<|ag<|aE<|ah 1 kr ?_
 obtain ⟨r1,e_r1,h⟩:=aan h;exact aO 7 142 [] [.ext false (.bb p0)] [.one (.s p0)] (.one (.ow 5 1 (r1.map (aj .u8)))) rfl rfl kr kr kr kr kr (CZ e_r1) kr<|ae<|ap<|aV false 1 9 [.i p1,.i 0,.i 1000000000000] h (λ_=>cg) λr2 h=>au h (λh=>dg) λh=>aQ<|aV true 2 14 [.own 458752,.i p1] h (λ_=>u9) λr3 h=>jn
theorem Lu{u p0 p1 r}(h:wU u p0 p1=some r):n6 aam 114 [.one (.s p0),eP (aF p1)] (.one (.ow 5 1 (r.map (aj .u8)))):=by
 unfold wU at h;refine bO (fn:=Tryz.f114) (m:=true) kr rfl kr kr kr<|ag<|ap<|aE<|ce 1 9 [.agg [.i p1.aH,.i p1.aB,.i p1.aT,.ext false (.sl 2 (p1.aI.map aS))]] h (λ_=>AO) λr1 h=>ae<|au h (λh=>?_) (λh=>?_)
 ·refine aE<|ah 1 kr ?_
  obtain ⟨r2,e_r2,h⟩:=aan h;exact aO 12 142 [] [.ext false (.bb p0)] [.one (.s p0)] (.one (.ow 5 1 (r2.map (aj .u8)))) rfl rfl kr kr kr kr kr (CZ e_r2) kr<|ae<|jn
 refine aQ<|ap<|bP [] [(2400257,.frz),(1196040,.obj 3),(65536,.own 16),(524288,.own 19),(4194304,.own 22)]<|ah 3 kr ?_
 obtain ⟨r3,e_r3,h⟩:=aan h;refine aO 16 113 [] [.ext false (.bb p0),.i p1.aH] [.one (.s p0),.one (.i p1.aH)] (.one (.ow 5 1 (r3.map (aj .u8)))) rfl rfl kr kr kr kr kr (eQ e_r3) kr<|ah 2 kr ?_
 obtain ⟨r4,e_r4,h⟩:=aan h;refine aO 19 113 [] [.own 1048576,.i p1.aB] [.one (.s r3),.one (.i p1.aB)] (.one (.ow 5 1 (r4.map (aj .u8)))) rfl rfl kr kr kr kr kr (eQ e_r4) kr<|ah 2 kr ?_
 obtain ⟨r5,e_r5,h⟩:=aan h;refine aO 22 113 [] [.own 1245184,.i p1.aT] [.one (.s r4),.one (.i p1.aT)] (.one (.ow 5 1 (r5.map (aj .u8)))) rfl rfl kr kr kr kr kr (eQ e_r5) kr<|ae<|ff r (λx14 k=>k (yS u x14) ⟨[(4,.nil),(5,.own 327681)],[],[(327681,.live 5 1 (x14.map (aj .u8)))]⟩) rfl (λx14 h=>dg)<|aE<|ah 2 kr<|dh (e:=120) aS p1.aI false 2 rfl rfl rfl kr kr kr kr<|ae<|cx<|fh r (λlC x8 p1 x9 k=>k (nP u lC x8 p1 x9) ⟨[(4,.nil),(5,.own 327681),(24,.ext false (.sl 2 (p1.aI.map aS))),(25,.i ((p1.aI.length:Int))),(26,.i x9)],[],[(327681,.live 5 1 (x8.map (aj .u8)))]⟩) rfl (λlC x8 p1 x9 h=>?_) h (lo [(327681,1441792)]) (λ_ _ _  h=>nomatch h)
 rw [nP] at h;refine ag<|ap<|au h (λh=>?_) (λh=>?_)
 ·refine aQ<|ap<|cx<|aE ?_
  obtain ⟨y12,e_y12,h⟩:=aan h;exact jr (e:=120) (kk:=.i64) (sz:=2) aS p1.aI x9 false rfl kr kr kr kr kr kr e_y12<|ae<|fg [] []<|ai true 3 33 [.own 327681,.i y12.fS] h (λ_=>u9) λr13 h=>be<|fg [] []<|ae<|⟨_,_,_,h,lo [(327681,2162688)]⟩
 exact F2
theorem C0{u p0 p1 r}(h:wV u p0 p1=some r):n6 aam 115 [.one (.s p0),V.i p1] (.one (.ow 5 1 (r.map (aj .u8)))):=by
 unfold wV at h;refine bO (fn:=Tryz.f115) (m:=true) kr rfl kr kr kr<|ag<|aE<|ah 3 kr ?_
 obtain ⟨r1,e_r1,h⟩:=aan h;refine aO 8 113 [] [.ext false (.bb p0),.i (bJ .i64 p1 1048575)] [.one (.s p0),.one (.i (bJ .i64 p1 1048575))] (.one (.ow 5 1 (r1.map (aj .u8)))) rfl rfl kr kr kr kr kr (eQ e_r1) kr<|ah 2 kr ?_
 obtain ⟨r2,e_r2,h⟩:=aan h;exact aO 11 113 [] [.own 524288,.i (cU .i64 p1 20)] [.one (.s r1),.one (.i (cU .i64 p1 20))] (.one (.ow 5 1 (r2.map (aj .u8)))) rfl rfl kr kr kr kr kr (eQ e_r2) kr<|ae<|jn
theorem Jw{u p0 p1 r}(h:yg u p0 p1=some r):n6 aam 116 [.one (.s p0),.one (.s p1)] (.one (.ow 5 1 (r.map (aj .u8)))):=by
 unfold yg at h;refine bO (fn:=Tryz.f116) (m:=true) kr rfl kr kr kr<|ag<|aE<|ah 2 kr<|dh (e:=5) (aj .u8) p1 false 1 rfl rfl rfl kr kr kr kr ?_
 obtain ⟨r1,e_r1,h⟩:=aan h;refine aO 8 113 [] [.ext false (.bb p0),.i ((p1.length:Int))] [.one (.s p0),.one (.i ((p1.length:Int)))] (.one (.ow 5 1 (r1.map (aj .u8)))) rfl rfl kr kr kr kr kr (eQ e_r1) kr<|ah 1 kr ?_
 obtain ⟨_,e_2,h⟩:=aan h;exact dY (y:=.ext false (.bb p1)) (aj .u8) 10 1 5 1 1 524288 r1 p1 rfl rfl rfl rfl kr kr kr kr kr (fi _ _ _) (.inl rfl) kr (of_decide_eq_true (aK e_2)) kr kr<|ae<|jn
theorem Lv{u p0 r}(h:wW u p0=some r):n6 aam 74 [eP (cR p0)] (.one (.ow 5 1 (r.map (aj .u8)))):=by
 unfold wW at h;refine bO (fn:=f74) (m:=true) kr rfl kr kr kr<|ag<|ap<|aE<|ce 1 5 [.agg [.i p0.ba,.i p0.aH,.i p0.ay.aH,.i p0.ay.aB,.i p0.ay.aT,.ext false (.sl 2 (p0.ay.aI.map aS)),.i p0.bQ,.i p0.bW,.i p0.fI,.ext false (.bb p0.fB)]] h (λ_=>AP) λr1 h=>ae<|au h (λh=>dg) λh=>aQ<|aV false 2 9 [.nil,.i p0.ba] h (λ_=>NK) λr2 h=>ff r (λx11 k=>k (j9 u x11) ⟨[(2,.nil),(3,.own 196609)],[],[(196609,.live 5 1 (x11.map (aj .u8)))]⟩) rfl (λx11 h=>?_) ?_
 ·refine aE<|ce 2 50 [.own 196609] h (λ_=>zh) (λr12 h=>?_)
  obtain ⟨r13,e_r13,h⟩:=aan h;exact aO 51 113 [] [.own 196609,.i r12] [.one (.s x11),.one (.i r12)] (.one (.ow 5 1 (r13.map (aj .u8)))) rfl rfl kr kr kr kr kr (eQ e_r13) kr<|ae<|jn
 refine ag<|cx<|ag<|au h (λh=>?_) (λh=>?_)
 ·refine fg [] []<|ah 3 kr ?_
  obtain ⟨r3,e_r3,h⟩:=aan h;exact aO 17 114 [] [.own 589824,.agg [.i p0.ay.aH,.i p0.ay.aB,.i p0.ay.aT,.ext false (.sl 2 (p0.ay.aI.map aS))]] [.one (.s r2),.agg ((aF p0.ay).map .t)] (.one (.ow 5 1 (r3.map (aj .u8)))) rfl rfl kr kr kr kr kr (Lu e_r3) kr<|be<|⟨_,h,lo [(196609,1114112)]⟩
 refine ag<|au h (λh=>?_) (λh=>?_)
 ·refine bP [] [(153092098,.obj 1),(306184192,.frz),(1048584,.own 9),(8388608,.own 23),(67108864,.own 26),(536870912,.own 29)]<|ah 3 kr ?_
  obtain ⟨r4,e_r4,h⟩:=aan h;refine aO 23 113 [] [.own 589824,.i p0.aH] [.one (.s r2),.one (.i p0.aH)] (.one (.ow 5 1 (r4.map (aj .u8)))) rfl rfl kr kr kr kr kr (eQ e_r4) kr<|ah 2 kr ?_
  obtain ⟨r5,e_r5,h⟩:=aan h;refine aO 26 115 [] [.own 1507328,.i p0.bQ] [.one (.s r4),.one (.i p0.bQ)] (.one (.ow 5 1 (r5.map (aj .u8)))) rfl rfl kr kr kr kr kr (C0 e_r5) kr<|ah 2 kr ?_
  obtain ⟨r6,e_r6,h⟩:=aan h;exact aO 29 115 [] [.own 1703936,.i p0.bW] [.one (.s r5),.one (.i p0.bW)] (.one (.ow 5 1 (r6.map (aj .u8)))) rfl rfl kr kr kr kr kr (C0 e_r6) kr<|be<|⟨_,h,lo [(196609,1900544)]⟩
 refine ag<|au h (λh=>?_) (λh=>?_)
 ·refine bP [] [(627065225218,.obj 1),(1254130450432,.frz),(4294967304,.own 9),(34359738368,.own 35),(274877906944,.own 38),(2199023255552,.own 41)]<|ah 3 kr ?_
  obtain ⟨r7,e_r7,h⟩:=aan h;refine aO 35 113 [] [.own 589824,.i p0.aH] [.one (.s r2),.one (.i p0.aH)] (.one (.ow 5 1 (r7.map (aj .u8)))) rfl rfl kr kr kr kr kr (eQ e_r7) kr<|ah 2 kr ?_
  obtain ⟨r8,e_r8,h⟩:=aan h;refine aO 38 113 [] [.own 2293760,.i p0.fI] [.one (.s r7),.one (.i p0.fI)] (.one (.ow 5 1 (r8.map (aj .u8)))) rfl rfl kr kr kr kr kr (eQ e_r8) kr<|ah 2 kr ?_
  obtain ⟨r9,e_r9,h⟩:=aan h;exact aO 41 116 [] [.own 2490368,.ext false (.bb p0.fB)] [.one (.s r8),.one (.s p0.fB)] (.one (.ow 5 1 (r9.map (aj .u8)))) rfl rfl kr kr kr kr kr (Jw e_r9) kr<|be<|⟨_,h,lo [(196609,2686976)]⟩
 refine ag<|au h (λh=>?_) (λh=>?_)
 ·refine fg [] []<|ah 3 kr ?_
  obtain ⟨r10,e_r10,h⟩:=aan h;exact aO 47 113 [] [.own 589824,.i p0.aH] [.one (.s r2),.one (.i p0.aH)] (.one (.ow 5 1 (r10.map (aj .u8)))) rfl rfl kr kr kr kr kr (eQ e_r10) kr<|be<|⟨_,h,lo [(196609,3080192)]⟩
 exact ld<|em<|ck<|⟨_,h,lo [(196609,589824)]⟩
theorem NL{u p0 r}(h:wX u p0=some r):aD aam 43 [.one (.s p0)] (.tup [V.w [0,0,0,0,0,120,0,0,0,5] (cR r.1),V.b r.2]) []:=by
 unfold wX at h;refine da f43 true ?_;refine ag<|aV false 1 10 [.s p0,.i 0] h (λ_=>u7) λr1 h=>ap<|dn r (λp0 r1 x2 k=>k (uN u p0 r1 x2) ⟨[(0,.s p0),(2,.obj 2 0),(3,.b false),(4,.i r1.1),(5,.i r1.2.1),(20,.b x2)],[(2,[.i 0,.i 0,.i 0,.i 0,.i 0,.nil,.i 0,.i 0,.i 0,.nil])],[]⟩) rfl (λp0 r1 x2 h=>?_) ?_
 ·refine au h (λh=>dg) λh=>aQ<|aV false 3 26 [.s p0,.i r1.1,.i r1.2.1] h (λ_=>Ls) λr3 h=>ap<|js r (λx7 r3 k=>k (qg u x7 r3) ⟨[(2,.obj 2 0),(3,.b false),(7,.obj 7 0),(42,.b x7)],[(2,[.i 0,.i 0,.i 0,.i 0,.i 0,.nil,.i 0,.i 0,.i 0,.nil]),(7,[.i r3.1.ba,.i r3.1.aH,.i r3.1.ay.aH,.i r3.1.ay.aB,.i r3.1.ay.aT,.own 459269,.i r3.1.bQ,.i r3.1.bW,.i r3.1.fI,.own 459273])],[(459269,.live 120 2 (r3.1.ay.aI.map aS)),(459273,.live 5 1 (r3.1.fB.map (aj .u8)))]⟩) rfl (λx7 r3 h=>au h (λh=>dg) λh=>aQ<|dg)<|fg [] []<|aA 3 31 h (λh=>ae<|⟨_,_,h,lo [(459269,1703941),(459273,1703945)]⟩) λh=>ce 1 33 [.agg [.i r3.1.ba,.i r3.1.aH,.i r3.1.ay.aH,.i r3.1.ay.aB,.i r3.1.ay.aT,.own 1703941,.i r3.1.bQ,.i r3.1.bW,.i r3.1.fI,.own 1703945]] h (λ_=>AP) λr4 h=>aA 3 36 h (λh=>ae<|⟨_,_,h,lo [(459269,1703941),(459273,1703945)]⟩) λh=>ah 1 kr ?_
  obtain ⟨r5,e_r5,h⟩:=aan h;exact aO 38 74 [] [.agg [.i r3.1.ba,.i r3.1.aH,.i r3.1.ay.aH,.i r3.1.ay.aB,.i r3.1.ay.aT,.own 1703941,.i r3.1.bQ,.i r3.1.bW,.i r3.1.fI,.own 1703945]] [.agg ((cR r3.1).map .t)] (.one (.ow 5 1 (r5.map (aj .u8)))) rfl rfl kr kr kr kr kr (Lv e_r5) kr<|ce 1 40 [.own 2490368,.s p0] h (λ_=>Ap) λr6 h=>ae<|⟨_,_,h,lo [(459269,1703941),(459273,1703945)]⟩
 exact fg [] []<|aA 3 16 h (λh=>nU) λh=>aM 1 5 (aj .u8) p0<|nU
theorem Lw{u p0 r}(h:uO u p0=some r):aD aam 44 [eP (cR p0)] (.one (.t (.str r))) []:=by
 unfold uO at h;refine da f44 false ?_;refine ag<|ap<|aV false 1 4 [.agg ((cR p0).map .t)] h (λ_=>AP) λr1 h=>au h (λh=>dg) λh=>aQ<|ap<|ag<|cx<|ag<|au h (λh=>?_) (λh=>?_)
 ·refine aE<|ai false 3 13 [.i p0.ay.aH] h (λ_=>dG) (λr2 h=>?_)
  obtain ⟨_,e_3,h⟩:=aan h;exact bL ((zm #[109,97,110,32])) r2 rfl kr kr kr kr (of_decide_eq_true (aK e_3))<|ae<|jn
 refine ag<|au h (λh=>?_) (λh=>?_)
 ·refine ap<|bP [] [(8317042688,.frz),(272760834,.obj 1)]<|ai false 2 19 [.i p0.aH] h (λ_=>dG) (λr4 h=>?_)
  obtain ⟨_,e_5,h⟩:=aan h;refine bL ((zm #[119,97,110,116,32])) r4 rfl kr kr kr kr (of_decide_eq_true (aK e_5)) ?_;obtain ⟨_,e_6,h⟩:=aan h;refine bL (((zm #[119,97,110,116,32]))++r4) ((zm #[32])) rfl kr kr kr kr (of_decide_eq_true (aK e_6))<|ai false 2 24 [.i p0.bQ] h (λ_=>vZ) λr7 h=>ai false 0 25 [.i r7] h (λ_=>dG) (λr8 h=>?_)
  obtain ⟨_,e_9,h⟩:=aan h;refine bL ((((zm #[119,97,110,116,32]))++r4)++((zm #[32]))) r8 rfl kr kr kr kr (of_decide_eq_true (aK e_9)) ?_;obtain ⟨_,e_10,h⟩:=aan h;refine bL (((((zm #[119,97,110,116,32]))++r4)++((zm #[32])))++r8) ((zm #[32])) rfl kr kr kr kr (of_decide_eq_true (aK e_10))<|ai false 2 30 [.i p0.bW] h (λ_=>vZ) λr11 h=>ai false 0 31 [.i r11] h (λ_=>dG) (λr12 h=>?_)
  obtain ⟨_,e_13,h⟩:=aan h;exact bL ((((((zm #[119,97,110,116,32]))++r4)++((zm #[32])))++r8)++((zm #[32]))) r12 rfl kr kr kr kr (of_decide_eq_true (aK e_13))<|ae<|jn
 refine ag<|au h (λh=>?_) (λh=>?_)
 ·refine ap<|bP [] [(16423954939904,.frz),(1133871366146,.obj 1)]<|ai false 2 37 [.i p0.aH] h (λ_=>dG) (λr14 h=>?_)
  obtain ⟨_,e_15,h⟩:=aan h;refine bL ((zm #[112,97,114,116,32])) r14 rfl kr kr kr kr (of_decide_eq_true (aK e_15)) ?_;obtain ⟨_,e_16,h⟩:=aan h;refine bL (((zm #[112,97,114,116,32]))++r14) ((zm #[32])) rfl kr kr kr kr (of_decide_eq_true (aK e_16))<|ai false 2 42 [.i p0.fI] h (λ_=>dG) (λr17 h=>?_)
  obtain ⟨_,e_18,h⟩:=aan h;exact bL ((((zm #[112,97,114,116,32]))++r14)++((zm #[32]))) r17 rfl kr kr kr kr (of_decide_eq_true (aK e_18))<|ae<|jn
 refine ld<|em<|ck<|aE<|ai false 2 46 [.i p0.aH] h (λ_=>dG) (λr19 h=>?_)
 obtain ⟨_,e_20,h⟩:=aan h;exact bL ((zm #[98,101,97,116,32])) r19 rfl kr kr kr kr (of_decide_eq_true (aK e_20))<|ae<|jn
theorem zi{u p0 r}(h:gV u p0=some r):aD aam 21 [eP (am p0)] (.one (.t (.str r))) []:=by
 unfold gV at h;refine da f21 false ?_;refine ag<|ag<|js r (λx3 p0 k=>k (l7 u x3 p0) ⟨[(1,.obj 1 0),(2,.t (.str ((zm #[])))),(3,.t (.str x3))],[(1,((am p0).map .t))],[]⟩) rfl (λx3 p0 h=>?_) ?_
 ·refine ap<|bP [] [(66519048,.frz),(557058,.obj 1)]<|ai false 2 17 [.i p0.cQ] h (λ_=>dG) (λr4 h=>?_)
  obtain ⟨_,e_5,h⟩:=aan h;refine bL r4 ((zm #[62])) rfl kr kr kr kr (of_decide_eq_true (aK e_5))<|ai false 2 21 [.i p0.rB] h (λ_=>dG) (λr6 h=>?_)
  obtain ⟨_,e_7,h⟩:=aan h;refine bL (r4++((zm #[62]))) r6 rfl kr kr kr kr (of_decide_eq_true (aK e_7)) ?_;obtain ⟨_,e_8,h⟩:=aan h;refine bL ((r4++((zm #[62])))++r6) ((zm #[32])) rfl kr kr kr kr (of_decide_eq_true (aK e_8))<|ah 1 kr ?_
  obtain ⟨_,e_9,h⟩:=aan h;exact bL (((r4++((zm #[62])))++r6)++((zm #[32]))) x3 rfl kr kr kr kr (of_decide_eq_true (aK e_9))<|ae<|jn
 exact aV false 2 9 [.s p0.fB] h (λ_=>NL) λr1 h=>ag<|au h (λh=>fg [] []<|ce 1 14 [.agg [.i r1.1.ba,.i r1.1.aH,.i r1.1.ay.aH,.i r1.1.ay.aB,.i r1.1.ay.aT,.own 589829,.i r1.1.bQ,.i r1.1.bW,.i r1.1.fI,.own 589833]] h (λ_=>Lw) λr2 h=>Fb) λh=>aQ<|rx2
theorem C1{u p0 r}(h:qZ u p0=some r):aD aam 15 [eP (bm p0)] (.one (.t (.str r))) []:=by
 unfold qZ at h;refine da f15 false ?_;refine ag<|ap<|aE<|aM 2 38 am p0.br<|ae<|au h (λh=>dg) λh=>aQ<|ag<|ff r (λx9 k=>k (th u x9) ⟨[(2,.t (.str ((zm #[])))),(3,.own 196609)],[],[(196609,.live 9 1 (x9.map xB))]⟩) rfl (λx9 h=>aE<|ce 1 25 [.own 196609,.t (.str ((zm #[59,32])))] h (λ_=>xF) λr10 h=>ae<|jn)<|aE<|aM 2 38 am p0.br<|ae<|cx<|fh r (λkz x3 p0 x4 k=>k (mB u kz x3 p0 x4) ⟨[(2,.t (.str ((zm #[])))),(3,.own 196609),(12,.t (.sl 3 (p0.br.map am))),(13,.i ((p0.br.length:Int))),(14,.i x4)],[],[(196609,.live 9 1 (x3.map xB))]⟩) rfl (λkz x3 p0 x4 h=>?_) h (lo [(196609,655360)]) (λ_ _ _  h=>nomatch h)
 rw [mB] at h;exact ag<|ap<|au h (λh=>aQ<|ap<|cx<|aE<|bR 0 38 3 am h λy7 h _=>ae<|fg [] []<|ai false 2 20 [.agg ((am y7).map .t)] h (λ_=>zi) λr8 h=>bt (ys:=[r8]) 1 22 9 1 196609 xB h λh=>be<|fg [] []<|ae<|⟨_,_,_,h,lo [(196609,1441792)]⟩) λh=>F2
theorem Lx{u p0 r}(h:uP u p0=some r):aD aam 46 [eP (cR p0)] (.one (.t (.str r))) []:=by
 unfold uP at h;refine da f46 false ?_;refine ag<|ap<|aV false 1 4 [.agg ((cR p0).map .t)] h (λ_=>sC) λr1 h=>au h (λh=>dg) λh=>aQ<|ap<|ag<|cx<|ag<|au h (λh=>?_) (λh=>?_)
 ·refine aE<|ai false 3 13 [.i p0.ay.aH] h (λ_=>db) (λr2 h=>?_)
  obtain ⟨_,e_3,h⟩:=aan h;exact bL ((zm #[109,97,110,32])) r2 rfl kr kr kr kr (of_decide_eq_true (aK e_3))<|ae<|jn
 refine ag<|au h (λh=>?_) (λh=>?_)
 ·refine ap<|bP [] [(8317042688,.frz),(272760834,.obj 1)]<|ai false 2 19 [.i p0.aH] h (λ_=>db) (λr4 h=>?_)
  obtain ⟨_,e_5,h⟩:=aan h;refine bL ((zm #[119,97,110,116,32])) r4 rfl kr kr kr kr (of_decide_eq_true (aK e_5)) ?_;obtain ⟨_,e_6,h⟩:=aan h;refine bL (((zm #[119,97,110,116,32]))++r4) ((zm #[32])) rfl kr kr kr kr (of_decide_eq_true (aK e_6))<|ai false 2 24 [.i p0.bQ] h (λ_=>wa) λr7 h=>ai false 0 25 [.i r7] h (λ_=>db) (λr8 h=>?_)
  obtain ⟨_,e_9,h⟩:=aan h;refine bL ((((zm #[119,97,110,116,32]))++r4)++((zm #[32]))) r8 rfl kr kr kr kr (of_decide_eq_true (aK e_9)) ?_;obtain ⟨_,e_10,h⟩:=aan h;refine bL (((((zm #[119,97,110,116,32]))++r4)++((zm #[32])))++r8) ((zm #[32])) rfl kr kr kr kr (of_decide_eq_true (aK e_10))<|ai false 2 30 [.i p0.bW] h (λ_=>wa) λr11 h=>ai false 0 31 [.i r11] h (λ_=>db) (λr12 h=>?_)
  obtain ⟨_,e_13,h⟩:=aan h;exact bL ((((((zm #[119,97,110,116,32]))++r4)++((zm #[32])))++r8)++((zm #[32]))) r12 rfl kr kr kr kr (of_decide_eq_true (aK e_13))<|ae<|jn
 refine ag<|au h (λh=>?_) (λh=>?_)
 ·refine ap<|bP [] [(16423954939904,.frz),(1133871366146,.obj 1)]<|ai false 2 37 [.i p0.aH] h (λ_=>db) (λr14 h=>?_)
  obtain ⟨_,e_15,h⟩:=aan h;refine bL ((zm #[112,97,114,116,32])) r14 rfl kr kr kr kr (of_decide_eq_true (aK e_15)) ?_;obtain ⟨_,e_16,h⟩:=aan h;refine bL (((zm #[112,97,114,116,32]))++r14) ((zm #[32])) rfl kr kr kr kr (of_decide_eq_true (aK e_16))<|ai false 2 42 [.i p0.fI] h (λ_=>db) (λr17 h=>?_)
  obtain ⟨_,e_18,h⟩:=aan h;exact bL ((((zm #[112,97,114,116,32]))++r14)++((zm #[32]))) r17 rfl kr kr kr kr (of_decide_eq_true (aK e_18))<|ae<|jn
 refine ld<|em<|ck<|aE<|ai false 2 46 [.i p0.aH] h (λ_=>db) (λr19 h=>?_)
 obtain ⟨_,e_20,h⟩:=aan h;exact bL ((zm #[98,101,97,116,32])) r19 rfl kr kr kr kr (of_decide_eq_true (aK e_20))<|ae<|jn
theorem zj{u p0 r}(h:gW u p0=some r):aD aam 22 [eP (am p0)] (.one (.t (.str r))) []:=by
 unfold gW at h;refine da f22 false ?_;refine ag<|ap<|bP [] [(31616,.frz),(1090,.obj 1)]<|ai false 2 8 [.i p0.cQ] h (λ_=>db) (λr1 h=>?_)
 obtain ⟨_,e_2,h⟩:=aan h;refine bL r1 ((zm #[62])) rfl kr kr kr kr (of_decide_eq_true (aK e_2))<|ai false 2 12 [.i p0.rB] h (λ_=>db) (λr3 h=>?_)
 obtain ⟨_,e_4,h⟩:=aan h;refine bL (r1++((zm #[62]))) r3 rfl kr kr kr kr (of_decide_eq_true (aK e_4)) ?_;obtain ⟨_,e_5,h⟩:=aan h;refine bL ((r1++((zm #[62])))++r3) ((zm #[32])) rfl kr kr kr kr (of_decide_eq_true (aK e_5))<|ae<|aV false 2 18 [.s p0.fB] h (λ_=>zb) λr6 h=>ap<|ag<|au h (λh=>?_) (λh=>?_)
 ·refine aE<|ah 1 kr ?_
  obtain ⟨_,e_7,h⟩:=aan h;exact bL (((r1++((zm #[62])))++r3)++((zm #[32]))) ((zm #[63])) rfl kr kr kr kr (of_decide_eq_true (aK e_7))<|ae<|jn
 refine aQ<|aE<|ce 2 27 [.agg [.i r6.1.ba,.i r6.1.aH,.i r6.1.ay.aH,.i r6.1.ay.aB,.i r6.1.ay.aT,.own 1179653,.i r6.1.bQ,.i r6.1.bW,.i r6.1.fI,.own 1179657]] h (λ_=>Lx) (λr8 h=>?_)
 obtain ⟨_,e_9,h⟩:=aan h;exact bL (((r1++((zm #[62])))++r3)++((zm #[32]))) r8 rfl kr kr kr kr (of_decide_eq_true (aK e_9))<|ae<|jn
theorem Ly{u p0 r}(h:uQ u p0=some r):aD aam 16 [eP (bm p0)] (.one (.t (.str r))) []:=by
 unfold uQ at h;refine da f16 false ?_;refine ag<|ag<|js r (λx10 p0 k=>k (ti u x10 p0) ⟨[(1,.obj 1 0),(2,.t (.str ((zm #[])))),(3,.t (.str x10))],[(1,((bm p0).map .t))],[]⟩) rfl (λx10 p0 h=>ap<|aE<|aM 2 38 am p0.br<|ae<|au h (λh=>dg) λh=>aQ<|dg)<|ag<|cx<|fh r (λgB x3 x4 p0 k=>k (i1 u gB x3 x4 p0) ⟨[(1,.obj 1 0),(2,.t (.str ((zm #[])))),(3,.t (.str x3)),(4,.i x4)],[(1,((bm p0).map .t))],[]⟩) rfl (λgB x3 x4 p0 h=>?_) h (lo []) (λ_ _ _  h=>nomatch h)
 rw [i1] at h;refine ap<|aE<|aM 3 38 am p0.br<|ae<|au h (λh=>?_) (λh=>?_)
 ·refine aQ<|ap<|cx<|dn r (λx7 x4 p0 k=>k (kL u (i1 u gB) x7 x4 p0) ⟨[(1,.obj 1 0),(2,.t (.str ((zm #[])))),(3,.t (.str x7)),(4,.i x4)],[(1,((bm p0).map .t))],[]⟩) rfl (λx7 x4 p0 h=>?_) ?_
  ·refine fg [] []<|bR 4 38 3 am h λy8 h _=>ai false 1 22 [.agg ((am y8).map .t)] h (λ_=>zj) (λr9 h=>?_)
   obtain ⟨_,e_10,h⟩:=aan h;exact bL x7 r9 rfl kr kr kr kr (of_decide_eq_true (aK e_10))<|be<|fg [] []<|nU
  refine ag<|au h (λh=>?_) (λh=>?_)
  ·refine fg [] []<|ah 1 kr ?_
   obtain ⟨_,e_7,h⟩:=aan h;exact bL x3 ((zm #[59,32])) rfl kr kr kr kr (of_decide_eq_true (aK e_7))<|nU
  exact aQ<|Q4
 exact T0
theorem NM{u p0 r}(h:wY u p0=some r):aD aam 101 [eP (aw p0)] (V.b r) []:=by
 unfold wY at h;refine da Tryz.f101 false ?_;exact ag<|dg
theorem sF{u p0 r}(h:fa u p0=some r):aD aam 100 [eP (bm p0),.clo 101 []] (.one (.ow 3 1 (r.map (aj .i64)))) []:=by
 unfold fa at h;refine da f100 true ?_;refine ag<|ag<|ff r (λx10 k=>k (er u x10) ⟨[(4,.nil),(5,.own 327681)],[],[(327681,.live 3 1 (x10.map (aj .i64)))]⟩) rfl (λx10 h=>dg)<|aE<|aM 2 65 aw p0.fN<|ae<|cx<|fh r (λb5 x3 p0 x4 k=>k (cc u b5 x3 p0 x4) ⟨[(1,.clo 101 []),(4,.nil),(5,.own 327681),(10,.t (.sl 12 (p0.fN.map aw))),(11,.i ((p0.fN.length:Int))),(12,.i x4)],[],[(327681,.live 3 1 (x3.map (aj .i64)))]⟩) rfl (λb5 x3 p0 x4 h=>?_) h (lo [(327681,524288)]) (λ_ _ _  h=>nomatch h)
 rw [cc] at h;exact ag<|ap<|au h (λh=>aQ<|dn r (λx9 p0 x4 k=>k (cV u (cc u b5) x9 p0 x4) ⟨[(1,.clo 101 []),(4,.nil),(5,.own 327681),(10,.t (.sl 12 (p0.fN.map aw))),(11,.i ((p0.fN.length:Int))),(12,.i x4)],[],[(327681,.live 3 1 (x9.map (aj .i64)))]⟩) rfl (λx9 p0 x4 h=>fg [] []<|nU)<|cx<|aE<|bR 1 65 12 aw h λy7 h _=>ae<|aV false 2 19 [.agg ((aw y7).map .t)] h (λ_=>NM) λr8 h=>au h (λh=>fg [] []<|bt 3 23 3 1 327681 (aj .i64) h λh=>be<|⟨_,_,_,h,lo [(327681,1507328)]⟩) λh=>ld<|em<|ck<|Q4) λh=>F2
theorem Re{u p0 r}(h:Bj u p0=some r):aD aam 65 [eP (bm p0)] (.one (.ow 3 1 (r.map (aj .i64)))) []:=by
 unfold Bj at h;refine da f65 true ?_;exact ag<|aV false 1 4 [.agg ((bm p0).map .t),.clo 101 []] h (λ_=>sF) λr1 h=>jn
theorem Jx{u p0 r}(h:sq u p0=some r):aD aam 102 [eP (aw p0)] (V.b r) []:=by
 unfold sq at h;refine da Tryz.f102 false ?_;exact ag<|dg
theorem re{u p0 r}(h:eE u p0=some r):aD aam 100 [eP (bm p0),.clo 102 []] (.one (.ow 3 1 (r.map (aj .i64)))) []:=by
 unfold eE at h;refine da f100 true ?_;refine ag<|ag<|ff r (λx10 k=>k (dX u x10) ⟨[(4,.nil),(5,.own 327681)],[],[(327681,.live 3 1 (x10.map (aj .i64)))]⟩) rfl (λx10 h=>dg)<|aE<|aM 2 65 aw p0.fN<|ae<|cx<|fh r (λbT x3 p0 x4 k=>k (bY u bT x3 p0 x4) ⟨[(1,.clo 102 []),(4,.nil),(5,.own 327681),(10,.t (.sl 12 (p0.fN.map aw))),(11,.i ((p0.fN.length:Int))),(12,.i x4)],[],[(327681,.live 3 1 (x3.map (aj .i64)))]⟩) rfl (λbT x3 p0 x4 h=>?_) h (lo [(327681,524288)]) (λ_ _ _  h=>nomatch h)
 rw [bY] at h;exact ag<|ap<|au h (λh=>aQ<|dn r (λx9 p0 x4 k=>k (cM u (bY u bT) x9 p0 x4) ⟨[(1,.clo 102 []),(4,.nil),(5,.own 327681),(10,.t (.sl 12 (p0.fN.map aw))),(11,.i ((p0.fN.length:Int))),(12,.i x4)],[],[(327681,.live 3 1 (x9.map (aj .i64)))]⟩) rfl (λx9 p0 x4 h=>fg [] []<|nU)<|cx<|aE<|bR 1 65 12 aw h λy7 h _=>ae<|aV false 2 19 [.agg ((aw y7).map .t)] h (λ_=>Jx) λr8 h=>au h (λh=>fg [] []<|bt 3 23 3 1 327681 (aj .i64) h λh=>be<|⟨_,_,_,h,lo [(327681,1507328)]⟩) λh=>ld<|em<|ck<|Q4) λh=>F2
theorem NN{u p0 r}(h:wZ u p0=some r):aD aam 66 [eP (bm p0)] (.one (.ow 3 1 (r.map (aj .i64)))) []:=by
 unfold wZ at h;refine da f66 true ?_;exact ag<|aV false 1 4 [.agg ((bm p0).map .t),.clo 102 []] h (λ_=>re) λr1 h=>jn
theorem NO{u p0 r}(h:zX u p0=some r):aD aam 35 [eP (bm p0)] (.one (.ow 3 1 (r.map (aj .i64)))) []:=by
 unfold zX at h;refine da f35 true ?_;exact ag<|ap<|bP [] [(93616,.frz),(586,.obj 1),(4096,.own 12),(32768,.own 15),(131072,.own 17)]<|aM 2 38 am p0.br<|aM 2 229 b9 p0.dB<|ai false 3 12 [.agg ((bm p0).map .t)] h (λ_=>Re) λr1 h=>aM 0 3 (aj .i64) r1<|ai false 1 15 [.agg ((bm p0).map .t)] h (λ_=>NN) λr2 h=>aM 0 3 (aj .i64) r2<|ae<|jn
theorem NP{u p0 r}(h:w4 u p0=some r):aD aam 34 [.one (.t (.sl 1 (p0.map (aj .i64))))] (.one (.t (.str r))) []:=by
 unfold w4 at h;refine da f34 false ?_;refine ag<|ag<|ff r (λx9 k=>k (uR u x9) ⟨[(2,.t (.str ((zm #[])))),(3,.own 196609)],[],[(196609,.live 9 1 (x9.map xB))]⟩) rfl (λx9 h=>aE<|ce 1 20 [.own 196609,.t (.str ((zm #[32])))] h (λ_=>xF) λr10 h=>ae<|jn)<|aE<|aM 1 3 (aj .i64) p0<|ae<|cx<|fh r (λlE x3 p0 x4 k=>k (nQ u lE x3 p0 x4) ⟨[(2,.t (.str ((zm #[])))),(3,.own 196609),(7,.t (.sl 1 (p0.map (aj .i64)))),(8,.i ((p0.length:Int))),(9,.i x4)],[],[(196609,.live 9 1 (x3.map xB))]⟩) rfl (λlE x3 p0 x4 h=>?_) h (lo [(196609,393216)]) (λ_ _ _  h=>nomatch h)
 rw [nQ] at h;exact ag<|ap<|au h (λh=>aQ<|ap<|cx<|aE<|bR 0 3 1 (aj .i64) h λy7 h _=>ae<|fg [] []<|ai false 2 15 [.i y7] h (λ_=>dG) λr8 h=>bt (ys:=[r8]) 1 17 9 1 196609 xB h λh=>be<|fg [] []<|ae<|⟨_,_,_,h,lo [(196609,1114112)]⟩) λh=>F2
theorem HL{u p0 r}(h:qh u p0=some r):aD aam 17 [eP (bm p0)] (.one (.t (.str r))) []:=by
 unfold qh at h;refine da f17 false ?_;exact ag<|aE<|ai false 1 4 [.agg ((bm p0).map .t)] h (λ_=>NO) λr1 h=>ce 0 5 [.own 262144] h (λ_=>NP) λr2 h=>ae<|jn
theorem Rf{u p0 r}(h:Bm u p0=some r):aD aam 67 [eP (bm p0)] (.one (.ow 3 1 (r.map (aj .i64)))) []:=by
 unfold Bm at h;refine da f67 true ?_;refine ag<|ag<|ff r (λx9 k=>k (yh u x9) ⟨[(2,.nil),(3,.own 196609)],[],[(196609,.live 3 1 (x9.map (aj .i64)))]⟩) rfl (λx9 h=>dg)<|ag<|cx<|fh r (λkn x3 x4 p0 k=>k (mT u kn x3 x4 p0) ⟨[(1,.obj 1 0),(2,.nil),(3,.own 196609),(4,.i x4)],[(1,((bm p0).map .t))],[(196609,.live 3 1 (x3.map (aj .i64)))]⟩) rfl (λkn x3 x4 p0 h=>?_) h (lo [(196609,327680)]) (λ_ _ _  h=>nomatch h)
 rw [mT] at h;exact ap<|aE<|aM 3 65 aw p0.fN<|ae<|au h (λh=>aQ<|dn r (λx8 x4 p0 k=>k (q6 u (mT u kn) x8 x4 p0) ⟨[(1,.obj 1 0),(2,.nil),(3,.own 196609),(4,.i x4)],[(1,((bm p0).map .t))],[(196609,.live 3 1 (x8.map (aj .i64)))]⟩) rfl (λx8 x4 p0 h=>fg [] []<|nU)<|cx<|aE<|bR 3 65 12 aw h λy7 h _=>ae<|au h (λh=>fg [] []<|bt 3 22 3 1 196609 (aj .i64) h λh=>be<|⟨_,_,_,h,lo [(196609,1441792)]⟩) λh=>ld<|em<|ck<|Q4) λh=>F2
theorem NQ{u p0 r}(h:w5 u p0=some r):aD aam 68 [eP (bm p0)] (.one (.ow 3 1 (r.map (aj .i64)))) []:=by
 unfold w5 at h;refine da f68 true ?_;refine ag<|ag<|ff r (λx9 k=>k (uS u x9) ⟨[(2,.nil),(3,.own 196609)],[],[(196609,.live 3 1 (x9.map (aj .i64)))]⟩) rfl (λx9 h=>dg)<|ag<|cx<|fh r (λiv x3 x4 p0 k=>k (ka u iv x3 x4 p0) ⟨[(1,.obj 1 0),(2,.nil),(3,.own 196609),(4,.i x4)],[(1,((bm p0).map .t))],[(196609,.live 3 1 (x3.map (aj .i64)))]⟩) rfl (λiv x3 x4 p0 h=>?_) h (lo [(196609,327680)]) (λ_ _ _  h=>nomatch h)
 rw [ka] at h;exact ap<|aE<|aM 3 65 aw p0.fN<|ae<|au h (λh=>aQ<|dn r (λx8 x4 p0 k=>k (nR u (ka u iv) x8 x4 p0) ⟨[(1,.obj 1 0),(2,.nil),(3,.own 196609),(4,.i x4)],[(1,((bm p0).map .t))],[(196609,.live 3 1 (x8.map (aj .i64)))]⟩) rfl (λx8 x4 p0 h=>fg [] []<|nU)<|cx<|aE<|bR 3 65 12 aw h λy7 h _=>ae<|au h (λh=>fg [] []<|bt 3 23 3 1 196609 (aj .i64) h λh=>be<|⟨_,_,_,h,lo [(196609,1507328)]⟩) λh=>ld<|em<|ck<|Q4) λh=>F2
theorem NR{u p0 r}(h:zY u p0=some r):aD aam 37 [eP (bm p0)] (.one (.ow 3 1 (r.map (aj .i64)))) []:=by
 unfold zY at h;refine da f37 true ?_;exact ag<|ap<|bP [] [(93616,.frz),(586,.obj 1),(4096,.own 12),(32768,.own 15),(131072,.own 17)]<|aM 2 38 am p0.br<|aM 2 229 b9 p0.dB<|ai false 3 12 [.agg ((bm p0).map .t)] h (λ_=>Rf) λr1 h=>aM 0 3 (aj .i64) r1<|ai false 1 15 [.agg ((bm p0).map .t)] h (λ_=>NQ) λr2 h=>aM 0 3 (aj .i64) r2<|ae<|jn
theorem Lz{u p0 r}(h:uT u p0=some r):aD aam 36 [.one (.t (.sl 1 (p0.map (aj .i64))))] (.one (.t (.str r))) []:=by
 unfold uT at h;refine da f36 false ?_;refine ag<|ag<|ff r (λx10 k=>k (xA u x10) ⟨[(2,.t (.str ((zm #[])))),(3,.t (.str x10))],[],[]⟩) rfl (λx10 h=>dg)<|ag<|cx<|fh r (λgF p0 x3 x4 k=>k (i6 u gF p0 x3 x4) ⟨[(0,.t (.sl 1 (p0.map (aj .i64)))),(2,.t (.str ((zm #[])))),(3,.t (.str x3)),(4,.i x4)],[],[]⟩) rfl (λgF p0 x3 x4 h=>?_) h (lo []) (λ_ _ _  h=>nomatch h)
 rw [i6] at h;refine ap<|aE<|aM 2 3 (aj .i64) p0<|ae<|au h (λh=>?_) (λh=>?_)
 ·refine aQ<|ap<|cx<|dn r (λp0 x7 x4 k=>k (kM u (i6 u gF) p0 x7 x4) ⟨[(0,.t (.sl 1 (p0.map (aj .i64)))),(2,.t (.str ((zm #[])))),(3,.t (.str x7)),(4,.i x4)],[],[]⟩) rfl (λp0 x7 x4 h=>?_) ?_
  ·refine fg [] []<|bR 3 3 1 (aj .i64) h λy8 h _=>ai false 1 20 [.i y8] h (λ_=>db) (λr9 h=>?_)
   obtain ⟨_,e_10,h⟩:=aan h;exact bL x7 r9 rfl kr kr kr kr (of_decide_eq_true (aK e_10))<|be<|fg [] []<|nU
  refine ag<|au h (λh=>?_) (λh=>?_)
  ·refine fg [] []<|ah 1 kr ?_
   obtain ⟨_,e_7,h⟩:=aan h;exact bL x3 ((zm #[32])) rfl kr kr kr kr (of_decide_eq_true (aK e_7))<|nU
  exact aQ<|Q4
 exact F2
theorem HM{u p0 r}(h:qi u p0=some r):aD aam 18 [eP (bm p0)] (.one (.t (.str r))) []:=by
 unfold qi at h;refine da f18 false ?_;exact ag<|aE<|ai false 1 4 [.agg ((bm p0).map .t)] h (λ_=>NR) λr1 h=>ce 0 5 [.own 262144] h (λ_=>Lz) λr2 h=>ae<|jn
theorem F8{u r}(h:tj u=some r):aD aam 39 [] (.one (.ow 9 1 (r.map xB))) []:=by
 unfold tj at h;refine da f39 true ?_;exact ag<|dg
theorem HN{u p0 r}(h:qj u p0=some r):aD aam 19 [eP (eA p0)] (.one (.t (.str r))) []:=by
 unfold qj at h;refine da f19 false ?_;refine ag<|ap<|aV false 2 6 [.i p0.ba,.i 1,.i 7] h (λ_=>cg) λr1 h=>au h (λh=>dg) λh=>aQ<|ap<|bP [] [(242688,.frz),(16898,.obj 1),(256,.own 8),(2048,.el 8)]<|ai false 0 8 [] h (λ_=>F8) λr2 h=>bE 2 9 1 524288 9 xB h λy3 h e_y3=>cW 0 1 1 524288 0 9 false xB ((bB e_y3).2) ?_
 obtain ⟨_,e_4,h⟩:=aan h;refine bL y3 ((zm #[32])) rfl kr kr kr kr (of_decide_eq_true (aK e_4))<|ai false 2 16 [.i p0.fN] h (λ_=>dG) (λr5 h=>?_)
 obtain ⟨_,e_6,h⟩:=aan h;refine bL (y3++((zm #[32]))) r5 rfl kr kr kr kr (of_decide_eq_true (aK e_6))<|ae<|ff r (λx8 k=>k (mU u x8) ⟨[(2,.t (.str ((zm #[])))),(3,.t (.str x8))],[],[]⟩) rfl (λx8 h=>dg)<|ag<|au h (λh=>?_) (λh=>?_)
 ·refine fg [] []<|ai false 3 24 [.i p0.fS] h (λ_=>dG) (λr7 h=>?_)
  obtain ⟨_,e_8,h⟩:=aan h;refine bL ((zm #[32])) r7 rfl kr kr kr kr (of_decide_eq_true (aK e_8)) ?_;obtain ⟨_,e_9,h⟩:=aan h;exact bL ((y3++((zm #[32])))++r5) (((zm #[32]))++r7) rfl kr kr kr kr (of_decide_eq_true (aK e_9))<|ra1
 exact aQ<|rx1
theorem HO{u p0 r}(h:qk u p0=some r):aD aam 20 [eP (eA p0)] (.one (.t (.str r))) []:=by
 unfold qk at h;refine da f20 false ?_;refine ag<|ag<|ap<|aE<|aM 3 9 xB ([(zm #[]),(zm #[116,105,99,107]),(zm #[116,97,107,101]),(zm #[108,111,115,101]),(zm #[100,111,117,98,108,101]),(zm #[102,97,108,108]),(zm #[114,105,115,101]),(zm #[102,111,114,103,101])])<|ai false 1 11 [.i p0.ba,.i 1,.i (cG .i64 ((([(zm #[]),(zm #[116,105,99,107]),(zm #[116,97,107,101]),(zm #[108,111,115,101]),(zm #[100,111,117,98,108,101]),(zm #[102,97,108,108]),(zm #[114,105,115,101]),(zm #[102,111,114,103,101])]).length:Int)) 1)] h (λ_=>bi) λr1 h=>ae<|au h (λh=>dg) λh=>aQ<|ap<|bP [] [(7766016,.frz),(540674,.obj 1),(8200,.own 5),(65536,.el 5)]<|bE 3 9 1 327680 9 xB h λy2 h e_y2=>cW 0 1 1 327680 0 9 false xB ((bB e_y2).2) ?_
 obtain ⟨_,e_3,h⟩:=aan h;refine bL y2 ((zm #[32])) rfl kr kr kr kr (of_decide_eq_true (aK e_3))<|ai false 2 21 [.i p0.fN] h (λ_=>db) (λr4 h=>?_)
 obtain ⟨_,e_5,h⟩:=aan h;refine bL (y2++((zm #[32]))) r4 rfl kr kr kr kr (of_decide_eq_true (aK e_5))<|ae<|ap<|ag<|au h (λh=>?_) (λh=>?_)
 ·refine aE<|ah 1 kr ?_
  obtain ⟨_,e_6,h⟩:=aan h;refine bL ((y2++((zm #[32])))++r4) ((zm #[32])) rfl kr kr kr kr (of_decide_eq_true (aK e_6))<|ai false 2 30 [.i p0.fS] h (λ_=>db) (λr7 h=>?_)
  obtain ⟨_,e_8,h⟩:=aan h;exact bL (((y2++((zm #[32])))++r4)++((zm #[32]))) r7 rfl kr kr kr kr (of_decide_eq_true (aK e_8))<|ae<|jn
 exact aQ<|dg
theorem Rg{u p0 p1 r}(h:Ej u p0 p1=some r):aD aam 23 [V.i p0,V.i p1] (V.i r) []:=by
 unfold Ej at h;refine da f23 false ?_;exact ag<|dg
theorem LA{u p0 r}(h:q7 u p0=some r):aD aam 3 [.one (.s p0)] (V.b r) []:=by
 unfold q7 at h;refine da f3 false ?_;exact ag<|ap<|aV false 1 11 [.s p0] h (λ_=>S0) λr1 h=>au h (λh=>dg) λh=>aQ<|aV false 1 13 [.s p0] h (λ_=>De) λr2 h=>aV false 1 15 [.s p0] h (λ_=>Df) λr3 h=>aV false 1 17 [.s p0] h (λ_=>EY) λr4 h=>aV false 1 19 [.s p0] h (λ_=>Dg) λr5 h=>aV false 1 21 [.s p0] h (λ_=>Dh) λr6 h=>aV false 1 23 [.s p0] h (λ_=>Ce) λr7 h=>aE<|ce 1 25 [.agg [.i r2.fC.aB,.i r2.fC.bc,.i r2.fC.aU,.i r2.fC.aY,.t (.sl 1 (r2.fT.cy.map (aj .i64))),.s r2.ct,.t (.sl 1 (r2.ca.map bA)),.own 851975,.t (.sl 6 (r2.fD.map al)),.own 851977,.own 851978,.i r2.bC]] h (λ_=>HF) λr8 h=>ae<|Km ⟨[(2,.b false),(3,.obj 3 0),(4,.obj 4 0),(5,.obj 5 0),(6,.obj 6 0),(7,.obj 7 0),(8,.obj 8 0),(9,.t (.str r8))],[(3,[.i r2.fC.aB,.i r2.fC.bc,.i r2.fC.aU,.i r2.fC.aY,.t (.sl 1 (r2.fT.cy.map (aj .i64))),.s r2.ct,.t (.sl 1 (r2.ca.map bA)),.own 851975,.t (.sl 6 (r2.fD.map al)),.own 851977,.own 851978,.i r2.bC]),(4,[.i r3.fC.aB,.i r3.fC.bc,.i r3.fC.aU,.i r3.fC.aY,.t (.sl 1 (r3.fT.cy.map (aj .i64))),.s r3.ct,.t (.sl 1 (r3.ca.map bA)),.own 983047,.t (.sl 6 (r3.fD.map al)),.own 983049,.own 983050,.i r3.bC]),(5,[.i r4.fC.aB,.i r4.fC.bc,.i r4.fC.aU,.i r4.fC.aY,.t (.sl 1 (r4.fT.cy.map (aj .i64))),.s r4.ct,.t (.sl 1 (r4.ca.map bA)),.own 1114119,.t (.sl 6 (r4.fD.map al)),.own 1114121,.own 1114122,.i r4.bC]),(6,[.i r5.fC.aB,.i r5.fC.bc,.i r5.fC.aU,.i r5.fC.aY,.t (.sl 1 (r5.fT.cy.map (aj .i64))),.s r5.ct,.t (.sl 1 (r5.ca.map bA)),.own 1245191,.t (.sl 6 (r5.fD.map al)),.own 1245193,.own 1245194,.i r5.bC]),(7,[.i r6.ba,.i r6.fN,.i r6.fS,.i r6.fP.cQ,.i r6.fP.rB,.own 1376261]),(8,[.i r7.cQ,.i r7.rB,.own 1507330])],[(851975,.live 65 12 (r2.fN.map aw)),(851977,.live 38 3 (r2.br.map am)),(851978,.live 229 3 (r2.dB.map b9)),(983047,.live 65 12 (r3.fN.map aw)),(983049,.live 38 3 (r3.br.map am)),(983050,.live 229 3 (r3.dB.map b9)),(1114119,.live 65 12 (r4.fN.map aw)),(1114121,.live 38 3 (r4.br.map am)),(1114122,.live 229 3 (r4.dB.map b9)),(1245191,.live 65 12 (r5.fN.map aw)),(1245193,.live 38 3 (r5.br.map am)),(1245194,.live 229 3 (r5.dB.map b9)),(1376261,.live 5 1 (r6.fP.fB.map (aj .u8))),(1507330,.live 5 1 (r7.fB.map (aj .u8)))]⟩<|ap<|ja r (λr8 x20 r2 r4 k=>k (i7 u r8 x20 r2 r4) ⟨[(2,.b false),(3,.obj 3 0),(5,.obj 5 0),(9,.t (.str r8)),(64,.b x20)],[(3,((bm r2).map .t)),(5,((bm r4).map .t))],[]⟩) rfl (λr8 x20 r2 r4 h=>au h (λh=>dg) λh=>aQ<|aE<|aM 4 65 aw r2.fN<|ai false 1 71 [.i 0,.i (cG .i64 ((r2.fN.length:Int)) 1)] h (λ_=>Rg) λr21 h=>aA 2 73 h (λh=>ai false 1 75 [.agg ((bm r4).map .t)] h (λ_=>C1) λr22 h=>ae<|jn) λh=>ae<|jn)<|Wp.le (Le.trans (ch 3 7 851975 65 12 [.i r2.fC.aB,.i r2.fC.bc,.i r2.fC.aU,.i r2.fC.aY,.t (.sl 1 (r2.fT.cy.map (aj .i64))),.s r2.ct,.t (.sl 1 (r2.ca.map bA)),.own 851975,.t (.sl 6 (r2.fD.map al)),.own 851977,.own 851978,.i r2.bC] (r2.fN.map aw) kr kr kr) (Le.trans (ch 3 9 851977 38 3 [.i r2.fC.aB,.i r2.fC.bc,.i r2.fC.aU,.i r2.fC.aY,.t (.sl 1 (r2.fT.cy.map (aj .i64))),.s r2.ct,.t (.sl 1 (r2.ca.map bA)),.t (.sl 12 (r2.fN.map aw)),.t (.sl 6 (r2.fD.map al)),.own 851977,.own 851978,.i r2.bC] (r2.br.map am) kr kr kr) (Le.trans (ch 3 10 851978 229 3 [.i r2.fC.aB,.i r2.fC.bc,.i r2.fC.aU,.i r2.fC.aY,.t (.sl 1 (r2.fT.cy.map (aj .i64))),.s r2.ct,.t (.sl 1 (r2.ca.map bA)),.t (.sl 12 (r2.fN.map aw)),.t (.sl 6 (r2.fD.map al)),.t (.sl 3 (r2.br.map am)),.own 851978,.i r2.bC] (r2.dB.map b9) kr kr kr) (Le.trans (ch 4 7 983047 65 12 [.i r3.fC.aB,.i r3.fC.bc,.i r3.fC.aU,.i r3.fC.aY,.t (.sl 1 (r3.fT.cy.map (aj .i64))),.s r3.ct,.t (.sl 1 (r3.ca.map bA)),.own 983047,.t (.sl 6 (r3.fD.map al)),.own 983049,.own 983050,.i r3.bC] (r3.fN.map aw) kr kr kr) (Le.trans (ch 4 9 983049 38 3 [.i r3.fC.aB,.i r3.fC.bc,.i r3.fC.aU,.i r3.fC.aY,.t (.sl 1 (r3.fT.cy.map (aj .i64))),.s r3.ct,.t (.sl 1 (r3.ca.map bA)),.t (.sl 12 (r3.fN.map aw)),.t (.sl 6 (r3.fD.map al)),.own 983049,.own 983050,.i r3.bC] (r3.br.map am) kr kr kr) (Le.trans (ch 4 10 983050 229 3 [.i r3.fC.aB,.i r3.fC.bc,.i r3.fC.aU,.i r3.fC.aY,.t (.sl 1 (r3.fT.cy.map (aj .i64))),.s r3.ct,.t (.sl 1 (r3.ca.map bA)),.t (.sl 12 (r3.fN.map aw)),.t (.sl 6 (r3.fD.map al)),.t (.sl 3 (r3.br.map am)),.own 983050,.i r3.bC] (r3.dB.map b9) kr kr kr) (Le.trans (ch 5 7 1114119 65 12 [.i r4.fC.aB,.i r4.fC.bc,.i r4.fC.aU,.i r4.fC.aY,.t (.sl 1 (r4.fT.cy.map (aj .i64))),.s r4.ct,.t (.sl 1 (r4.ca.map bA)),.own 1114119,.t (.sl 6 (r4.fD.map al)),.own 1114121,.own 1114122,.i r4.bC] (r4.fN.map aw) kr kr kr) (Le.trans (ch 5 9 1114121 38 3 [.i r4.fC.aB,.i r4.fC.bc,.i r4.fC.aU,.i r4.fC.aY,.t (.sl 1 (r4.fT.cy.map (aj .i64))),.s r4.ct,.t (.sl 1 (r4.ca.map bA)),.t (.sl 12 (r4.fN.map aw)),.t (.sl 6 (r4.fD.map al)),.own 1114121,.own 1114122,.i r4.bC] (r4.br.map am) kr kr kr) (Le.trans (ch 5 10 1114122 229 3 [.i r4.fC.aB,.i r4.fC.bc,.i r4.fC.aU,.i r4.fC.aY,.t (.sl 1 (r4.fT.cy.map (aj .i64))),.s r4.ct,.t (.sl 1 (r4.ca.map bA)),.t (.sl 12 (r4.fN.map aw)),.t (.sl 6 (r4.fD.map al)),.t (.sl 3 (r4.br.map am)),.own 1114122,.i r4.bC] (r4.dB.map b9) kr kr kr) (Le.trans (ch 6 7 1245191 65 12 [.i r5.fC.aB,.i r5.fC.bc,.i r5.fC.aU,.i r5.fC.aY,.t (.sl 1 (r5.fT.cy.map (aj .i64))),.s r5.ct,.t (.sl 1 (r5.ca.map bA)),.own 1245191,.t (.sl 6 (r5.fD.map al)),.own 1245193,.own 1245194,.i r5.bC] (r5.fN.map aw) kr kr kr) (Le.trans (ch 6 9 1245193 38 3 [.i r5.fC.aB,.i r5.fC.bc,.i r5.fC.aU,.i r5.fC.aY,.t (.sl 1 (r5.fT.cy.map (aj .i64))),.s r5.ct,.t (.sl 1 (r5.ca.map bA)),.t (.sl 12 (r5.fN.map aw)),.t (.sl 6 (r5.fD.map al)),.own 1245193,.own 1245194,.i r5.bC] (r5.br.map am) kr kr kr) (Le.trans (ch 6 10 1245194 229 3 [.i r5.fC.aB,.i r5.fC.bc,.i r5.fC.aU,.i r5.fC.aY,.t (.sl 1 (r5.fT.cy.map (aj .i64))),.s r5.ct,.t (.sl 1 (r5.ca.map bA)),.t (.sl 12 (r5.fN.map aw)),.t (.sl 6 (r5.fD.map al)),.t (.sl 3 (r5.br.map am)),.own 1245194,.i r5.bC] (r5.dB.map b9) kr kr kr) (Le.trans (ch 7 5 1376261 5 1 [.i r6.ba,.i r6.fN,.i r6.fS,.i r6.fP.cQ,.i r6.fP.rB,.own 1376261] (r6.fP.fB.map (aj .u8)) kr kr kr) (ch 8 2 1507330 5 1 [.i r7.cQ,.i r7.rB,.own 1507330] (r7.fB.map (aj .u8)) kr kr kr))))))))))))))<|bP [] [(9150747060390068736,.frz),(8,.obj 3),(16,.obj 4),(32,.obj 5),(64,.obj 6),(128,.obj 7),(256,.obj 8)]<|ai false 2 28 [.agg ((bm r2).map .t)] h (λ_=>HG) λr9 h=>aA 2 30 h (λh=>AH) λh=>ai false 1 32 [.agg ((bm r3).map .t)] h (λ_=>HI) λr10 h=>ai false 1 34 [.agg ((bm r3).map .t)] h (λ_=>HJ) λr11 h=>aA 3 37 h (λh=>AH) λh=>ai false 1 39 [.agg ((bm r4).map .t)] h (λ_=>C1) λr12 h=>ai false 1 41 [.agg ((bm r4).map .t)] h (λ_=>Ly) λr13 h=>aA 3 44 h (λh=>AH) λh=>ai false 1 46 [.agg ((bm r5).map .t)] h (λ_=>HL) λr14 h=>ai false 1 48 [.agg ((bm r5).map .t)] h (λ_=>HM) λr15 h=>aA 3 51 h (λh=>AH) λh=>ai false 1 53 [.agg ((eA r6).map .t)] h (λ_=>HN) λr16 h=>ai false 1 55 [.agg ((eA r6).map .t)] h (λ_=>HO) λr17 h=>aA 3 58 h (λh=>AH) λh=>ai false 1 60 [.agg ((am r7).map .t)] h (λ_=>zi) λr18 h=>ai false 1 62 [.agg ((am r7).map .t)] h (λ_=>zj) λr19 h=>AH
end Go.Tm
