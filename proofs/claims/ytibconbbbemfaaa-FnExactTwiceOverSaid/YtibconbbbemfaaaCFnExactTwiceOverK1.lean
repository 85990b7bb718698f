/- The functions as they are translated do what the pure functions say (printed). -/
import Derived.Test.YtibconbbbemfaaaCFnExactTwiceOverD
import Derived.Test.YtibconbbbemfaaaProg
set_option maxRecDepth 100000
set_option maxHeartbeats 20000000
set_option linter.unusedVariables false
set_option linter.unusedSimpArgs false
namespace Go.Tm
open Go.Proofs
section
variable {P:Program} {n:Nat} {ls:List Nat} {Q:Exit→St→Prop} {st:St} {y:Code}
theorem Wp.j0 {x:Code} (G:Prop) (S:Sx) (J:G→Wp P n ls y Q (S).st) (h:Wp P n ls x (thenQ (fun st=>G∧Le n ls st (S).st) Q) st):Wp P n ls (.seq x y) Q st :=
 Wp.seqJ (α:=Unit) (fun q=>S) (fun q=>G) (fun q h=>J h) (h.mono fun e st' hq=>by
  cases e with
  | normal=>obtain ⟨h1,h2⟩:=hq; exact ⟨(),h1,h2⟩
  | _=>exact hq)
theorem Wp.j1 {α0:Type} {x:Code} (G:α0→Prop) (S:α0→Sx) (J:∀ v0,G v0→Wp P n ls y Q (S v0).st) (h:Wp P n ls x (thenQ (fun st=>∃ v0,G v0∧Le n ls st (S v0).st) Q) st):Wp P n ls (.seq x y) Q st :=
 Wp.seqJ (α:=α0) (fun q=>S q) (fun q=>G q) (fun q h=>J q h) (h.mono fun e st' hq=>by
  cases e with
  | normal=>obtain ⟨v0,h1,h2⟩:=hq; exact ⟨v0,h1,h2⟩
  | _=>exact hq)
theorem Wp.j3 {α0 α1 α2:Type} {x:Code} (G:α0→α1→α2→Prop) (S:α0→α1→α2→Sx) (J:∀ v0 v1 v2,G v0 v1 v2→Wp P n ls y Q (S v0 v1 v2).st) (h:Wp P n ls x (thenQ (fun st=>∃ v0 v1 v2,G v0 v1 v2∧Le n ls st (S v0 v1 v2).st) Q) st):Wp P n ls (.seq x y) Q st :=
 Wp.seqJ (α:=α0×α1×α2) (fun q=>S q.1 q.2.1 q.2.2) (fun q=>G q.1 q.2.1 q.2.2) (fun q h=>J q.1 q.2.1 q.2.2 h) (h.mono fun e st' hq=>by
  cases e with
  | normal=>obtain ⟨v0,v1,v2,h1,h2⟩:=hq; exact ⟨(v0,v1,v2),h1,h2⟩
  | _=>exact hq)
theorem Wp.j4 {α0 α1 α2 α3:Type} {x:Code} (G:α0→α1→α2→α3→Prop) (S:α0→α1→α2→α3→Sx) (J:∀ v0 v1 v2 v3,G v0 v1 v2 v3→Wp P n ls y Q (S v0 v1 v2 v3).st) (h:Wp P n ls x (thenQ (fun st=>∃ v0 v1 v2 v3,G v0 v1 v2 v3∧Le n ls st (S v0 v1 v2 v3).st) Q) st):Wp P n ls (.seq x y) Q st :=
 Wp.seqJ (α:=α0×α1×α2×α3) (fun q=>S q.1 q.2.1 q.2.2.1 q.2.2.2) (fun q=>G q.1 q.2.1 q.2.2.1 q.2.2.2) (fun q h=>J q.1 q.2.1 q.2.2.1 q.2.2.2 h) (h.mono fun e st' hq=>by
  cases e with
  | normal=>obtain ⟨v0,v1,v2,v3,h1,h2⟩:=hq; exact ⟨(v0,v1,v2,v3),h1,h2⟩
  | _=>exact hq)
theorem Wp.j5 {α0 α1 α2 α3 α4:Type} {x:Code} (G:α0→α1→α2→α3→α4→Prop) (S:α0→α1→α2→α3→α4→Sx) (J:∀ v0 v1 v2 v3 v4,G v0 v1 v2 v3 v4→Wp P n ls y Q (S v0 v1 v2 v3 v4).st) (h:Wp P n ls x (thenQ (fun st=>∃ v0 v1 v2 v3 v4,G v0 v1 v2 v3 v4∧Le n ls st (S v0 v1 v2 v3 v4).st) Q) st):Wp P n ls (.seq x y) Q st :=
 Wp.seqJ (α:=α0×α1×α2×α3×α4) (fun q=>S q.1 q.2.1 q.2.2.1 q.2.2.2.1 q.2.2.2.2) (fun q=>G q.1 q.2.1 q.2.2.1 q.2.2.2.1 q.2.2.2.2) (fun q h=>J q.1 q.2.1 q.2.2.1 q.2.2.2.1 q.2.2.2.2 h) (h.mono fun e st' hq=>by
  cases e with
  | normal=>obtain ⟨v0,v1,v2,v3,v4,h1,h2⟩:=hq; exact ⟨(v0,v1,v2,v3,v4),h1,h2⟩
  | _=>exact hq)
theorem Wp.l3 {α0 α1 α2:Type} {x:Code} (G:Nat→α0→α1→α2→Prop) (S:α0→α1→α2→Sx) (hs:∀ k v0 v1 v2,G (k+1) v0 v1 v2→Wp P n ls x (thenQ (fun st=>∃ v0 v1 v2,G k v0 v1 v2∧Le n ls st (S v0 v1 v2).st) Q) (S v0 v1 v2).st) {k:Nat} {v0:α0} {v1:α1} {v2:α2} (h:G k v0 v1 v2) (hl:Le n ls st (S v0 v1 v2).st) (h0:∀ v0 v1 v2,¬ G 0 v0 v1 v2):Wp P n ls (.loop x) Q st :=
 Wp.loopF (α:=α0×α1×α2) (fun q=>S q.1 q.2.1 q.2.2) (fun k q=>G k q.1 q.2.1 q.2.2) (fun q=>h0 q.1 q.2.1 q.2.2) (fun k q h=>(hs k q.1 q.2.1 q.2.2 h).mono fun e st' hq=>by
  cases e with
  | normal=>obtain ⟨v0',v1',v2',h1,h2⟩:=hq; exact ⟨(v0',v1',v2'),h1,h2⟩
  | _=>exact hq) k (v0,v1,v2) h hl
theorem Wp.l5 {α0 α1 α2 α3 α4:Type} {x:Code} (G:Nat→α0→α1→α2→α3→α4→Prop) (S:α0→α1→α2→α3→α4→Sx) (hs:∀ k v0 v1 v2 v3 v4,G (k+1) v0 v1 v2 v3 v4→Wp P n ls x (thenQ (fun st=>∃ v0 v1 v2 v3 v4,G k v0 v1 v2 v3 v4∧Le n ls st (S v0 v1 v2 v3 v4).st) Q) (S v0 v1 v2 v3 v4).st) {k:Nat} {v0:α0} {v1:α1} {v2:α2} {v3:α3} {v4:α4} (h:G k v0 v1 v2 v3 v4) (hl:Le n ls st (S v0 v1 v2 v3 v4).st) (h0:∀ v0 v1 v2 v3 v4,¬ G 0 v0 v1 v2 v3 v4):Wp P n ls (.loop x) Q st :=
 Wp.loopF (α:=α0×α1×α2×α3×α4) (fun q=>S q.1 q.2.1 q.2.2.1 q.2.2.2.1 q.2.2.2.2) (fun k q=>G k q.1 q.2.1 q.2.2.1 q.2.2.2.1 q.2.2.2.2) (fun q=>h0 q.1 q.2.1 q.2.2.1 q.2.2.2.1 q.2.2.2.2) (fun k q h=>(hs k q.1 q.2.1 q.2.2.1 q.2.2.2.1 q.2.2.2.2 h).mono fun e st' hq=>by
  cases e with
  | normal=>obtain ⟨v0',v1',v2',v3',v4',h1,h2⟩:=hq; exact ⟨(v0',v1',v2',v3',v4'),h1,h2⟩
  | _=>exact hq) k (v0,v1,v2,v3,v4) h hl
end
theorem laws_szIntS_ok {u p0 p1 r} (h:laws_szIntS u p0 p1=some r):CallOK Try.prog 32 [.one (.t (.sl 1 (p0.map (eInt .i64)))),V.i p1] (V.i r) []:=by
 unfold laws_szIntS at h
 refine ofb Try.f32 false ?_
 refine Wp.sa ?_
 refine Wp.sr ?_
 refine Runs.ln 2 3 (eInt .i64) p0 ?_
 refine Runs.alln ?_
 refine Wp.seq ?_
 refine Wp.sa ?_
 refine Wp.c2 h (fun h=>?_) (fun h=>?_)
 ·refine Wp.sa ?_
  obtain rfl:=oi h
  exact Wp.ret RetB
 refine Wp.sk ?_
 refine Wp.sa ?_
 obtain rfl:=oi h
 exact Wp.ret RetB
theorem laws_szTree_ok {u p0 p1 r} (h:laws_szTree u p0 p1=some r):CallOK Try.prog 9 [V.g (Tree.enc p0),V.i p1] (V.i r) []:=by
 unfold laws_szTree at h
 refine ofb Try.f9 false ?_
 refine Wp.sa ?_
 refine Wp.cl false 3 8 [.t (.sl 1 (p0.fUp.map (eInt .i64))),.i p1] h (fun _=>laws_szIntS_ok) (fun r1 h=>?_)
 refine Wp.seq ?_
 refine Wp.sa ?_
 refine Wp.c2 h (fun h=>?_) (fun h=>?_)
 ·refine Wp.sa ?_
  obtain rfl:=oi h
  exact Wp.ret RetB
 refine Wp.sk ?_
 refine Wp.sa ?_
 obtain rfl:=oi h
 exact Wp.ret RetB
theorem laws_szByteS_ok {u p0 p1 r} (h:laws_szByteS u p0 p1=some r):CallOK Try.prog 10 [.one (.s p0),V.i p1] (V.i r) []:=by
 unfold laws_szByteS at h
 refine ofb Try.f10 false ?_
 refine Wp.sa ?_
 refine Wp.sr ?_
 refine Runs.ln 2 5 (eInt .u8) p0 ?_
 refine Runs.alln ?_
 refine Wp.seq ?_
 refine Wp.sa ?_
 refine Wp.c2 h (fun h=>?_) (fun h=>?_)
 ·refine Wp.sa ?_
  obtain rfl:=oi h
  exact Wp.ret RetB
 refine Wp.sk ?_
 refine Wp.sa ?_
 obtain rfl:=oi h
 exact Wp.ret RetB
theorem laws_szImage_ok {u p0 p1 r} (h:laws_szImage u p0 p1=some r):CallOK Try.prog 33 [V.g (Image.enc p0),V.i p1] (V.i r) []:=by
 unfold laws_szImage at h
 refine ofb Try.f33 false ?_
 refine Wp.sa ?_
 refine Wp.cl false 3 8 [.s p0.fB,.i p1] h (fun _=>laws_szByteS_ok) (fun r1 h=>?_)
 refine Wp.seq ?_
 refine Wp.sa ?_
 refine Wp.c2 h (fun h=>?_) (fun h=>?_)
 ·refine Wp.sa ?_
  obtain rfl:=oi h
  exact Wp.ret RetB
 refine Wp.sk ?_
 refine Wp.sa ?_
 obtain rfl:=oi h
 exact Wp.ret RetB
theorem laws_szImageS_ok {u p0 p1 r} (h:laws_szImageS u p0 p1=some r):CallOK Try.prog 11 [.one (.t (.sl 1 (p0.map Image.enc))),V.i p1] (V.i r) []:=by
 unfold laws_szImageS at h
 refine ofb Try.f11 false ?_
 refine Wp.sa ?_
 refine Wp.sr ?_
 refine Runs.ln 2 78 Image.enc p0 ?_
 refine Runs.alln ?_
 refine Wp.seq ?_
 refine Wp.sa ?_
 refine Wp.c2 h (fun h=>?_) (fun h=>?_)
 ·refine Wp.sa ?_
  obtain rfl:=oi h
  exact Wp.ret RetB
 refine Wp.sk ?_
 refine Wp.j1 (fun x9=>laws_szImageS_j1 u x9=some r) (fun x9=>⟨[(1,.i x9),(4,.i 0)],[],[]⟩) (fun x9 h=>?_) ?_
 ·refine Wp.sa ?_
  obtain rfl:=oi h
  exact Wp.ret RetB
 refine Wp.sa ?_
 refine Wp.block ?_
 refine Wp.l3 (fun k_laws_szImageS_l2 p0 x3 x4=>laws_szImageS_l2 u k_laws_szImageS_l2 p0 x3 x4=some r) (fun p0 x3 x4=>⟨[(0,.t (.sl 1 (p0.map Image.enc))),(1,.i x3),(4,.i 0),(5,.i x4)],[],[]⟩) (fun k_laws_szImageS_l2 p0 x3 x4 h=>?_) h (lo []) (fun _ _ _  h=>nomatch h)
 rw [laws_szImageS_l2] at h
 refine Wp.seq ?_
 refine Wp.sr ?_
 refine Runs.ln 2 78 Image.enc p0 ?_
 refine Runs.alln ?_
 refine Wp.c2 h (fun h=>?_) (fun h=>?_)
 ·refine Wp.sk ?_
  refine Wp.seq ?_
  refine Wp.block ?_
  refine Wp.sr ?_
  refine Runs.ix 2 78 1 Image.enc h (fun y7 h _=>?_)
  refine Runs.cl false 2 23 [.agg [.s y7.fB],.i x3] h (fun _=>laws_szImage_ok) (fun r8 h=>?_)
  refine Runs.alln ?_
  refine Wp.sa ?_
  refine Wp.c2 h (fun h=>?_) (fun h=>?_)
  ·refine Wp.sa ?_
   obtain rfl:=oi h
   exact Wp.ret RetB
  refine Wp.skip ?_
  refine blkN ?_
  refine thenN ?_
  refine Wp.rg [] [] ?_
  refine Runs.alln ?_
  exact ⟨_,_,_,h,lo []⟩
 refine Wp.exit ?_
 refine thenE ?_
 refine thenE ?_
 refine blkE ?_
 refine thenN ?_
 exact ⟨_,h,lo []⟩
theorem laws_szSumS_ok {u p0 p1 r} (h:laws_szSumS u p0 p1=some r):CallOK Try.prog 63 [.one (.t (.sl 2 (p0.map Sum.enc))),V.i p1] (V.i r) []:=by
 unfold laws_szSumS at h
 refine ofb Try.f63 false ?_
 refine Wp.sa ?_
 refine Wp.sr ?_
 refine Runs.ln 2 155 Sum.enc p0 ?_
 refine Runs.alln ?_
 refine Wp.seq ?_
 refine Wp.sa ?_
 refine Wp.c2 h (fun h=>?_) (fun h=>?_)
 ·refine Wp.sa ?_
  obtain rfl:=oi h
  exact Wp.ret RetB
 refine Wp.sk ?_
 refine Wp.sa ?_
 obtain rfl:=oi h
 exact Wp.ret RetB
theorem laws_szManifest_ok {u p0 p1 r} (h:laws_szManifest u p0 p1=some r):CallOK Try.prog 49 [V.g (Manifest.enc p0),V.i p1] (V.i r) []:=by
 unfold laws_szManifest at h
 refine ofb Try.f49 false ?_
 refine Wp.sa ?_
 refine Wp.cl false 3 8 [.t (.sl 2 (p0.fSums.map Sum.enc)),.i p1] h (fun _=>laws_szSumS_ok) (fun r1 h=>?_)
 refine Wp.seq ?_
 refine Wp.sa ?_
 refine Wp.c2 h (fun h=>?_) (fun h=>?_)
 ·refine Wp.sa ?_
  obtain rfl:=oi h
  exact Wp.ret RetB
 refine Wp.sk ?_
 refine Wp.sa ?_
 obtain rfl:=oi h
 exact Wp.ret RetB
theorem laws_szBuild_ok {u p0 p1 r} (h:laws_szBuild u p0 p1=some r):CallOK Try.prog 50 [V.g (Build.enc p0),V.i p1] (V.i r) []:=by
 unfold laws_szBuild at h
 refine ofb Try.f50 false ?_
 refine Wp.sa ?_
 refine Wp.cl false 3 8 [.s p0.fBuf,.i p1] h (fun _=>laws_szByteS_ok) (fun r1 h=>?_)
 refine Wp.seq ?_
 refine Wp.sa ?_
 refine Wp.c2 h (fun h=>?_) (fun h=>?_)
 ·refine Wp.sa ?_
  obtain rfl:=oi h
  exact Wp.ret RetB
 refine Wp.sk ?_
 refine Wp.sa ?_
 obtain rfl:=oi h
 exact Wp.ret RetB
theorem laws_szKidS_ok {u p0 p1 r} (h:laws_szKidS u p0 p1=some r):CallOK Try.prog 51 [.one (.t (.sl 5 (p0.map Kid.enc))),V.i p1] (V.i r) []:=by
 unfold laws_szKidS at h
 refine ofb Try.f51 false ?_
 refine Wp.sa ?_
 refine Wp.sr ?_
 refine Runs.ln 2 145 Kid.enc p0 ?_
 refine Runs.alln ?_
 refine Wp.seq ?_
 refine Wp.sa ?_
 refine Wp.c2 h (fun h=>?_) (fun h=>?_)
 ·refine Wp.sa ?_
  obtain rfl:=oi h
  exact Wp.ret RetB
 refine Wp.sk ?_
 refine Wp.sa ?_
 obtain rfl:=oi h
 exact Wp.ret RetB
theorem laws_szNode_ok {u p0 p1 r} (h:laws_szNode u p0 p1=some r):CallOK Try.prog 34 [V.g (Node.enc p0),V.i p1] (V.i r) []:=by
 unfold laws_szNode at h
 refine ofb Try.f34 false ?_
 refine Wp.sa ?_
 refine Wp.cl false 3 8 [.agg ((Manifest.enc p0.fMan).map .t),.i p1] h (fun _=>laws_szManifest_ok) (fun r1 h=>?_)
 refine Wp.seq ?_
 refine Wp.sa ?_
 refine Wp.c2 h (fun h=>?_) (fun h=>?_)
 ·refine Wp.sa ?_
  obtain rfl:=oi h
  exact Wp.ret RetB
 refine Wp.sk ?_
 refine Wp.cl false 3 14 [.agg [.i p0.fBld.fHave,.s p0.fBld.fBuf],.i r1] h (fun _=>laws_szBuild_ok) (fun r2 h=>?_)
 refine Wp.seq ?_
 refine Wp.sa ?_
 refine Wp.c2 h (fun h=>?_) (fun h=>?_)
 ·refine Wp.sa ?_
  obtain rfl:=oi h
  exact Wp.ret RetB
 refine Wp.sk ?_
 refine Wp.cl false 3 20 [.t (.sl 5 (p0.fKids.map Kid.enc)),.i r2] h (fun _=>laws_szKidS_ok) (fun r3 h=>?_)
 refine Wp.seq ?_
 refine Wp.sa ?_
 refine Wp.c2 h (fun h=>?_) (fun h=>?_)
 ·refine Wp.sa ?_
  obtain rfl:=oi h
  exact Wp.ret RetB
 refine Wp.sk ?_
 refine Wp.sa ?_
 obtain rfl:=oi h
 exact Wp.ret RetB
theorem laws_szNodeS_ok {u p0 p1 r} (h:laws_szNodeS u p0 p1=some r):CallOK Try.prog 12 [.one (.t (.sl 12 (p0.map Node.enc))),V.i p1] (V.i r) []:=by
 unfold laws_szNodeS at h
 refine ofb Try.f12 false ?_
 refine Wp.sa ?_
 refine Wp.sr ?_
 refine Runs.ln 2 87 Node.enc p0 ?_
 refine Runs.alln ?_
 refine Wp.seq ?_
 refine Wp.sa ?_
 refine Wp.c2 h (fun h=>?_) (fun h=>?_)
 ·refine Wp.sa ?_
  obtain rfl:=oi h
  exact Wp.ret RetB
 refine Wp.sk ?_
 refine Wp.j1 (fun x9=>laws_szNodeS_j1 u x9=some r) (fun x9=>⟨[(1,.i x9),(4,.i 0)],[],[]⟩) (fun x9 h=>?_) ?_
 ·refine Wp.sa ?_
  obtain rfl:=oi h
  exact Wp.ret RetB
 refine Wp.sa ?_
 refine Wp.block ?_
 refine Wp.l3 (fun k_laws_szNodeS_l2 p0 x3 x4=>laws_szNodeS_l2 u k_laws_szNodeS_l2 p0 x3 x4=some r) (fun p0 x3 x4=>⟨[(0,.t (.sl 12 (p0.map Node.enc))),(1,.i x3),(4,.i 0),(5,.i x4)],[],[]⟩) (fun k_laws_szNodeS_l2 p0 x3 x4 h=>?_) h (lo []) (fun _ _ _  h=>nomatch h)
 rw [laws_szNodeS_l2] at h
 refine Wp.seq ?_
 refine Wp.sr ?_
 refine Runs.ln 2 87 Node.enc p0 ?_
 refine Runs.alln ?_
 refine Wp.c2 h (fun h=>?_) (fun h=>?_)
 ·refine Wp.sk ?_
  refine Wp.seq ?_
  refine Wp.block ?_
  refine Wp.sr ?_
  refine Runs.ix 2 87 12 Node.enc h (fun y7 h _=>?_)
  refine Runs.cl false 2 23 [.agg ((Node.enc y7).map .t),.i x3] h (fun _=>laws_szNode_ok) (fun r8 h=>?_)
  refine Runs.alln ?_
  refine Wp.sa ?_
  refine Wp.c2 h (fun h=>?_) (fun h=>?_)
  ·refine Wp.sa ?_
   obtain rfl:=oi h
   exact Wp.ret RetB
  refine Wp.skip ?_
  refine blkN ?_
  refine thenN ?_
  refine Wp.rg [] [] ?_
  refine Runs.alln ?_
  exact ⟨_,_,_,h,lo []⟩
 refine Wp.exit ?_
 refine thenE ?_
 refine thenE ?_
 refine blkE ?_
 refine thenN ?_
 exact ⟨_,h,lo []⟩
theorem laws_szPut_ok {u p0 p1 r} (h:laws_szPut u p0 p1=some r):CallOK Try.prog 64 [V.g (Put.enc p0),V.i p1] (V.i r) []:=by
 unfold laws_szPut at h
 refine ofb Try.f64 false ?_
 refine Wp.sa ?_
 refine Wp.cl false 3 8 [.s p0.fB,.i p1] h (fun _=>laws_szByteS_ok) (fun r1 h=>?_)
 refine Wp.seq ?_
 refine Wp.sa ?_
 refine Wp.c2 h (fun h=>?_) (fun h=>?_)
 ·refine Wp.sa ?_
  obtain rfl:=oi h
  exact Wp.ret RetB
 refine Wp.sk ?_
 refine Wp.sa ?_
 obtain rfl:=oi h
 exact Wp.ret RetB
theorem laws_szPutS_ok {u p0 p1 r} (h:laws_szPutS u p0 p1=some r):CallOK Try.prog 52 [.one (.t (.sl 6 (p0.map Put.enc))),V.i p1] (V.i r) []:=by
 unfold laws_szPutS at h
 refine ofb Try.f52 false ?_
 refine Wp.sa ?_
 refine Wp.sr ?_
 refine Runs.ln 2 140 Put.enc p0 ?_
 refine Runs.alln ?_
 refine Wp.seq ?_
 refine Wp.sa ?_
 refine Wp.c2 h (fun h=>?_) (fun h=>?_)
 ·refine Wp.sa ?_
  obtain rfl:=oi h
  exact Wp.ret RetB
 refine Wp.sk ?_
 refine Wp.j1 (fun x9=>laws_szPutS_j1 u x9=some r) (fun x9=>⟨[(1,.i x9),(4,.i 0)],[],[]⟩) (fun x9 h=>?_) ?_
 ·refine Wp.sa ?_
  obtain rfl:=oi h
  exact Wp.ret RetB
 refine Wp.sa ?_
 refine Wp.block ?_
 refine Wp.l3 (fun k_laws_szPutS_l2 p0 x3 x4=>laws_szPutS_l2 u k_laws_szPutS_l2 p0 x3 x4=some r) (fun p0 x3 x4=>⟨[(0,.t (.sl 6 (p0.map Put.enc))),(1,.i x3),(4,.i 0),(5,.i x4)],[],[]⟩) (fun k_laws_szPutS_l2 p0 x3 x4 h=>?_) h (lo []) (fun _ _ _  h=>nomatch h)
 rw [laws_szPutS_l2] at h
 refine Wp.seq ?_
 refine Wp.sr ?_
 refine Runs.ln 2 140 Put.enc p0 ?_
 refine Runs.alln ?_
 refine Wp.c2 h (fun h=>?_) (fun h=>?_)
 ·refine Wp.sk ?_
  refine Wp.seq ?_
  refine Wp.block ?_
  refine Wp.sr ?_
  refine Runs.ix 2 140 6 Put.enc h (fun y7 h _=>?_)
  refine Runs.cl false 2 23 [.agg ((Put.enc y7).map .t),.i x3] h (fun _=>laws_szPut_ok) (fun r8 h=>?_)
  refine Runs.alln ?_
  refine Wp.sa ?_
  refine Wp.c2 h (fun h=>?_) (fun h=>?_)
  ·refine Wp.sa ?_
   obtain rfl:=oi h
   exact Wp.ret RetB
  refine Wp.skip ?_
  refine blkN ?_
  refine thenN ?_
  refine Wp.rg [] [] ?_
  refine Runs.alln ?_
  exact ⟨_,_,_,h,lo []⟩
 refine Wp.exit ?_
 refine thenE ?_
 refine thenE ?_
 refine blkE ?_
 refine thenN ?_
 exact ⟨_,h,lo []⟩
theorem laws_szDisk_ok {u p0 p1 r} (h:laws_szDisk u p0 p1=some r):CallOK Try.prog 35 [V.g (Disk.enc p0),V.i p1] (V.i r) []:=by
 unfold laws_szDisk at h
 refine ofb Try.f35 false ?_
 refine Wp.sa ?_
 refine Wp.cl false 3 8 [.s p0.fA,.i p1] h (fun _=>laws_szByteS_ok) (fun r1 h=>?_)
 refine Wp.seq ?_
 refine Wp.sa ?_
 refine Wp.c2 h (fun h=>?_) (fun h=>?_)
 ·refine Wp.sa ?_
  obtain rfl:=oi h
  exact Wp.ret RetB
 refine Wp.sk ?_
 refine Wp.cl false 3 14 [.s p0.fB,.i r1] h (fun _=>laws_szByteS_ok) (fun r2 h=>?_)
 refine Wp.seq ?_
 refine Wp.sa ?_
 refine Wp.c2 h (fun h=>?_) (fun h=>?_)
 ·refine Wp.sa ?_
  obtain rfl:=oi h
  exact Wp.ret RetB
 refine Wp.sk ?_
 refine Wp.cl false 3 20 [.t (.sl 6 (p0.fP.map Put.enc)),.i r2] h (fun _=>laws_szPutS_ok) (fun r3 h=>?_)
 refine Wp.seq ?_
 refine Wp.sa ?_
 refine Wp.c2 h (fun h=>?_) (fun h=>?_)
 ·refine Wp.sa ?_
  obtain rfl:=oi h
  exact Wp.ret RetB
 refine Wp.sk ?_
 refine Wp.sa ?_
 obtain rfl:=oi h
 exact Wp.ret RetB
theorem laws_szDiskS_ok {u p0 p1 r} (h:laws_szDiskS u p0 p1=some r):CallOK Try.prog 13 [.one (.t (.sl 6 (p0.map Disk.enc))),V.i p1] (V.i r) []:=by
 unfold laws_szDiskS at h
 refine ofb Try.f13 false ?_
 refine Wp.sa ?_
 refine Wp.sr ?_
 refine Runs.ln 2 93 Disk.enc p0 ?_
 refine Runs.alln ?_
 refine Wp.seq ?_
 refine Wp.sa ?_
 refine Wp.c2 h (fun h=>?_) (fun h=>?_)
 ·refine Wp.sa ?_
  obtain rfl:=oi h
  exact Wp.ret RetB
 refine Wp.sk ?_
 refine Wp.j1 (fun x9=>laws_szDiskS_j1 u x9=some r) (fun x9=>⟨[(1,.i x9),(4,.i 0)],[],[]⟩) (fun x9 h=>?_) ?_
 ·refine Wp.sa ?_
  obtain rfl:=oi h
  exact Wp.ret RetB
 refine Wp.sa ?_
 refine Wp.block ?_
 refine Wp.l3 (fun k_laws_szDiskS_l2 p0 x3 x4=>laws_szDiskS_l2 u k_laws_szDiskS_l2 p0 x3 x4=some r) (fun p0 x3 x4=>⟨[(0,.t (.sl 6 (p0.map Disk.enc))),(1,.i x3),(4,.i 0),(5,.i x4)],[],[]⟩) (fun k_laws_szDiskS_l2 p0 x3 x4 h=>?_) h (lo []) (fun _ _ _  h=>nomatch h)
 rw [laws_szDiskS_l2] at h
 refine Wp.seq ?_
 refine Wp.sr ?_
 refine Runs.ln 2 93 Disk.enc p0 ?_
 refine Runs.alln ?_
 refine Wp.c2 h (fun h=>?_) (fun h=>?_)
 ·refine Wp.sk ?_
  refine Wp.seq ?_
  refine Wp.block ?_
  refine Wp.sr ?_
  refine Runs.ix 2 93 6 Disk.enc h (fun y7 h _=>?_)
  refine Runs.cl false 2 23 [.agg ((Disk.enc y7).map .t),.i x3] h (fun _=>laws_szDisk_ok) (fun r8 h=>?_)
  refine Runs.alln ?_
  refine Wp.sa ?_
  refine Wp.c2 h (fun h=>?_) (fun h=>?_)
  ·refine Wp.sa ?_
   obtain rfl:=oi h
   exact Wp.ret RetB
  refine Wp.skip ?_
  refine blkN ?_
  refine thenN ?_
  refine Wp.rg [] [] ?_
  refine Runs.alln ?_
  exact ⟨_,_,_,h,lo []⟩
 refine Wp.exit ?_
 refine thenE ?_
 refine thenE ?_
 refine blkE ?_
 refine thenN ?_
 exact ⟨_,h,lo []⟩
theorem laws_szPacket_ok {u p0 p1 r} (h:laws_szPacket u p0 p1=some r):CallOK Try.prog 36 [V.g (Packet.enc p0),V.i p1] (V.i r) []:=by
 unfold laws_szPacket at h
 refine ofb Try.f36 false ?_
 refine Wp.sa ?_
 refine Wp.cl false 3 8 [.s p0.fB,.i p1] h (fun _=>laws_szByteS_ok) (fun r1 h=>?_)
 refine Wp.seq ?_
 refine Wp.sa ?_
 refine Wp.c2 h (fun h=>?_) (fun h=>?_)
 ·refine Wp.sa ?_
  obtain rfl:=oi h
  exact Wp.ret RetB
 refine Wp.sk ?_
 refine Wp.sa ?_
 obtain rfl:=oi h
 exact Wp.ret RetB
theorem laws_szPacketS_ok {u p0 p1 r} (h:laws_szPacketS u p0 p1=some r):CallOK Try.prog 14 [.one (.t (.sl 3 (p0.map Packet.enc))),V.i p1] (V.i r) []:=by
 unfold laws_szPacketS at h
 refine ofb Try.f14 false ?_
 refine Wp.sa ?_
 refine Wp.sr ?_
 refine Runs.ln 2 96 Packet.enc p0 ?_
 refine Runs.alln ?_
 refine Wp.seq ?_
 refine Wp.sa ?_
 refine Wp.c2 h (fun h=>?_) (fun h=>?_)
 ·refine Wp.sa ?_
  obtain rfl:=oi h
  exact Wp.ret RetB
 refine Wp.sk ?_
 refine Wp.j1 (fun x9=>laws_szPacketS_j1 u x9=some r) (fun x9=>⟨[(1,.i x9),(4,.i 0)],[],[]⟩) (fun x9 h=>?_) ?_
 ·refine Wp.sa ?_
  obtain rfl:=oi h
  exact Wp.ret RetB
 refine Wp.sa ?_
 refine Wp.block ?_
 refine Wp.l3 (fun k_laws_szPacketS_l2 p0 x3 x4=>laws_szPacketS_l2 u k_laws_szPacketS_l2 p0 x3 x4=some r) (fun p0 x3 x4=>⟨[(0,.t (.sl 3 (p0.map Packet.enc))),(1,.i x3),(4,.i 0),(5,.i x4)],[],[]⟩) (fun k_laws_szPacketS_l2 p0 x3 x4 h=>?_) h (lo []) (fun _ _ _  h=>nomatch h)
 rw [laws_szPacketS_l2] at h
 refine Wp.seq ?_
 refine Wp.sr ?_
 refine Runs.ln 2 96 Packet.enc p0 ?_
 refine Runs.alln ?_
 refine Wp.c2 h (fun h=>?_) (fun h=>?_)
 ·refine Wp.sk ?_
  refine Wp.seq ?_
  refine Wp.block ?_
  refine Wp.sr ?_
  refine Runs.ix 2 96 3 Packet.enc h (fun y7 h _=>?_)
  refine Runs.cl false 2 23 [.agg ((Packet.enc y7).map .t),.i x3] h (fun _=>laws_szPacket_ok) (fun r8 h=>?_)
  refine Runs.alln ?_
  refine Wp.sa ?_
  refine Wp.c2 h (fun h=>?_) (fun h=>?_)
  ·refine Wp.sa ?_
   obtain rfl:=oi h
   exact Wp.ret RetB
  refine Wp.skip ?_
  refine blkN ?_
  refine thenN ?_
  refine Wp.rg [] [] ?_
  refine Runs.alln ?_
  exact ⟨_,_,_,h,lo []⟩
 refine Wp.exit ?_
 refine thenE ?_
 refine thenE ?_
 refine blkE ?_
 refine thenN ?_
 exact ⟨_,h,lo []⟩
theorem laws_szSentS_ok {u p0 p1 r} (h:laws_szSentS u p0 p1=some r):CallOK Try.prog 15 [.one (.t (.sl 3 (p0.map Sent.enc))),V.i p1] (V.i r) []:=by
 unfold laws_szSentS at h
 refine ofb Try.f15 false ?_
 refine Wp.sa ?_
 refine Wp.sr ?_
 refine Runs.ln 2 116 Sent.enc p0 ?_
 refine Runs.alln ?_
 refine Wp.seq ?_
 refine Wp.sa ?_
 refine Wp.c2 h (fun h=>?_) (fun h=>?_)
 ·refine Wp.sa ?_
  obtain rfl:=oi h
  exact Wp.ret RetB
 refine Wp.sk ?_
 refine Wp.sa ?_
 obtain rfl:=oi h
 exact Wp.ret RetB
theorem laws_szWorld_ok {u p0 p1 r} (h:laws_szWorld u p0 p1=some r):CallOK Try.prog 4 [V.g (World.enc p0),V.i p1] (V.i r) []:=by
 unfold laws_szWorld at h
 refine ofb Try.f4 false ?_
 refine Wp.sa ?_
 refine Wp.cl false 3 8 [.agg [.t (.sl 1 (p0.fT.fUp.map (eInt .i64)))],.i p1] h (fun _=>laws_szTree_ok) (fun r1 h=>?_)
 refine Wp.seq ?_
 refine Wp.sa ?_
 refine Wp.c2 h (fun h=>?_) (fun h=>?_)
 ·refine Wp.sa ?_
  obtain rfl:=oi h
  exact Wp.ret RetB
 refine Wp.sk ?_
 refine Wp.cl false 3 14 [.s p0.fNew,.i r1] h (fun _=>laws_szByteS_ok) (fun r2 h=>?_)
 refine Wp.seq ?_
 refine Wp.sa ?_
 refine Wp.c2 h (fun h=>?_) (fun h=>?_)
 ·refine Wp.sa ?_
  obtain rfl:=oi h
  exact Wp.ret RetB
 refine Wp.sk ?_
 refine Wp.cl false 3 20 [.t (.sl 1 (p0.fOld.map Image.enc)),.i r2] h (fun _=>laws_szImageS_ok) (fun r3 h=>?_)
 refine Wp.seq ?_
 refine Wp.sa ?_
 refine Wp.c2 h (fun h=>?_) (fun h=>?_)
 ·refine Wp.sa ?_
  obtain rfl:=oi h
  exact Wp.ret RetB
 refine Wp.sk ?_
 refine Wp.cl false 3 26 [.t (.sl 12 (p0.fN.map Node.enc)),.i r3] h (fun _=>laws_szNodeS_ok) (fun r4 h=>?_)
 refine Wp.seq ?_
 refine Wp.sa ?_
 refine Wp.c2 h (fun h=>?_) (fun h=>?_)
 ·refine Wp.sa ?_
  obtain rfl:=oi h
  exact Wp.ret RetB
 refine Wp.sk ?_
 refine Wp.cl false 3 32 [.t (.sl 6 (p0.fD.map Disk.enc)),.i r4] h (fun _=>laws_szDiskS_ok) (fun r5 h=>?_)
 refine Wp.seq ?_
 refine Wp.sa ?_
 refine Wp.c2 h (fun h=>?_) (fun h=>?_)
 ·refine Wp.sa ?_
  obtain rfl:=oi h
  exact Wp.ret RetB
 refine Wp.sk ?_
 refine Wp.cl false 3 38 [.t (.sl 3 (p0.fNet.map Packet.enc)),.i r5] h (fun _=>laws_szPacketS_ok) (fun r6 h=>?_)
 refine Wp.seq ?_
 refine Wp.sa ?_
 refine Wp.c2 h (fun h=>?_) (fun h=>?_)
 ·refine Wp.sa ?_
  obtain rfl:=oi h
  exact Wp.ret RetB
 refine Wp.sk ?_
 refine Wp.cl false 3 44 [.t (.sl 3 (p0.fLog.map Sent.enc)),.i r6] h (fun _=>laws_szSentS_ok) (fun r7 h=>?_)
 refine Wp.seq ?_
 refine Wp.sa ?_
 refine Wp.c2 h (fun h=>?_) (fun h=>?_)
 ·refine Wp.sa ?_
  obtain rfl:=oi h
  exact Wp.ret RetB
 refine Wp.sk ?_
 refine Wp.sa ?_
 obtain rfl:=oi h
 exact Wp.ret RetB
theorem laws_toConf_ok {u p0 r} (h:laws_toConf u p0=some r):CallOK Try.prog 16 [V.g (Conf.enc p0)] (V.g (Conf.enc r)) []:=by
 unfold laws_toConf at h
 refine ofb Try.f16 false ?_
 refine Wp.sa ?_
 refine Wp.sa ?_
 refine Wp.sa ?_
 refine Wp.sa ?_
 refine Wp.sa ?_
 refine Wp.sa ?_
 refine Wp.sa ?_
 obtain rfl:=oi h
 exact Wp.ret RetB
theorem laws_toIntS_ok {u p0 r} (h:laws_toIntS u p0=some r):CallOK Try.prog 37 [.one (.t (.sl 1 (p0.map (eInt .i64))))] (.one (.ow 3 1 (r.map (eInt .i64)))) []:=by
 unfold laws_toIntS at h
 refine ofb Try.f37 true ?_
 refine Wp.sa ?_
 refine Wp.sr ?_
 refine Runs.ln 1 3 (eInt .i64) p0 ?_
 obtain ⟨_,e_1,h⟩:=bind_some h
 obtain ⟨_,e_2,h⟩:=bind_some h
 refine Runs.mkS (eInt .i64) (0:Int) 7 3 1 8 ((p0.length:Int)) ((p0.length:Int)) rfl rfl kr kr kr kr kr kr (chk_some e_1) (of_decide_eq_true (chk_some e_2)) kr ?_
 refine Runs.alln ?_
 refine Wp.j1 (fun x11=>laws_toIntS_j1 u x11=some r) (fun x11=>⟨[(2,.nil),(3,.own 196609)],[],[(196609,.live 3 1 (x11.map (eInt .i64)))]⟩) (fun x11 h=>?_) ?_
 ·refine Wp.sa ?_
  obtain rfl:=oi h
  exact Wp.ret RetB
 refine Wp.sa ?_
 refine Wp.block ?_
 refine Wp.l3 (fun k_laws_toIntS_l2 p0 x5 x6=>laws_toIntS_l2 u k_laws_toIntS_l2 p0 x5 x6=some r) (fun p0 x5 x6=>⟨[(0,.t (.sl 1 (p0.map (eInt .i64)))),(2,.nil),(3,.own 196609),(4,.i x6)],[],[(196609,.live 3 1 (x5.map (eInt .i64)))]⟩) (fun k_laws_toIntS_l2 p0 x5 x6 h=>?_) h (lo [(196609,458752)]) (fun _ _ _  h=>nomatch h)
 rw [laws_toIntS_l2] at h
 refine Wp.seq ?_
 refine Wp.sr ?_
 refine Runs.ln 2 3 (eInt .i64) p0 ?_
 refine Runs.alln ?_
 refine Wp.c2 h (fun h=>?_) (fun h=>?_)
 ·refine Wp.sk ?_
  refine Wp.seq ?_
  refine Wp.block ?_
  refine Wp.rg [] [] ?_
  refine Runs.ix 4 3 1 (eInt .i64) h (fun y9 h _=>?_)
  refine Runs.ixo 1 3 1 196609 3 (eInt .i64) h (fun y10 h e_y10=>?_)
  refine Runs.storeT (e:=3) (sz:=1) (m:=1) (eInt .i64) x5 196609 (Int.toNat x6) 0 y9 (.i y9) [.int .i64 y9] rfl kr kr kr kr kr kr kr kr ((idx_some e_y10).2) kr kr ?_
  refine Runs.all kr ?_
  refine blkN ?_
  refine thenN ?_
  refine Wp.rg [] [] ?_
  refine Runs.alln ?_
  exact ⟨_,_,_,h,lo []⟩
 refine Wp.exit ?_
 refine thenE ?_
 refine thenE ?_
 refine blkE ?_
 refine thenN ?_
 exact ⟨_,h,lo []⟩
theorem laws_toTree_ok {u p0 r} (h:laws_toTree u p0=some r):CallOK Try.prog 17 [V.g (Tree.enc p0)] (V.w [3] (Tree.enc r)) []:=by
 unfold laws_toTree at h
 refine ofb Try.f17 true ?_
 refine Wp.sa ?_
 refine Wp.sa ?_
 refine Wp.cl false 2 6 [.t (.sl 1 (p0.fUp.map (eInt .i64)))] h (fun _=>laws_toIntS_ok) (fun r1 h=>?_)
 refine Wp.sa ?_
 obtain rfl:=oi h
 exact Wp.ret RetB
theorem laws_toByteS_ok {u p0 r} (h:laws_toByteS u p0=some r):CallOK Try.prog 18 [.one (.s p0)] (.one (.ow 5 1 (r.map (eInt .u8)))) []:=by
 unfold laws_toByteS at h
 refine ofb Try.f18 true ?_
 refine Wp.sa ?_
 refine Wp.sr ?_
 refine Runs.ln 1 5 (eInt .u8) p0 ?_
 obtain ⟨_,e_1,h⟩:=bind_some h
 obtain ⟨_,e_2,h⟩:=bind_some h
 refine Runs.mkS (eInt .u8) (0:Int) 7 5 1 1 ((p0.length:Int)) ((p0.length:Int)) rfl rfl kr kr kr kr kr kr (chk_some e_1) (of_decide_eq_true (chk_some e_2)) kr ?_
 refine Runs.alln ?_
 refine Wp.j1 (fun x11=>laws_toByteS_j1 u x11=some r) (fun x11=>⟨[(2,.nil),(3,.own 196609)],[],[(196609,.live 5 1 (x11.map (eInt .u8)))]⟩) (fun x11 h=>?_) ?_
 ·refine Wp.sa ?_
  obtain rfl:=oi h
  exact Wp.ret RetB
 refine Wp.sa ?_
 refine Wp.block ?_
 refine Wp.l3 (fun k_laws_toByteS_l2 p0 x5 x6=>laws_toByteS_l2 u k_laws_toByteS_l2 p0 x5 x6=some r) (fun p0 x5 x6=>⟨[(0,.s p0),(2,.nil),(3,.own 196609),(4,.i x6)],[],[(196609,.live 5 1 (x5.map (eInt .u8)))]⟩) (fun k_laws_toByteS_l2 p0 x5 x6 h=>?_) h (lo [(196609,458752)]) (fun _ _ _  h=>nomatch h)
 rw [laws_toByteS_l2] at h
 refine Wp.seq ?_
 refine Wp.sr ?_
 refine Runs.ln 2 5 (eInt .u8) p0 ?_
 refine Runs.alln ?_
 refine Wp.c2 h (fun h=>?_) (fun h=>?_)
 ·refine Wp.sk ?_
  refine Wp.seq ?_
  refine Wp.block ?_
  refine Wp.rg [] [] ?_
  refine Runs.ix 4 5 1 (eInt .u8) h (fun y9 h _=>?_)
  refine Runs.ixo 1 5 1 196609 5 (eInt .u8) h (fun y10 h e_y10=>?_)
  refine Runs.storeT (e:=5) (sz:=1) (m:=1) (eInt .u8) x5 196609 (Int.toNat x6) 0 y9 (.t (.int .u8 y9)) [.int .u8 y9] rfl kr kr kr kr kr kr kr kr ((idx_some e_y10).2) kr kr ?_
  refine Runs.all kr ?_
  refine blkN ?_
  refine thenN ?_
  refine Wp.rg [] [] ?_
  refine Runs.alln ?_
  exact ⟨_,_,_,h,lo []⟩
 refine Wp.exit ?_
 refine thenE ?_
 refine thenE ?_
 refine blkE ?_
 refine thenN ?_
 exact ⟨_,h,lo []⟩
theorem laws_toImage_ok {u p0 r} (h:laws_toImage u p0=some r):CallOK Try.prog 38 [V.g (Image.enc p0)] (V.w [5] (Image.enc r)) []:=by
 unfold laws_toImage at h
 refine ofb Try.f38 true ?_
 refine Wp.sa ?_
 refine Wp.sa ?_
 refine Wp.cl false 2 6 [.s p0.fB] h (fun _=>laws_toByteS_ok) (fun r1 h=>?_)
 refine Wp.sa ?_
 obtain rfl:=oi h
 exact Wp.ret RetB
theorem laws_toImageS_ok {u p0 r} (h:laws_toImageS u p0=some r):CallOK Try.prog 19 [.one (.t (.sl 1 (p0.map Image.enc)))] (.one (.ow 98 1 (r.map Image.enc))) []:=by
 unfold laws_toImageS at h
 refine ofb Try.f19 true ?_
 refine Wp.sa ?_
 refine Wp.sr ?_
 refine Runs.ln 1 78 Image.enc p0 ?_
 obtain ⟨_,e_1,h⟩:=bind_some h
 obtain ⟨_,e_2,h⟩:=bind_some h
 refine Runs.mkS Image.enc ((Image.mk ([])):Image) 7 98 1 24 ((p0.length:Int)) ((p0.length:Int)) rfl rfl kr kr kr kr kr kr (chk_some e_1) (of_decide_eq_true (chk_some e_2)) kr ?_
 refine Runs.alln ?_
 refine Wp.j1 (fun x12=>laws_toImageS_j1 u x12=some r) (fun x12=>⟨[(2,.nil),(3,.own 196609)],[],[(196609,.live 98 1 (x12.map Image.enc))]⟩) (fun x12 h=>?_) ?_
 ·refine Wp.sa ?_
  obtain rfl:=oi h
  exact Wp.ret RetB
 refine Wp.sa ?_
 refine Wp.block ?_
 refine Wp.l3 (fun k_laws_toImageS_l2 p0 x5 x6=>laws_toImageS_l2 u k_laws_toImageS_l2 p0 x5 x6=some r) (fun p0 x5 x6=>⟨[(0,.t (.sl 1 (p0.map Image.enc))),(2,.nil),(3,.own 196609),(4,.i x6)],[],[(196609,.live 98 1 (x5.map Image.enc))]⟩) (fun k_laws_toImageS_l2 p0 x5 x6 h=>?_) h (lo [(196609,458752)]) (fun _ _ _  h=>nomatch h)
 rw [laws_toImageS_l2] at h
 refine Wp.seq ?_
 refine Wp.sr ?_
 refine Runs.ln 2 78 Image.enc p0 ?_
 refine Runs.alln ?_
 refine Wp.c2 h (fun h=>?_) (fun h=>?_)
 ·refine Wp.sk ?_
  refine Wp.seq ?_
  refine Wp.block ?_
  refine Wp.rg [] [] ?_
  refine Runs.ix 4 78 1 Image.enc h (fun y9 h _=>?_)
  refine Runs.cl false 1 20 [.agg [.s y9.fB]] h (fun _=>laws_toImage_ok) (fun r10 h=>?_)
  refine Runs.ixo 0 98 1 196609 98 Image.enc h (fun y11 h e_y11=>?_)
  refine Runs.storeU (e:=98) (sz:=1) (m:=1) Image.enc x5 196609 (Int.toNat x6) 0 r10 (.agg [.own 1310720]) [.sl 1 (r10.fB.map (eInt .u8))] rfl kr kr kr kr kr kr kr kr ((idx_some e_y11).2) kr kr ?_
  refine Runs.all kr ?_
  refine blkN ?_
  refine thenN ?_
  refine Wp.rg [] [] ?_
  refine Runs.alln ?_
  exact ⟨_,_,_,h,lo []⟩
 refine Wp.exit ?_
 refine thenE ?_
 refine thenE ?_
 refine blkE ?_
 refine thenN ?_
 exact ⟨_,h,lo []⟩
theorem laws_toSum_ok {u p0 r} (h:laws_toSum u p0=some r):CallOK Try.prog 71 [V.g (Sum.enc p0)] (V.g (Sum.enc r)) []:=by
 unfold laws_toSum at h
 refine ofb Try.f71 false ?_
 refine Wp.sa ?_
 refine Wp.sa ?_
 refine Wp.sa ?_
 refine Wp.sa ?_
 refine Wp.sa ?_
 obtain rfl:=oi h
 exact Wp.ret RetB
theorem laws_toSumS_ok {u p0 r} (h:laws_toSumS u p0=some r):CallOK Try.prog 65 [.one (.t (.sl 2 (p0.map Sum.enc)))] (.one (.ow 153 2 (r.map Sum.enc))) []:=by
 unfold laws_toSumS at h
 refine ofb Try.f65 true ?_
 refine Wp.sa ?_
 refine Wp.sr ?_
 refine Runs.ln 1 155 Sum.enc p0 ?_
 obtain ⟨_,e_1,h⟩:=bind_some h
 obtain ⟨_,e_2,h⟩:=bind_some h
 refine Runs.mkS Sum.enc ((Sum.mk 0 0):Sum) 7 153 2 16 ((p0.length:Int)) ((p0.length:Int)) rfl rfl kr kr kr kr kr kr (chk_some e_1) (of_decide_eq_true (chk_some e_2)) kr ?_
 refine Runs.alln ?_
 refine Wp.j1 (fun x12=>laws_toSumS_j1 u x12=some r) (fun x12=>⟨[(2,.nil),(3,.own 196609)],[],[(196609,.live 153 2 (x12.map Sum.enc))]⟩) (fun x12 h=>?_) ?_
 ·refine Wp.sa ?_
  obtain rfl:=oi h
  exact Wp.ret RetB
 refine Wp.sa ?_
 refine Wp.block ?_
 refine Wp.l3 (fun k_laws_toSumS_l2 p0 x5 x6=>laws_toSumS_l2 u k_laws_toSumS_l2 p0 x5 x6=some r) (fun p0 x5 x6=>⟨[(0,.t (.sl 2 (p0.map Sum.enc))),(2,.nil),(3,.own 196609),(4,.i x6)],[],[(196609,.live 153 2 (x5.map Sum.enc))]⟩) (fun k_laws_toSumS_l2 p0 x5 x6 h=>?_) h (lo [(196609,458752)]) (fun _ _ _  h=>nomatch h)
 rw [laws_toSumS_l2] at h
 refine Wp.seq ?_
 refine Wp.sr ?_
 refine Runs.ln 2 155 Sum.enc p0 ?_
 refine Runs.alln ?_
 refine Wp.c2 h (fun h=>?_) (fun h=>?_)
 ·refine Wp.sk ?_
  refine Wp.seq ?_
  refine Wp.block ?_
  refine Wp.rg [] [] ?_
  refine Runs.ix 4 155 2 Sum.enc h (fun y9 h _=>?_)
  refine Runs.cl false 1 20 [.agg [.i y9.fW,.i y9.fS]] h (fun _=>laws_toSum_ok) (fun r10 h=>?_)
  refine Runs.ixo 0 153 2 196609 153 Sum.enc h (fun y11 h e_y11=>?_)
  refine Runs.storeT (e:=153) (sz:=2) (m:=2) Sum.enc x5 196609 (Int.toNat x6) 0 r10 (.agg [.i r10.fW,.i r10.fS]) [.int .i64 r10.fW,.int .i64 r10.fS] rfl kr kr kr kr kr kr kr kr ((idx_some e_y11).2) kr kr ?_
  refine Runs.all kr ?_
  refine blkN ?_
  refine thenN ?_
  refine Wp.rg [] [] ?_
  refine Runs.alln ?_
  exact ⟨_,_,_,h,lo []⟩
 refine Wp.exit ?_
 refine thenE ?_
 refine thenE ?_
 refine blkE ?_
 refine thenN ?_
 exact ⟨_,h,lo []⟩
theorem laws_toManifest_ok {u p0 r} (h:laws_toManifest u p0=some r):CallOK Try.prog 53 [V.g (Manifest.enc p0)] (V.w [0,0,0,153] (Manifest.enc r)) []:=by
 unfold laws_toManifest at h
 refine ofb Try.f53 true ?_
 refine Wp.sa ?_
 refine Wp.sa ?_
 refine Wp.sa ?_
 refine Wp.sa ?_
 refine Wp.sa ?_
 refine Wp.cl false 2 15 [.t (.sl 2 (p0.fSums.map Sum.enc))] h (fun _=>laws_toSumS_ok) (fun r1 h=>?_)
 refine Wp.sa ?_
 obtain rfl:=oi h
 exact Wp.ret RetB
theorem laws_toBuild_ok {u p0 r} (h:laws_toBuild u p0=some r):CallOK Try.prog 54 [V.g (Build.enc p0)] (V.w [0,5] (Build.enc r)) []:=by
 unfold laws_toBuild at h
 refine ofb Try.f54 true ?_
 refine Wp.sa ?_
 refine Wp.sa ?_
 refine Wp.sa ?_
 refine Wp.cl false 2 9 [.s p0.fBuf] h (fun _=>laws_toByteS_ok) (fun r1 h=>?_)
 refine Wp.sa ?_
 obtain rfl:=oi h
 exact Wp.ret RetB
theorem laws_toKid_ok {u p0 r} (h:laws_toKid u p0=some r):CallOK Try.prog 66 [V.g (Kid.enc p0)] (V.g (Kid.enc r)) []:=by
 unfold laws_toKid at h
 refine ofb Try.f66 false ?_
 refine Wp.sa ?_
 refine Wp.sa ?_
 refine Wp.sa ?_
 refine Wp.sa ?_
 refine Wp.sa ?_
 refine Wp.sa ?_
 refine Wp.sa ?_
 refine Wp.sa ?_
 obtain rfl:=oi h
 exact Wp.ret RetB
theorem laws_toKidS_ok {u p0 r} (h:laws_toKidS u p0=some r):CallOK Try.prog 55 [.one (.t (.sl 5 (p0.map Kid.enc)))] (.one (.ow 143 5 (r.map Kid.enc))) []:=by
 unfold laws_toKidS at h
 refine ofb Try.f55 true ?_
 refine Wp.sa ?_
 refine Wp.sr ?_
 refine Runs.ln 1 145 Kid.enc p0 ?_
 obtain ⟨_,e_1,h⟩:=bind_some h
 obtain ⟨_,e_2,h⟩:=bind_some h
 refine Runs.mkS Kid.enc ((Kid.mk 0 0 0 0 0):Kid) 7 143 5 40 ((p0.length:Int)) ((p0.length:Int)) rfl rfl kr kr kr kr kr kr (chk_some e_1) (of_decide_eq_true (chk_some e_2)) kr ?_
 refine Runs.alln ?_
 refine Wp.j1 (fun x12=>laws_toKidS_j1 u x12=some r) (fun x12=>⟨[(2,.nil),(3,.own 196609)],[],[(196609,.live 143 5 (x12.map Kid.enc))]⟩) (fun x12 h=>?_) ?_
 ·refine Wp.sa ?_
  obtain rfl:=oi h
  exact Wp.ret RetB
 refine Wp.sa ?_
 refine Wp.block ?_
 refine Wp.l3 (fun k_laws_toKidS_l2 p0 x5 x6=>laws_toKidS_l2 u k_laws_toKidS_l2 p0 x5 x6=some r) (fun p0 x5 x6=>⟨[(0,.t (.sl 5 (p0.map Kid.enc))),(2,.nil),(3,.own 196609),(4,.i x6)],[],[(196609,.live 143 5 (x5.map Kid.enc))]⟩) (fun k_laws_toKidS_l2 p0 x5 x6 h=>?_) h (lo [(196609,458752)]) (fun _ _ _  h=>nomatch h)
 rw [laws_toKidS_l2] at h
 refine Wp.seq ?_
 refine Wp.sr ?_
 refine Runs.ln 2 145 Kid.enc p0 ?_
 refine Runs.alln ?_
 refine Wp.c2 h (fun h=>?_) (fun h=>?_)
 ·refine Wp.sk ?_
  refine Wp.seq ?_
  refine Wp.block ?_
  refine Wp.rg [] [] ?_
  refine Runs.ix 4 145 5 Kid.enc h (fun y9 h _=>?_)
  refine Runs.cl false 1 20 [.agg ((Kid.enc y9).map .t)] h (fun _=>laws_toKid_ok) (fun r10 h=>?_)
  refine Runs.ixo 0 143 5 196609 143 Kid.enc h (fun y11 h e_y11=>?_)
  refine Runs.storeT (e:=143) (sz:=5) (m:=5) Kid.enc x5 196609 (Int.toNat x6) 0 r10 (.agg ((Kid.enc r10).map .t)) (Kid.enc r10) rfl kr kr kr kr kr kr kr kr ((idx_some e_y11).2) kr kr ?_
  refine Runs.all kr ?_
  refine blkN ?_
  refine thenN ?_
  refine Wp.rg [] [] ?_
  refine Runs.alln ?_
  exact ⟨_,_,_,h,lo []⟩
 refine Wp.exit ?_
 refine thenE ?_
 refine thenE ?_
 refine blkE ?_
 refine thenN ?_
 exact ⟨_,h,lo []⟩
theorem laws_toNode_ok {u p0 r} (h:laws_toNode u p0=some r):CallOK Try.prog 39 [V.g (Node.enc p0)] (V.w [0,0,0,0,0,0,153,0,5,0,143,0] (Node.enc r)) []:=by
 unfold laws_toNode at h
 refine ofb Try.f39 true ?_
 refine Wp.sa ?_
 refine Wp.sa ?_
 refine Wp.sa ?_
 refine Wp.sa ?_
 refine Wp.sa ?_
 refine Wp.cl false 2 15 [.agg ((Manifest.enc p0.fMan).map .t)] h (fun _=>laws_toManifest_ok) (fun r1 h=>?_)
 refine Wp.cl false 2 19 [.agg [.i p0.fBld.fHave,.s p0.fBld.fBuf]] h (fun _=>laws_toBuild_ok) (fun r2 h=>?_)
 refine Wp.sa ?_
 refine Wp.cl false 2 26 [.t (.sl 5 (p0.fKids.map Kid.enc))] h (fun _=>laws_toKidS_ok) (fun r3 h=>?_)
 refine Wp.sa ?_
 refine Wp.fg ⟨[(2,.obj 2 0),(3,.obj 3 0)],[(2,[.b false,.i 0,.i 0,.i 0,.i 0,.i 0,.nil,.i 0,.nil,.i 0,.nil,.i 0]),(3,[.b p0.fOn,.i p0.fBoss,.i p0.fQuiet,.i r1.fGen,.i r1.fSize,.i r1.fLen,.own 983043,.i r2.fHave,.own 1245185,.i p0.fPhase,.own 1703936,.i p0.fDrops])],[(983043,.live 153 2 (r1.fSums.map Sum.enc)),(1245185,.live 5 1 (r2.fBuf.map (eInt .u8))),(1703936,.live 143 5 (r3.map Kid.enc))]⟩ ?_
 refine Wp.sa ?_
 obtain rfl:=oi h
 exact Wp.ret RetB
theorem laws_toNodeS_ok {u p0 r} (h:laws_toNodeS u p0=some r):CallOK Try.prog 20 [.one (.t (.sl 12 (p0.map Node.enc)))] (.one (.ow 106 12 (r.map Node.enc))) []:=by
 unfold laws_toNodeS at h
 refine ofb Try.f20 true ?_
 refine Wp.sa ?_
 refine Wp.sr ?_
 refine Runs.ln 1 87 Node.enc p0 ?_
 obtain ⟨_,e_1,h⟩:=bind_some h
 obtain ⟨_,e_2,h⟩:=bind_some h
 refine Runs.mkS Node.enc ((Node.mk false 0 0 ((Manifest.mk 0 0 0 ([]))) ((Build.mk 0 ([]))) 0 ([]) 0):Node) 7 106 12 144 ((p0.length:Int)) ((p0.length:Int)) rfl rfl kr kr kr kr kr kr (chk_some e_1) (of_decide_eq_true (chk_some e_2)) kr ?_
 refine Runs.alln ?_
 refine Wp.j1 (fun x12=>laws_toNodeS_j1 u x12=some r) (fun x12=>⟨[(2,.nil),(3,.own 196609)],[],[(196609,.live 106 12 (x12.map Node.enc))]⟩) (fun x12 h=>?_) ?_
 ·refine Wp.sa ?_
  obtain rfl:=oi h
  exact Wp.ret RetB
 refine Wp.sa ?_
 refine Wp.block ?_
 refine Wp.l3 (fun k_laws_toNodeS_l2 p0 x5 x6=>laws_toNodeS_l2 u k_laws_toNodeS_l2 p0 x5 x6=some r) (fun p0 x5 x6=>⟨[(0,.t (.sl 12 (p0.map Node.enc))),(2,.nil),(3,.own 196609),(4,.i x6)],[],[(196609,.live 106 12 (x5.map Node.enc))]⟩) (fun k_laws_toNodeS_l2 p0 x5 x6 h=>?_) h (lo [(196609,458752)]) (fun _ _ _  h=>nomatch h)
 rw [laws_toNodeS_l2] at h
 refine Wp.seq ?_
 refine Wp.sr ?_
 refine Runs.ln 2 87 Node.enc p0 ?_
 refine Runs.alln ?_
 refine Wp.c2 h (fun h=>?_) (fun h=>?_)
 ·refine Wp.sk ?_
  refine Wp.seq ?_
  refine Wp.block ?_
  refine Wp.rg [] [] ?_
  refine Runs.ix 4 87 12 Node.enc h (fun y9 h _=>?_)
  refine Runs.cl false 1 20 [.agg ((Node.enc y9).map .t)] h (fun _=>laws_toNode_ok) (fun r10 h=>?_)
  refine Runs.ixo 0 106 12 196609 106 Node.enc h (fun y11 h e_y11=>?_)
  refine Runs.storeU (e:=106) (sz:=12) (m:=12) Node.enc x5 196609 (Int.toNat x6) 0 r10 (.agg [.b r10.fOn,.i r10.fBoss,.i r10.fQuiet,.i r10.fMan.fGen,.i r10.fMan.fSize,.i r10.fMan.fLen,.own 1310726,.i r10.fBld.fHave,.own 1310728,.i r10.fPhase,.own 1310730,.i r10.fDrops]) (Node.enc r10) rfl kr kr kr kr kr kr kr kr ((idx_some e_y11).2) kr kr ?_
  refine Runs.all kr ?_
  refine blkN ?_
  refine thenN ?_
  refine Wp.rg [] [] ?_
  refine Runs.alln ?_
  exact ⟨_,_,_,h,lo []⟩
 refine Wp.exit ?_
 refine thenE ?_
 refine thenE ?_
 refine blkE ?_
 refine thenN ?_
 exact ⟨_,h,lo []⟩
theorem laws_toRecord_ok {u p0 r} (h:laws_toRecord u p0=some r):CallOK Try.prog 56 [V.g (Record.enc p0)] (V.g (Record.enc r)) []:=by
 unfold laws_toRecord at h
 refine ofb Try.f56 false ?_
 refine Wp.sa ?_
 refine Wp.sa ?_
 refine Wp.sa ?_
 refine Wp.sa ?_
 refine Wp.sa ?_
 refine Wp.sa ?_
 obtain rfl:=oi h
 exact Wp.ret RetB
theorem laws_toPut_ok {u p0 r} (h:laws_toPut u p0=some r):CallOK Try.prog 67 [V.g (Put.enc p0)] (V.w [0,0,5,0,0,0] (Put.enc r)) []:=by
 unfold laws_toPut at h
 refine ofb Try.f67 true ?_
 refine Wp.sa ?_
 refine Wp.sa ?_
 refine Wp.sa ?_
 refine Wp.sa ?_
 refine Wp.cl false 2 12 [.s p0.fB] h (fun _=>laws_toByteS_ok) (fun r1 h=>?_)
 refine Wp.cl false 2 16 [.agg ((Record.enc p0.fR).map .t)] h (fun _=>laws_toRecord_ok) (fun r2 h=>?_)
 refine Wp.sa ?_
 obtain rfl:=oi h
 exact Wp.ret RetB
theorem laws_toPutS_ok {u p0 r} (h:laws_toPutS u p0=some r):CallOK Try.prog 57 [.one (.t (.sl 6 (p0.map Put.enc)))] (.one (.ow 147 6 (r.map Put.enc))) []:=by
 unfold laws_toPutS at h
 refine ofb Try.f57 true ?_
 refine Wp.sa ?_
 refine Wp.sr ?_
 refine Runs.ln 1 140 Put.enc p0 ?_
 obtain ⟨_,e_1,h⟩:=bind_some h
 obtain ⟨_,e_2,h⟩:=bind_some h
 refine Runs.mkS Put.enc ((Put.mk 0 0 ([]) ((Record.mk 0 0 0))):Put) 7 147 6 64 ((p0.length:Int)) ((p0.length:Int)) rfl rfl kr kr kr kr kr kr (chk_some e_1) (of_decide_eq_true (chk_some e_2)) kr ?_
 refine Runs.alln ?_
 refine Wp.j1 (fun x12=>laws_toPutS_j1 u x12=some r) (fun x12=>⟨[(2,.nil),(3,.own 196609)],[],[(196609,.live 147 6 (x12.map Put.enc))]⟩) (fun x12 h=>?_) ?_
 ·refine Wp.sa ?_
  obtain rfl:=oi h
  exact Wp.ret RetB
 refine Wp.sa ?_
 refine Wp.block ?_
 refine Wp.l3 (fun k_laws_toPutS_l2 p0 x5 x6=>laws_toPutS_l2 u k_laws_toPutS_l2 p0 x5 x6=some r) (fun p0 x5 x6=>⟨[(0,.t (.sl 6 (p0.map Put.enc))),(2,.nil),(3,.own 196609),(4,.i x6)],[],[(196609,.live 147 6 (x5.map Put.enc))]⟩) (fun k_laws_toPutS_l2 p0 x5 x6 h=>?_) h (lo [(196609,458752)]) (fun _ _ _  h=>nomatch h)
 rw [laws_toPutS_l2] at h
 refine Wp.seq ?_
 refine Wp.sr ?_
 refine Runs.ln 2 140 Put.enc p0 ?_
 refine Runs.alln ?_
 refine Wp.c2 h (fun h=>?_) (fun h=>?_)
 ·refine Wp.sk ?_
  refine Wp.seq ?_
  refine Wp.block ?_
  refine Wp.rg [] [] ?_
  refine Runs.ix 4 140 6 Put.enc h (fun y9 h _=>?_)
  refine Runs.cl false 1 20 [.agg ((Put.enc y9).map .t)] h (fun _=>laws_toPut_ok) (fun r10 h=>?_)
  refine Runs.ixo 0 147 6 196609 147 Put.enc h (fun y11 h e_y11=>?_)
  refine Runs.storeU (e:=147) (sz:=6) (m:=6) Put.enc x5 196609 (Int.toNat x6) 0 r10 (.agg [.i r10.fWhat,.i r10.fAt,.own 1310722,.i r10.fR.fGen,.i r10.fR.fSlot,.i r10.fR.fLen]) (Put.enc r10) rfl kr kr kr kr kr kr kr kr ((idx_some e_y11).2) kr kr ?_
  refine Runs.all kr ?_
  refine blkN ?_
  refine thenN ?_
  refine Wp.rg [] [] ?_
  refine Runs.alln ?_
  exact ⟨_,_,_,h,lo []⟩
 refine Wp.exit ?_
 refine thenE ?_
 refine thenE ?_
 refine blkE ?_
 refine thenN ?_
 exact ⟨_,h,lo []⟩
theorem laws_toDisk_ok {u p0 r} (h:laws_toDisk u p0=some r):CallOK Try.prog 40 [V.g (Disk.enc p0)] (V.w [5,5,0,0,0,147] (Disk.enc r)) []:=by
 unfold laws_toDisk at h
 refine ofb Try.f40 true ?_
 refine Wp.sa ?_
 refine Wp.sa ?_
 refine Wp.cl false 2 6 [.s p0.fA] h (fun _=>laws_toByteS_ok) (fun r1 h=>?_)
 refine Wp.cl false 2 10 [.s p0.fB] h (fun _=>laws_toByteS_ok) (fun r2 h=>?_)
 refine Wp.cl false 2 14 [.agg ((Record.enc p0.fR).map .t)] h (fun _=>laws_toRecord_ok) (fun r3 h=>?_)
 refine Wp.cl false 2 18 [.t (.sl 6 (p0.fP.map Put.enc))] h (fun _=>laws_toPutS_ok) (fun r4 h=>?_)
 refine Wp.sa ?_
 obtain rfl:=oi h
 exact Wp.ret RetB
theorem laws_toDiskS_ok {u p0 r} (h:laws_toDiskS u p0=some r):CallOK Try.prog 21 [.one (.t (.sl 6 (p0.map Disk.enc)))] (.one (.ow 111 6 (r.map Disk.enc))) []:=by
 unfold laws_toDiskS at h
 refine ofb Try.f21 true ?_
 refine Wp.sa ?_
 refine Wp.sr ?_
 refine Runs.ln 1 93 Disk.enc p0 ?_
 obtain ⟨_,e_1,h⟩:=bind_some h
 obtain ⟨_,e_2,h⟩:=bind_some h
 refine Runs.mkS Disk.enc ((Disk.mk ([]) ([]) ((Record.mk 0 0 0)) ([])):Disk) 7 111 6 96 ((p0.length:Int)) ((p0.length:Int)) rfl rfl kr kr kr kr kr kr (chk_some e_1) (of_decide_eq_true (chk_some e_2)) kr ?_
 refine Runs.alln ?_
 refine Wp.j1 (fun x12=>laws_toDiskS_j1 u x12=some r) (fun x12=>⟨[(2,.nil),(3,.own 196609)],[],[(196609,.live 111 6 (x12.map Disk.enc))]⟩) (fun x12 h=>?_) ?_
 ·refine Wp.sa ?_
  obtain rfl:=oi h
  exact Wp.ret RetB
 refine Wp.sa ?_
 refine Wp.block ?_
 refine Wp.l3 (fun k_laws_toDiskS_l2 p0 x5 x6=>laws_toDiskS_l2 u k_laws_toDiskS_l2 p0 x5 x6=some r) (fun p0 x5 x6=>⟨[(0,.t (.sl 6 (p0.map Disk.enc))),(2,.nil),(3,.own 196609),(4,.i x6)],[],[(196609,.live 111 6 (x5.map Disk.enc))]⟩) (fun k_laws_toDiskS_l2 p0 x5 x6 h=>?_) h (lo [(196609,458752)]) (fun _ _ _  h=>nomatch h)
 rw [laws_toDiskS_l2] at h
 refine Wp.seq ?_
 refine Wp.sr ?_
 refine Runs.ln 2 93 Disk.enc p0 ?_
 refine Runs.alln ?_
 refine Wp.c2 h (fun h=>?_) (fun h=>?_)
 ·refine Wp.sk ?_
  refine Wp.seq ?_
  refine Wp.block ?_
  refine Wp.rg [] [] ?_
  refine Runs.ix 4 93 6 Disk.enc h (fun y9 h _=>?_)
  refine Runs.cl false 1 20 [.agg ((Disk.enc y9).map .t)] h (fun _=>laws_toDisk_ok) (fun r10 h=>?_)
  refine Runs.ixo 0 111 6 196609 111 Disk.enc h (fun y11 h e_y11=>?_)
  refine Runs.storeU (e:=111) (sz:=6) (m:=6) Disk.enc x5 196609 (Int.toNat x6) 0 r10 (.agg [.own 1310720,.own 1310721,.i r10.fR.fGen,.i r10.fR.fSlot,.i r10.fR.fLen,.own 1310725]) (Disk.enc r10) rfl kr kr kr kr kr kr kr kr ((idx_some e_y11).2) kr kr ?_
  refine Runs.all kr ?_
  refine blkN ?_
  refine thenN ?_
  refine Wp.rg [] [] ?_
  refine Runs.alln ?_
  exact ⟨_,_,_,h,lo []⟩
 refine Wp.exit ?_
 refine thenE ?_
 refine thenE ?_
 refine blkE ?_
 refine thenN ?_
 exact ⟨_,h,lo []⟩
theorem laws_toPacket_ok {u p0 r} (h:laws_toPacket u p0=some r):CallOK Try.prog 41 [V.g (Packet.enc p0)] (V.w [0,0,5] (Packet.enc r)) []:=by
 unfold laws_toPacket at h
 refine ofb Try.f41 true ?_
 refine Wp.sa ?_
 refine Wp.sa ?_
 refine Wp.sa ?_
 refine Wp.sa ?_
 refine Wp.cl false 2 12 [.s p0.fB] h (fun _=>laws_toByteS_ok) (fun r1 h=>?_)
 refine Wp.sa ?_
 obtain rfl:=oi h
 exact Wp.ret RetB
theorem laws_toPacketS_ok {u p0 r} (h:laws_toPacketS u p0=some r):CallOK Try.prog 22 [.one (.t (.sl 3 (p0.map Packet.enc)))] (.one (.ow 113 3 (r.map Packet.enc))) []:=by
 unfold laws_toPacketS at h
 refine ofb Try.f22 true ?_
 refine Wp.sa ?_
 refine Wp.sr ?_
 refine Runs.ln 1 96 Packet.enc p0 ?_
 obtain ⟨_,e_1,h⟩:=bind_some h
 obtain ⟨_,e_2,h⟩:=bind_some h
 refine Runs.mkS Packet.enc ((Packet.mk 0 0 ([])):Packet) 7 113 3 40 ((p0.length:Int)) ((p0.length:Int)) rfl rfl kr kr kr kr kr kr (chk_some e_1) (of_decide_eq_true (chk_some e_2)) kr ?_
 refine Runs.alln ?_
 refine Wp.j1 (fun x12=>laws_toPacketS_j1 u x12=some r) (fun x12=>⟨[(2,.nil),(3,.own 196609)],[],[(196609,.live 113 3 (x12.map Packet.enc))]⟩) (fun x12 h=>?_) ?_
 ·refine Wp.sa ?_
  obtain rfl:=oi h
  exact Wp.ret RetB
 refine Wp.sa ?_
 refine Wp.block ?_
 refine Wp.l3 (fun k_laws_toPacketS_l2 p0 x5 x6=>laws_toPacketS_l2 u k_laws_toPacketS_l2 p0 x5 x6=some r) (fun p0 x5 x6=>⟨[(0,.t (.sl 3 (p0.map Packet.enc))),(2,.nil),(3,.own 196609),(4,.i x6)],[],[(196609,.live 113 3 (x5.map Packet.enc))]⟩) (fun k_laws_toPacketS_l2 p0 x5 x6 h=>?_) h (lo [(196609,458752)]) (fun _ _ _  h=>nomatch h)
 rw [laws_toPacketS_l2] at h
 refine Wp.seq ?_
 refine Wp.sr ?_
 refine Runs.ln 2 96 Packet.enc p0 ?_
 refine Runs.alln ?_
 refine Wp.c2 h (fun h=>?_) (fun h=>?_)
 ·refine Wp.sk ?_
  refine Wp.seq ?_
  refine Wp.block ?_
  refine Wp.rg [] [] ?_
  refine Runs.ix 4 96 3 Packet.enc h (fun y9 h _=>?_)
  refine Runs.cl false 1 20 [.agg ((Packet.enc y9).map .t)] h (fun _=>laws_toPacket_ok) (fun r10 h=>?_)
  refine Runs.ixo 0 113 3 196609 113 Packet.enc h (fun y11 h e_y11=>?_)
  refine Runs.storeU (e:=113) (sz:=3) (m:=3) Packet.enc x5 196609 (Int.toNat x6) 0 r10 (.agg [.i r10.fFrom,.i r10.fTo,.own 1310722]) (Packet.enc r10) rfl kr kr kr kr kr kr kr kr ((idx_some e_y11).2) kr kr ?_
  refine Runs.all kr ?_
  refine blkN ?_
  refine thenN ?_
  refine Wp.rg [] [] ?_
  refine Runs.alln ?_
  exact ⟨_,_,_,h,lo []⟩
 refine Wp.exit ?_
 refine thenE ?_
 refine thenE ?_
 refine blkE ?_
 refine thenN ?_
 exact ⟨_,h,lo []⟩
theorem laws_toSent_ok {u p0 r} (h:laws_toSent u p0=some r):CallOK Try.prog 42 [V.g (Sent.enc p0)] (V.g (Sent.enc r)) []:=by
 unfold laws_toSent at h
 refine ofb Try.f42 false ?_
 refine Wp.sa ?_
 refine Wp.sa ?_
 refine Wp.sa ?_
 refine Wp.sa ?_
 refine Wp.sa ?_
 refine Wp.sa ?_
 obtain rfl:=oi h
 exact Wp.ret RetB
theorem laws_toSentS_ok {u p0 r} (h:laws_toSentS u p0=some r):CallOK Try.prog 23 [.one (.t (.sl 3 (p0.map Sent.enc)))] (.one (.ow 57 3 (r.map Sent.enc))) []:=by
 unfold laws_toSentS at h
 refine ofb Try.f23 true ?_
 refine Wp.sa ?_
 refine Wp.sr ?_
 refine Runs.ln 1 116 Sent.enc p0 ?_
 obtain ⟨_,e_1,h⟩:=bind_some h
 obtain ⟨_,e_2,h⟩:=bind_some h
 refine Runs.mkS Sent.enc ((Sent.mk 0 0 0):Sent) 7 57 3 24 ((p0.length:Int)) ((p0.length:Int)) rfl rfl kr kr kr kr kr kr (chk_some e_1) (of_decide_eq_true (chk_some e_2)) kr ?_
 refine Runs.alln ?_
 refine Wp.j1 (fun x12=>laws_toSentS_j1 u x12=some r) (fun x12=>⟨[(2,.nil),(3,.own 196609)],[],[(196609,.live 57 3 (x12.map Sent.enc))]⟩) (fun x12 h=>?_) ?_
 ·refine Wp.sa ?_
  obtain rfl:=oi h
  exact Wp.ret RetB
 refine Wp.sa ?_
 refine Wp.block ?_
 refine Wp.l3 (fun k_laws_toSentS_l2 p0 x5 x6=>laws_toSentS_l2 u k_laws_toSentS_l2 p0 x5 x6=some r) (fun p0 x5 x6=>⟨[(0,.t (.sl 3 (p0.map Sent.enc))),(2,.nil),(3,.own 196609),(4,.i x6)],[],[(196609,.live 57 3 (x5.map Sent.enc))]⟩) (fun k_laws_toSentS_l2 p0 x5 x6 h=>?_) h (lo [(196609,458752)]) (fun _ _ _  h=>nomatch h)
 rw [laws_toSentS_l2] at h
 refine Wp.seq ?_
 refine Wp.sr ?_
 refine Runs.ln 2 116 Sent.enc p0 ?_
 refine Runs.alln ?_
 refine Wp.c2 h (fun h=>?_) (fun h=>?_)
 ·refine Wp.sk ?_
  refine Wp.seq ?_
  refine Wp.block ?_
  refine Wp.rg [] [] ?_
  refine Runs.ix 4 116 3 Sent.enc h (fun y9 h _=>?_)
  refine Runs.cl false 1 20 [.agg ((Sent.enc y9).map .t)] h (fun _=>laws_toSent_ok) (fun r10 h=>?_)
  refine Runs.ixo 0 57 3 196609 57 Sent.enc h (fun y11 h e_y11=>?_)
  refine Runs.storeT (e:=57) (sz:=3) (m:=3) Sent.enc x5 196609 (Int.toNat x6) 0 r10 (.agg ((Sent.enc r10).map .t)) (Sent.enc r10) rfl kr kr kr kr kr kr kr kr ((idx_some e_y11).2) kr kr ?_
  refine Runs.all kr ?_
  refine blkN ?_
  refine thenN ?_
  refine Wp.rg [] [] ?_
  refine Runs.alln ?_
  exact ⟨_,_,_,h,lo []⟩
 refine Wp.exit ?_
 refine thenE ?_
 refine thenE ?_
 refine blkE ?_
 refine thenN ?_
 exact ⟨_,h,lo []⟩
theorem laws_toWorld_ok {u p0 r} (h:laws_toWorld u p0=some r):CallOK Try.prog 6 [V.g (World.enc p0)] (V.w [0,0,0,0,3,5,98,106,111,113,57,0] (World.enc r)) []:=by
 unfold laws_toWorld at h
 refine ofb Try.f6 true ?_
 refine Wp.sa ?_
 refine Wp.sa ?_
 refine Wp.cl false 2 6 [.agg ((Conf.enc p0.fC).map .t)] h (fun _=>laws_toConf_ok) (fun r1 h=>?_)
 refine Wp.cl false 2 10 [.agg [.t (.sl 1 (p0.fT.fUp.map (eInt .i64)))]] h (fun _=>laws_toTree_ok) (fun r2 h=>?_)
 refine Wp.cl false 2 14 [.s p0.fNew] h (fun _=>laws_toByteS_ok) (fun r3 h=>?_)
 refine Wp.cl false 2 18 [.t (.sl 1 (p0.fOld.map Image.enc))] h (fun _=>laws_toImageS_ok) (fun r4 h=>?_)
 refine Wp.cl false 2 22 [.t (.sl 12 (p0.fN.map Node.enc))] h (fun _=>laws_toNodeS_ok) (fun r5 h=>?_)
 refine Wp.cl false 2 26 [.t (.sl 6 (p0.fD.map Disk.enc))] h (fun _=>laws_toDiskS_ok) (fun r6 h=>?_)
 refine Wp.cl false 2 30 [.t (.sl 3 (p0.fNet.map Packet.enc))] h (fun _=>laws_toPacketS_ok) (fun r7 h=>?_)
 refine Wp.cl false 2 34 [.t (.sl 3 (p0.fLog.map Sent.enc))] h (fun _=>laws_toSentS_ok) (fun r8 h=>?_)
 refine Wp.fg ⟨[(1,.obj 1 0),(2,.obj 2 0),(3,.obj 3 0)],[(1,((World.enc p0).map .t)),(2,[.i 0,.i 0,.i 0,.i 0,.nil,.nil,.nil,.nil,.nil,.nil,.nil,.i 0]),(3,[.i r1.fSize,.i r1.fWindow,.i r1.fSuspect,.i r1.fForget,.own 655360,.own 917504,.own 1179648,.own 1441792,.own 1703936,.own 1966080,.own 2228224,.i 0])],[(655360,.live 3 1 (r2.fUp.map (eInt .i64))),(917504,.live 5 1 (r3.map (eInt .u8))),(1179648,.live 98 1 (r4.map Image.enc)),(1441792,.live 106 12 (r5.map Node.enc)),(1703936,.live 111 6 (r6.map Disk.enc)),(1966080,.live 113 3 (r7.map Packet.enc)),(2228224,.live 57 3 (r8.map Sent.enc))]⟩ ?_
 refine Wp.sa ?_
 refine Wp.sa ?_
 obtain rfl:=oi h
 exact Wp.ret RetB
theorem spec_TwiceOver_ok {u p0 r} (h:spec_TwiceOver u p0=some r):CallOK Try.prog 5 [V.g (World.enc p0)] (V.i r) []:=by
 unfold spec_TwiceOver at h
 refine ofb Try.f5 false ?_
 refine Wp.sa ?_
 refine Wp.sa ?_
 refine Wp.j1 (fun x18=>spec_TwiceOver_j1 u x18=some r) (fun x18=>⟨[(2,.i 0),(3,.i x18)],[],[]⟩) (fun x18 h=>?_) ?_
 ·refine Wp.sa ?_
  obtain rfl:=oi h
  exact Wp.ret RetB
 refine Wp.sa ?_
 refine Wp.block ?_
 refine Wp.l3 (fun k_spec_TwiceOver_l2 x3 x4 p0=>spec_TwiceOver_l2 u k_spec_TwiceOver_l2 x3 x4 p0=some r) (fun x3 x4 p0=>⟨[(1,.obj 1 0),(2,.i 0),(3,.i x3),(4,.i x4)],[(1,((World.enc p0).map .t))],[]⟩) (fun k_spec_TwiceOver_l2 x3 x4 p0 h=>?_) h (lo []) (fun _ _ _  h=>nomatch h)
 rw [spec_TwiceOver_l2] at h
 refine Wp.seq ?_
 refine Wp.sr ?_
 refine Runs.ln 3 57 Sent.enc p0.fLog ?_
 refine Runs.alln ?_
 refine Wp.c2 h (fun h=>?_) (fun h=>?_)
 ·refine Wp.sk ?_
  refine Wp.j3 (fun x17 x4 p0=>spec_TwiceOver_j3 u (fun z0 z1 z2=>spec_TwiceOver_l2 u k_spec_TwiceOver_l2 z0 z1 z2) x17 x4 p0=some r) (fun x17 x4 p0=>⟨[(1,.obj 1 0),(2,.i 0),(3,.i x17),(4,.i x4)],[(1,((World.enc p0).map .t))],[]⟩) (fun x17 x4 p0 h=>?_) ?_
  ·refine Wp.rg [] [] ?_
   refine Runs.alln ?_
   exact ⟨_,_,_,h,lo []⟩
  refine Wp.block ?_
  refine Wp.sa ?_
  refine Wp.j4 (fun x3 x4 x16 p0=>spec_TwiceOver_j4 u (fun z0 z1 z2=>spec_TwiceOver_l2 u k_spec_TwiceOver_l2 z0 z1 z2) x3 x4 x16 p0=some r) (fun x3 x4 x16 p0=>⟨[(1,.obj 1 0),(2,.i 0),(3,.i x3),(4,.i x4),(5,.b x16)],[(1,((World.enc p0).map .t))],[]⟩) (fun x3 x4 x16 p0 h=>?_) ?_
  ·refine Wp.sa ?_
   refine Wp.c2 h (fun h=>?_) (fun h=>?_)
   ·refine Wp.rg [] [] ?_
    refine Runs.all kr ?_
    refine blkN ?_
    refine thenN ?_
    exact ⟨_,_,_,h,lo []⟩
   refine Wp.skip ?_
   refine blkN ?_
   refine thenN ?_
   exact ⟨_,_,_,h,lo []⟩
  refine Wp.sa ?_
  refine Wp.block ?_
  refine Wp.l5 (fun k_spec_TwiceOver_l5 x3 x4 x9 x10 p0=>spec_TwiceOver_l5 u (fun z0 z1 z2=>spec_TwiceOver_l2 u k_spec_TwiceOver_l2 z0 z1 z2) k_spec_TwiceOver_l5 x3 x4 x9 x10 p0=some r) (fun x3 x4 x9 x10 p0=>⟨[(1,.obj 1 0),(2,.i 0),(3,.i x3),(4,.i x4),(5,.b x9),(6,.i x10)],[(1,((World.enc p0).map .t))],[]⟩) (fun k_spec_TwiceOver_l5 x3 x4 x9 x10 p0 h=>?_) h (lo []) (fun _ _ _ _ _  h=>nomatch h)
  rw [spec_TwiceOver_l5] at h
  refine Wp.seq ?_
  refine Wp.sa ?_
  refine Wp.c2 h (fun h=>?_) (fun h=>?_)
  ·refine Wp.sk ?_
   refine Wp.j5 (fun x3 x4 x15 x10 p0=>spec_TwiceOver_j6 u (fun z0 z1 z2=>spec_TwiceOver_l2 u k_spec_TwiceOver_l2 z0 z1 z2) (fun z0 z1 z2 z3 z4=>spec_TwiceOver_l5 u (fun z0 z1 z2=>spec_TwiceOver_l2 u k_spec_TwiceOver_l2 z0 z1 z2) k_spec_TwiceOver_l5 z0 z1 z2 z3 z4) x3 x4 x15 x10 p0=some r) (fun x3 x4 x15 x10 p0=>⟨[(1,.obj 1 0),(2,.i 0),(3,.i x3),(4,.i x4),(5,.b x15),(6,.i x10)],[(1,((World.enc p0).map .t))],[]⟩) (fun x3 x4 x15 x10 p0 h=>?_) ?_
   ·refine Wp.rg [] [] ?_
    refine Runs.alln ?_
    exact ⟨_,_,_,_,_,h,lo []⟩
   refine Wp.block ?_
   refine Wp.regionA (pOf []) (rhoOf [(1,.obj 1),(4,.frz),(5,.frz),(6,.frz),(19,.frz),(20,.frz),(21,.obj 1),(22,.frz),(23,.frz),(24,.frz),(25,.frz),(26,.obj 1),(27,.frz),(28,.frz),(29,.frz),(30,.frz),(32,.frz)]) kr kr ?_
   refine Runs.c2 2 20 h (fun h=>?_) (fun h=>?_)
   ·refine Runs.all kr ?_
    refine blkN ?_
    refine thenN ?_
    exact ⟨_,_,_,_,_,h,lo []⟩
   refine Runs.ix 3 57 3 Sent.enc h (fun y13 h _=>?_)
   refine Runs.ix 4 57 3 Sent.enc h (fun y14 h _=>?_)
   refine Runs.all kr ?_
   refine blkN ?_
   refine thenN ?_
   exact ⟨_,_,_,_,_,h,lo []⟩
  refine Wp.exit ?_
  refine thenE ?_
  refine thenE ?_
  refine blkE ?_
  refine thenN ?_
  exact ⟨_,_,_,_,h,lo []⟩
 refine Wp.exit ?_
 refine thenE ?_
 refine thenE ?_
 refine blkE ?_
 refine thenN ?_
 exact ⟨_,h,lo []⟩
theorem impl_TwiceOver_ok {u p0 r} (h:impl_TwiceOver u p0=some r):CallOK Try.prog 7 [V.g (World.enc p0)] (V.i r) []:=by
 unfold impl_TwiceOver at h
 refine ofz Try.f7 false ?_
 refine Wz.sa ?_
 refine Wz.mapped (m:=3) (p:=pOf []) (ρ:=rhoOf []) (Qm:=fun e st' ks'=>(e=.ret∨e=.normal)∧st'.tm 2=.i r) rfl kr rfl rfl rfl kr (fun w00 X0 D0 b=>?_) (fun e st' ks' hq=>⟨2,_,by decide,hq.2,rfl,?_⟩)
 ·refine Runs.all kr ?_
  refine Wm.sa ?_
  refine Wm.seq ?_
  refine Wm.sr ?_
  refine Runs.ln 2 57 Sent.enc p0.fLog ?_
  refine Runs.all kr ?_
  refine Wm.block ?_
  refine Wm.lF (α:=Int×List (List Int)×Int) (fun q=>⟨[(2,.i 0),(3,.raw (.map (some b))),(4,.i q.1),(9,.t (.sl 3 (p0.fLog.map Sent.enc))),(10,.i ((p0.fLog.length:Int))),(11,.i q.2.2)],[],[]⟩) (fun q=>q.2.1) (fun k q=>impl_TwiceOver_l2 u k q.1 q.2.1 p0 q.2.2=some r) (fun q h=>nomatch h) (fun k q h=>?_) u (0,[],0) h (lo [])
  obtain ⟨x3,ks,x4⟩:=q
  simp only at h ⊢
  rw [impl_TwiceOver_l2] at h
  refine Wm.sa ?_
  refine Wm.seq ?_
  refine Wm.cond (q:=decide (x4 < (p0.fLog.length:Int))) kr ?_
  cases hc:decide (x4 < (p0.fLog.length:Int)) with
  | true =>
   rw [hc] at h
   simp only [cond_true] at h
   refine Wm.skip ?_
   refine Wm.seq ?_
   refine Wm.block ?_
   refine Wm.sr ?_
   refine Runs.ix 0 57 3 Sent.enc h (fun y7 h _=>?_)
   refine Runs.all kr ?_
   refine Wm.seq ?_
   refine Wm.seq ?_
   refine Wm.lookup (p:=pOf []) (ρ:=rhoOf []) (l:=[_,_]) rfl kr rfl rfl (tm:=66) (tk:=57) (te:=4) kr kr (fun w=>by kernel_rfl) ?_
   refine Runs.all kr ⟨kr,[.i y7.fFrom,.i y7.fTo,.i y7.fI],sentKey y7,kr,rfl,rfl,?_⟩
   refine Wm.cond (q:=ks.contains (sentKey y7)) kr ?_
   cases hq:ks.contains (sentKey y7) with
   | false =>
    rw [hq] at h
    refine Wm.skip ?_
    refine Wm.update (p:=pOf []) (ρ:=rhoOf []) (l:=[_,_]) rfl kr rfl rfl rfl (tm:=66) (tk:=57) (te:=4) kr kr kr ?_
    refine Runs.all kr ⟨kr,[.i y7.fFrom,.i y7.fTo,.i y7.fI],sentKey y7,kr,rfl,rfl,?_⟩
    refine Wm.rg ?_
    refine Runs.all kr ?_
    exact ⟨(x3,addK ks (sentKey y7),bAdd .i64 x4 1),h,lo [],rfl⟩
   | true =>
    rw [hq] at h
    refine Wm.rg ?_
    refine Runs.all kr ?_
    refine Wm.update (p:=pOf []) (ρ:=rhoOf []) (l:=[_,_]) rfl kr rfl rfl rfl (tm:=66) (tk:=57) (te:=4) kr kr kr ?_
    refine Runs.all kr ⟨kr,[.i y7.fFrom,.i y7.fTo,.i y7.fI],sentKey y7,kr,rfl,rfl,?_⟩
    refine Wm.rg ?_
    refine Runs.all kr ?_
    exact ⟨(bAdd .i64 x3 1,addK ks (sentKey y7),bAdd .i64 x4 1),h,lo [],rfl⟩
  | false =>
   rw [hc] at h
   obtain rfl:=oi h
   refine Wm.exit ?_
   refine Wm.sa ?_
   exact Wm.ret ⟨.inl rfl,kr⟩
 ·rcases hq.1 with rfl | rfl
  ·exact RetB
  ·exact RetBn
theorem laws_eqConf_ok {u p0 p1 r} (h:laws_eqConf u p0 p1=some r):CallOK Try.prog 24 [V.g (Conf.enc p0),V.g (Conf.enc p1)] (V.b r) []:=by
 unfold laws_eqConf at h
 refine ofb Try.f24 false ?_
 refine Wp.sa ?_
 refine Wp.seq ?_
 refine Wp.sa ?_
 refine Wp.c2 h (fun h=>?_) (fun h=>?_)
 ·refine Wp.sa ?_
  obtain rfl:=oi h
  exact Wp.ret RetB
 refine Wp.sk ?_
 refine Wp.seq ?_
 refine Wp.sa ?_
 refine Wp.c2 h (fun h=>?_) (fun h=>?_)
 ·refine Wp.sa ?_
  obtain rfl:=oi h
  exact Wp.ret RetB
 refine Wp.sk ?_
 refine Wp.seq ?_
 refine Wp.sa ?_
 refine Wp.c2 h (fun h=>?_) (fun h=>?_)
 ·refine Wp.sa ?_
  obtain rfl:=oi h
  exact Wp.ret RetB
 refine Wp.sk ?_
 refine Wp.seq ?_
 refine Wp.sa ?_
 refine Wp.c2 h (fun h=>?_) (fun h=>?_)
 ·refine Wp.sa ?_
  obtain rfl:=oi h
  exact Wp.ret RetB
 refine Wp.sk ?_
 refine Wp.sa ?_
 obtain rfl:=oi h
 exact Wp.ret RetB
theorem laws_eqIntS_ok {u p0 p1 r} (h:laws_eqIntS u p0 p1=some r):CallOK Try.prog 43 [.one (.t (.sl 1 (p0.map (eInt .i64)))),.one (.t (.sl 1 (p1.map (eInt .i64))))] (V.b r) []:=by
 unfold laws_eqIntS at h
 refine ofb Try.f43 false ?_
 refine Wp.sa ?_
 refine Wp.seq ?_
 refine Wp.sr ?_
 refine Runs.ln 1 3 (eInt .i64) p0 ?_
 refine Runs.ln 1 3 (eInt .i64) p1 ?_
 refine Runs.alln ?_
 refine Wp.c2 h (fun h=>?_) (fun h=>?_)
 ·refine Wp.sa ?_
  obtain rfl:=oi h
  exact Wp.ret RetB
 refine Wp.sk ?_
 refine Wp.j0 (laws_eqIntS_j1 u=some r) ⟨[(4,.b false)],[],[]⟩ (fun h=>?_) ?_
 ·refine Wp.sa ?_
  obtain rfl:=oi h
  exact Wp.ret RetB
 refine Wp.sa ?_
 refine Wp.block ?_
 refine Wp.l3 (fun k_laws_eqIntS_l2 p0 p1 x2=>laws_eqIntS_l2 u k_laws_eqIntS_l2 p0 p1 x2=some r) (fun p0 p1 x2=>⟨[(0,.t (.sl 1 (p0.map (eInt .i64)))),(1,.t (.sl 1 (p1.map (eInt .i64)))),(4,.b false),(5,.i x2)],[],[]⟩) (fun k_laws_eqIntS_l2 p0 p1 x2 h=>?_) h (lo []) (fun _ _ _  h=>nomatch h)
 rw [laws_eqIntS_l2] at h
 refine Wp.seq ?_
 refine Wp.sr ?_
 refine Runs.ln 2 3 (eInt .i64) p0 ?_
 refine Runs.alln ?_
 refine Wp.c2 h (fun h=>?_) (fun h=>?_)
 ·refine Wp.sk ?_
  refine Wp.seq ?_
  refine Wp.block ?_
  refine Wp.seq ?_
  refine Wp.regionA (pOf []) (rhoOf [(0,.frz),(1,.frz),(5,.frz),(17,.frz),(18,.frz),(19,.frz),(20,.frz),(21,.frz),(22,.frz),(23,.frz),(24,.frz)]) kr kr ?_
  refine Runs.ix 2 3 1 (eInt .i64) h (fun y4 h _=>?_)
  refine Runs.ix 3 3 1 (eInt .i64) h (fun y5 h _=>?_)
  refine Runs.alln ?_
  refine Wp.c2 h (fun h=>?_) (fun h=>?_)
  ·refine Wp.sa ?_
   obtain rfl:=oi h
   exact Wp.ret RetB
  refine Wp.skip ?_
  refine blkN ?_
  refine thenN ?_
  refine Wp.rg [] [] ?_
  refine Runs.alln ?_
  exact ⟨_,_,_,h,lo []⟩
 refine Wp.exit ?_
 refine thenE ?_
 refine thenE ?_
 refine blkE ?_
 refine thenN ?_
 exact ⟨h,lo []⟩
theorem laws_eqTree_ok {u p0 p1 r} (h:laws_eqTree u p0 p1=some r):CallOK Try.prog 25 [V.g (Tree.enc p0),V.g (Tree.enc p1)] (V.b r) []:=by
 unfold laws_eqTree at h
 refine ofb Try.f25 false ?_
 refine Wp.sa ?_
 refine Wp.seq ?_
 refine Wp.cl false 4 9 [.t (.sl 1 (p0.fUp.map (eInt .i64))),.t (.sl 1 (p1.fUp.map (eInt .i64)))] h (fun _=>laws_eqIntS_ok) (fun r1 h=>?_)
 refine Wp.c2 h (fun h=>?_) (fun h=>?_)
 ·refine Wp.sa ?_
  obtain rfl:=oi h
  exact Wp.ret RetB
 refine Wp.sk ?_
 refine Wp.sa ?_
 obtain rfl:=oi h
 exact Wp.ret RetB
theorem laws_eqByteS_ok {u p0 p1 r} (h:laws_eqByteS u p0 p1=some r):CallOK Try.prog 26 [.one (.s p0),.one (.s p1)] (V.b r) []:=by
 unfold laws_eqByteS at h
 refine ofb Try.f26 false ?_
 refine Wp.sa ?_
 refine Wp.seq ?_
 refine Wp.sr ?_
 refine Runs.ln 1 5 (eInt .u8) p0 ?_
 refine Runs.ln 1 5 (eInt .u8) p1 ?_
 refine Runs.alln ?_
 refine Wp.c2 h (fun h=>?_) (fun h=>?_)
 ·refine Wp.sa ?_
  obtain rfl:=oi h
  exact Wp.ret RetB
 refine Wp.sk ?_
 refine Wp.j0 (laws_eqByteS_j1 u=some r) ⟨[(4,.b false)],[],[]⟩ (fun h=>?_) ?_
 ·refine Wp.sa ?_
  obtain rfl:=oi h
  exact Wp.ret RetB
 refine Wp.sa ?_
 refine Wp.block ?_
 refine Wp.l3 (fun k_laws_eqByteS_l2 p0 p1 x2=>laws_eqByteS_l2 u k_laws_eqByteS_l2 p0 p1 x2=some r) (fun p0 p1 x2=>⟨[(0,.s p0),(1,.s p1),(4,.b false),(5,.i x2)],[],[]⟩) (fun k_laws_eqByteS_l2 p0 p1 x2 h=>?_) h (lo []) (fun _ _ _  h=>nomatch h)
 rw [laws_eqByteS_l2] at h
 refine Wp.seq ?_
 refine Wp.sr ?_
 refine Runs.ln 2 5 (eInt .u8) p0 ?_
 refine Runs.alln ?_
 refine Wp.c2 h (fun h=>?_) (fun h=>?_)
 ·refine Wp.sk ?_
  refine Wp.seq ?_
  refine Wp.block ?_
  refine Wp.seq ?_
  refine Wp.regionA (pOf []) (rhoOf [(0,.frz),(1,.frz),(5,.frz),(17,.frz),(18,.frz),(19,.frz),(20,.frz),(21,.frz),(22,.frz),(23,.frz),(24,.frz)]) kr kr ?_
  refine Runs.ix 2 5 1 (eInt .u8) h (fun y4 h _=>?_)
  refine Runs.ix 3 5 1 (eInt .u8) h (fun y5 h _=>?_)
  refine Runs.alln ?_
  refine Wp.c2 h (fun h=>?_) (fun h=>?_)
  ·refine Wp.sa ?_
   obtain rfl:=oi h
   exact Wp.ret RetB
  refine Wp.skip ?_
  refine blkN ?_
  refine thenN ?_
  refine Wp.rg [] [] ?_
  refine Runs.alln ?_
  exact ⟨_,_,_,h,lo []⟩
 refine Wp.exit ?_
 refine thenE ?_
 refine thenE ?_
 refine blkE ?_
 refine thenN ?_
 exact ⟨h,lo []⟩
theorem laws_eqImage_ok {u p0 p1 r} (h:laws_eqImage u p0 p1=some r):CallOK Try.prog 44 [V.g (Image.enc p0),V.g (Image.enc p1)] (V.b r) []:=by
 unfold laws_eqImage at h
 refine ofb Try.f44 false ?_
 refine Wp.sa ?_
 refine Wp.seq ?_
 refine Wp.cl false 4 9 [.s p0.fB,.s p1.fB] h (fun _=>laws_eqByteS_ok) (fun r1 h=>?_)
 refine Wp.c2 h (fun h=>?_) (fun h=>?_)
 ·refine Wp.sa ?_
  obtain rfl:=oi h
  exact Wp.ret RetB
 refine Wp.sk ?_
 refine Wp.sa ?_
 obtain rfl:=oi h
 exact Wp.ret RetB
theorem laws_eqImageS_ok {u p0 p1 r} (h:laws_eqImageS u p0 p1=some r):CallOK Try.prog 27 [.one (.t (.sl 1 (p0.map Image.enc))),.one (.t (.sl 1 (p1.map Image.enc)))] (V.b r) []:=by
 unfold laws_eqImageS at h
 refine ofb Try.f27 false ?_
 refine Wp.sa ?_
 refine Wp.seq ?_
 refine Wp.sr ?_
 refine Runs.ln 1 98 Image.enc p0 ?_
 refine Runs.ln 1 98 Image.enc p1 ?_
 refine Runs.alln ?_
 refine Wp.c2 h (fun h=>?_) (fun h=>?_)
 ·refine Wp.sa ?_
  obtain rfl:=oi h
  exact Wp.ret RetB
 refine Wp.sk ?_
 refine Wp.j0 (laws_eqImageS_j1 u=some r) ⟨[(4,.b false)],[],[]⟩ (fun h=>?_) ?_
 ·refine Wp.sa ?_
  obtain rfl:=oi h
  exact Wp.ret RetB
 refine Wp.sa ?_
 refine Wp.block ?_
 refine Wp.l3 (fun k_laws_eqImageS_l2 p0 p1 x2=>laws_eqImageS_l2 u k_laws_eqImageS_l2 p0 p1 x2=some r) (fun p0 p1 x2=>⟨[(0,.t (.sl 1 (p0.map Image.enc))),(1,.t (.sl 1 (p1.map Image.enc))),(4,.b false),(5,.i x2)],[],[]⟩) (fun k_laws_eqImageS_l2 p0 p1 x2 h=>?_) h (lo []) (fun _ _ _  h=>nomatch h)
 rw [laws_eqImageS_l2] at h
 refine Wp.seq ?_
 refine Wp.sr ?_
 refine Runs.ln 2 98 Image.enc p0 ?_
 refine Runs.alln ?_
 refine Wp.c2 h (fun h=>?_) (fun h=>?_)
 ·refine Wp.sk ?_
  refine Wp.seq ?_
  refine Wp.block ?_
  refine Wp.seq ?_
  refine Wp.regionA (pOf []) (rhoOf [(0,.frz),(1,.frz),(5,.frz),(17,.frz),(18,.frz),(19,.frz),(20,.frz),(21,.frz),(22,.frz),(23,.frz),(24,.frz),(25,.frz)]) kr kr ?_
  refine Runs.ix 2 98 1 Image.enc h (fun y4 h _=>?_)
  refine Runs.ix 3 98 1 Image.enc h (fun y5 h _=>?_)
  refine Runs.cl false 1 25 [.agg [.s y4.fB],.agg [.s y5.fB]] h (fun _=>laws_eqImage_ok) (fun r6 h=>?_)
  refine Runs.alln ?_
  refine Wp.c2 h (fun h=>?_) (fun h=>?_)
  ·refine Wp.sa ?_
   obtain rfl:=oi h
   exact Wp.ret RetB
  refine Wp.skip ?_
  refine blkN ?_
  refine thenN ?_
  refine Wp.rg [] [] ?_
  refine Runs.alln ?_
  exact ⟨_,_,_,h,lo []⟩
 refine Wp.exit ?_
 refine thenE ?_
 refine thenE ?_
 refine blkE ?_
 refine thenN ?_
 exact ⟨h,lo []⟩
theorem laws_eqSum_ok {u p0 p1 r} (h:laws_eqSum u p0 p1=some r):CallOK Try.prog 72 [V.g (Sum.enc p0),V.g (Sum.enc p1)] (V.b r) []:=by
 unfold laws_eqSum at h
 refine ofb Try.f72 false ?_
 refine Wp.sa ?_
 refine Wp.seq ?_
 refine Wp.sa ?_
 refine Wp.c2 h (fun h=>?_) (fun h=>?_)
 ·refine Wp.sa ?_
  obtain rfl:=oi h
  exact Wp.ret RetB
 refine Wp.sk ?_
 refine Wp.seq ?_
 refine Wp.sa ?_
 refine Wp.c2 h (fun h=>?_) (fun h=>?_)
 ·refine Wp.sa ?_
  obtain rfl:=oi h
  exact Wp.ret RetB
 refine Wp.sk ?_
 refine Wp.sa ?_
 obtain rfl:=oi h
 exact Wp.ret RetB
theorem laws_eqSumS_ok {u p0 p1 r} (h:laws_eqSumS u p0 p1=some r):CallOK Try.prog 68 [.one (.t (.sl 2 (p0.map Sum.enc))),.one (.t (.sl 2 (p1.map Sum.enc)))] (V.b r) []:=by
 unfold laws_eqSumS at h
 refine ofb Try.f68 false ?_
 refine Wp.sa ?_
 refine Wp.seq ?_
 refine Wp.sr ?_
 refine Runs.ln 1 153 Sum.enc p0 ?_
 refine Runs.ln 1 153 Sum.enc p1 ?_
 refine Runs.alln ?_
 refine Wp.c2 h (fun h=>?_) (fun h=>?_)
 ·refine Wp.sa ?_
  obtain rfl:=oi h
  exact Wp.ret RetB
 refine Wp.sk ?_
 refine Wp.j0 (laws_eqSumS_j1 u=some r) ⟨[(4,.b false)],[],[]⟩ (fun h=>?_) ?_
 ·refine Wp.sa ?_
  obtain rfl:=oi h
  exact Wp.ret RetB
 refine Wp.sa ?_
 refine Wp.block ?_
 refine Wp.l3 (fun k_laws_eqSumS_l2 p0 p1 x2=>laws_eqSumS_l2 u k_laws_eqSumS_l2 p0 p1 x2=some r) (fun p0 p1 x2=>⟨[(0,.t (.sl 2 (p0.map Sum.enc))),(1,.t (.sl 2 (p1.map Sum.enc))),(4,.b false),(5,.i x2)],[],[]⟩) (fun k_laws_eqSumS_l2 p0 p1 x2 h=>?_) h (lo []) (fun _ _ _  h=>nomatch h)
 rw [laws_eqSumS_l2] at h
 refine Wp.seq ?_
 refine Wp.sr ?_
 refine Runs.ln 2 153 Sum.enc p0 ?_
 refine Runs.alln ?_
 refine Wp.c2 h (fun h=>?_) (fun h=>?_)
 ·refine Wp.sk ?_
  refine Wp.seq ?_
  refine Wp.block ?_
  refine Wp.seq ?_
  refine Wp.regionA (pOf []) (rhoOf [(0,.frz),(1,.frz),(5,.frz),(17,.frz),(18,.frz),(19,.frz),(20,.frz),(21,.frz),(22,.frz),(23,.frz),(24,.frz),(25,.frz)]) kr kr ?_
  refine Runs.ix 2 153 2 Sum.enc h (fun y4 h _=>?_)
  refine Runs.ix 3 153 2 Sum.enc h (fun y5 h _=>?_)
  refine Runs.cl false 1 25 [.agg [.i y4.fW,.i y4.fS],.agg [.i y5.fW,.i y5.fS]] h (fun _=>laws_eqSum_ok) (fun r6 h=>?_)
  refine Runs.alln ?_
  refine Wp.c2 h (fun h=>?_) (fun h=>?_)
  ·refine Wp.sa ?_
   obtain rfl:=oi h
   exact Wp.ret RetB
  refine Wp.skip ?_
  refine blkN ?_
  refine thenN ?_
  refine Wp.rg [] [] ?_
  refine Runs.alln ?_
  exact ⟨_,_,_,h,lo []⟩
 refine Wp.exit ?_
 refine thenE ?_
 refine thenE ?_
 refine blkE ?_
 refine thenN ?_
 exact ⟨h,lo []⟩
theorem laws_eqManifest_ok {u p0 p1 r} (h:laws_eqManifest u p0 p1=some r):CallOK Try.prog 58 [V.g (Manifest.enc p0),V.g (Manifest.enc p1)] (V.b r) []:=by
 unfold laws_eqManifest at h
 refine ofb Try.f58 false ?_
 refine Wp.sa ?_
 refine Wp.seq ?_
 refine Wp.sa ?_
 refine Wp.c2 h (fun h=>?_) (fun h=>?_)
 ·refine Wp.sa ?_
  obtain rfl:=oi h
  exact Wp.ret RetB
 refine Wp.sk ?_
 refine Wp.seq ?_
 refine Wp.sa ?_
 refine Wp.c2 h (fun h=>?_) (fun h=>?_)
 ·refine Wp.sa ?_
  obtain rfl:=oi h
  exact Wp.ret RetB
 refine Wp.sk ?_
 refine Wp.seq ?_
 refine Wp.sa ?_
 refine Wp.c2 h (fun h=>?_) (fun h=>?_)
 ·refine Wp.sa ?_
  obtain rfl:=oi h
  exact Wp.ret RetB
 refine Wp.sk ?_
 refine Wp.seq ?_
 refine Wp.cl false 4 24 [.t (.sl 2 (p0.fSums.map Sum.enc)),.t (.sl 2 (p1.fSums.map Sum.enc))] h (fun _=>laws_eqSumS_ok) (fun r1 h=>?_)
 refine Wp.c2 h (fun h=>?_) (fun h=>?_)
 ·refine Wp.sa ?_
  obtain rfl:=oi h
  exact Wp.ret RetB
 refine Wp.sk ?_
 refine Wp.sa ?_
 obtain rfl:=oi h
 exact Wp.ret RetB
theorem laws_eqBuild_ok {u p0 p1 r} (h:laws_eqBuild u p0 p1=some r):CallOK Try.prog 59 [V.g (Build.enc p0),V.g (Build.enc p1)] (V.b r) []:=by
 unfold laws_eqBuild at h
 refine ofb Try.f59 false ?_
 refine Wp.sa ?_
 refine Wp.seq ?_
 refine Wp.sa ?_
 refine Wp.c2 h (fun h=>?_) (fun h=>?_)
 ·refine Wp.sa ?_
  obtain rfl:=oi h
  exact Wp.ret RetB
 refine Wp.sk ?_
 refine Wp.seq ?_
 refine Wp.cl false 4 14 [.s p0.fBuf,.s p1.fBuf] h (fun _=>laws_eqByteS_ok) (fun r1 h=>?_)
 refine Wp.c2 h (fun h=>?_) (fun h=>?_)
 ·refine Wp.sa ?_
  obtain rfl:=oi h
  exact Wp.ret RetB
 refine Wp.sk ?_
 refine Wp.sa ?_
 obtain rfl:=oi h
 exact Wp.ret RetB
theorem laws_eqKid_ok {u p0 p1 r} (h:laws_eqKid u p0 p1=some r):CallOK Try.prog 69 [V.g (Kid.enc p0),V.g (Kid.enc p1)] (V.b r) []:=by
 unfold laws_eqKid at h
 refine ofb Try.f69 false ?_
 refine Wp.sa ?_
 refine Wp.seq ?_
 refine Wp.sa ?_
 refine Wp.c2 h (fun h=>?_) (fun h=>?_)
 ·refine Wp.sa ?_
  obtain rfl:=oi h
  exact Wp.ret RetB
 refine Wp.sk ?_
 refine Wp.seq ?_
 refine Wp.sa ?_
 refine Wp.c2 h (fun h=>?_) (fun h=>?_)
 ·refine Wp.sa ?_
  obtain rfl:=oi h
  exact Wp.ret RetB
 refine Wp.sk ?_
 refine Wp.seq ?_
 refine Wp.sa ?_
 refine Wp.c2 h (fun h=>?_) (fun h=>?_)
 ·refine Wp.sa ?_
  obtain rfl:=oi h
  exact Wp.ret RetB
 refine Wp.sk ?_
 refine Wp.seq ?_
 refine Wp.sa ?_
 refine Wp.c2 h (fun h=>?_) (fun h=>?_)
 ·refine Wp.sa ?_
  obtain rfl:=oi h
  exact Wp.ret RetB
 refine Wp.sk ?_
 refine Wp.seq ?_
 refine Wp.sa ?_
 refine Wp.c2 h (fun h=>?_) (fun h=>?_)
 ·refine Wp.sa ?_
  obtain rfl:=oi h
  exact Wp.ret RetB
 refine Wp.sk ?_
 refine Wp.sa ?_
 obtain rfl:=oi h
 exact Wp.ret RetB
theorem laws_eqKidS_ok {u p0 p1 r} (h:laws_eqKidS u p0 p1=some r):CallOK Try.prog 60 [.one (.t (.sl 5 (p0.map Kid.enc))),.one (.t (.sl 5 (p1.map Kid.enc)))] (V.b r) []:=by
 unfold laws_eqKidS at h
 refine ofb Try.f60 false ?_
 refine Wp.sa ?_
 refine Wp.seq ?_
 refine Wp.sr ?_
 refine Runs.ln 1 143 Kid.enc p0 ?_
 refine Runs.ln 1 143 Kid.enc p1 ?_
 refine Runs.alln ?_
 refine Wp.c2 h (fun h=>?_) (fun h=>?_)
 ·refine Wp.sa ?_
  obtain rfl:=oi h
  exact Wp.ret RetB
 refine Wp.sk ?_
 refine Wp.j0 (laws_eqKidS_j1 u=some r) ⟨[(4,.b false)],[],[]⟩ (fun h=>?_) ?_
 ·refine Wp.sa ?_
  obtain rfl:=oi h
  exact Wp.ret RetB
 refine Wp.sa ?_
 refine Wp.block ?_
 refine Wp.l3 (fun k_laws_eqKidS_l2 p0 p1 x2=>laws_eqKidS_l2 u k_laws_eqKidS_l2 p0 p1 x2=some r) (fun p0 p1 x2=>⟨[(0,.t (.sl 5 (p0.map Kid.enc))),(1,.t (.sl 5 (p1.map Kid.enc))),(4,.b false),(5,.i x2)],[],[]⟩) (fun k_laws_eqKidS_l2 p0 p1 x2 h=>?_) h (lo []) (fun _ _ _  h=>nomatch h)
 rw [laws_eqKidS_l2] at h
 refine Wp.seq ?_
 refine Wp.sr ?_
 refine Runs.ln 2 143 Kid.enc p0 ?_
 refine Runs.alln ?_
 refine Wp.c2 h (fun h=>?_) (fun h=>?_)
 ·refine Wp.sk ?_
  refine Wp.seq ?_
  refine Wp.block ?_
  refine Wp.seq ?_
  refine Wp.regionA (pOf []) (rhoOf [(0,.frz),(1,.frz),(5,.frz),(17,.frz),(18,.frz),(19,.frz),(20,.frz),(21,.frz),(22,.frz),(23,.frz),(24,.frz),(25,.frz)]) kr kr ?_
  refine Runs.ix 2 143 5 Kid.enc h (fun y4 h _=>?_)
  refine Runs.ix 3 143 5 Kid.enc h (fun y5 h _=>?_)
  refine Runs.cl false 1 25 [.agg ((Kid.enc y4).map .t),.agg ((Kid.enc y5).map .t)] h (fun _=>laws_eqKid_ok) (fun r6 h=>?_)
  refine Runs.alln ?_
  refine Wp.c2 h (fun h=>?_) (fun h=>?_)
  ·refine Wp.sa ?_
   obtain rfl:=oi h
   exact Wp.ret RetB
  refine Wp.skip ?_
  refine blkN ?_
  refine thenN ?_
  refine Wp.rg [] [] ?_
  refine Runs.alln ?_
  exact ⟨_,_,_,h,lo []⟩
 refine Wp.exit ?_
 refine thenE ?_
 refine thenE ?_
 refine blkE ?_
 refine thenN ?_
 exact ⟨h,lo []⟩
theorem laws_eqNode_ok {u p0 p1 r} (h:laws_eqNode u p0 p1=some r):CallOK Try.prog 45 [V.g (Node.enc p0),V.g (Node.enc p1)] (V.b r) []:=by
 unfold laws_eqNode at h
 refine ofb Try.f45 false ?_
 refine Wp.sa ?_
 refine Wp.seq ?_
 refine Wp.sa ?_
 refine Wp.c2 h (fun h=>?_) (fun h=>?_)
 ·refine Wp.sa ?_
  obtain rfl:=oi h
  exact Wp.ret RetB
 refine Wp.sk ?_
 refine Wp.seq ?_
 refine Wp.sa ?_
 refine Wp.c2 h (fun h=>?_) (fun h=>?_)
 ·refine Wp.sa ?_
  obtain rfl:=oi h
  exact Wp.ret RetB
 refine Wp.sk ?_
 refine Wp.seq ?_
 refine Wp.sa ?_
 refine Wp.c2 h (fun h=>?_) (fun h=>?_)
 ·refine Wp.sa ?_
  obtain rfl:=oi h
  exact Wp.ret RetB
 refine Wp.sk ?_
 refine Wp.seq ?_
 refine Wp.cl false 4 24 [.agg ((Manifest.enc p0.fMan).map .t),.agg ((Manifest.enc p1.fMan).map .t)] h (fun _=>laws_eqManifest_ok) (fun r1 h=>?_)
 refine Wp.c2 h (fun h=>?_) (fun h=>?_)
 ·refine Wp.sa ?_
  obtain rfl:=oi h
  exact Wp.ret RetB
 refine Wp.sk ?_
 refine Wp.seq ?_
 refine Wp.cl false 4 30 [.agg [.i p0.fBld.fHave,.s p0.fBld.fBuf],.agg [.i p1.fBld.fHave,.s p1.fBld.fBuf]] h (fun _=>laws_eqBuild_ok) (fun r2 h=>?_)
 refine Wp.c2 h (fun h=>?_) (fun h=>?_)
 ·refine Wp.sa ?_
  obtain rfl:=oi h
  exact Wp.ret RetB
 refine Wp.sk ?_
 refine Wp.seq ?_
 refine Wp.sa ?_
 refine Wp.c2 h (fun h=>?_) (fun h=>?_)
 ·refine Wp.sa ?_
  obtain rfl:=oi h
  exact Wp.ret RetB
 refine Wp.sk ?_
 refine Wp.seq ?_
 refine Wp.cl false 4 41 [.t (.sl 5 (p0.fKids.map Kid.enc)),.t (.sl 5 (p1.fKids.map Kid.enc))] h (fun _=>laws_eqKidS_ok) (fun r3 h=>?_)
 refine Wp.c2 h (fun h=>?_) (fun h=>?_)
 ·refine Wp.sa ?_
  obtain rfl:=oi h
  exact Wp.ret RetB
 refine Wp.sk ?_
 refine Wp.seq ?_
 refine Wp.sa ?_
 refine Wp.fg ⟨[(4,.b false),(47,.b (p0.fDrops != p1.fDrops))],[],[]⟩ ?_
 refine Wp.c2 h (fun h=>?_) (fun h=>?_)
 ·refine Wp.sa ?_
  obtain rfl:=oi h
  exact Wp.ret RetB
 refine Wp.sk ?_
 refine Wp.sa ?_
 obtain rfl:=oi h
 exact Wp.ret RetB
theorem laws_eqNodeS_ok {u p0 p1 r} (h:laws_eqNodeS u p0 p1=some r):CallOK Try.prog 28 [.one (.t (.sl 12 (p0.map Node.enc))),.one (.t (.sl 12 (p1.map Node.enc)))] (V.b r) []:=by
 unfold laws_eqNodeS at h
 refine ofb Try.f28 false ?_
 refine Wp.sa ?_
 refine Wp.seq ?_
 refine Wp.sr ?_
 refine Runs.ln 1 106 Node.enc p0 ?_
 refine Runs.ln 1 106 Node.enc p1 ?_
 refine Runs.alln ?_
 refine Wp.c2 h (fun h=>?_) (fun h=>?_)
 ·refine Wp.sa ?_
  obtain rfl:=oi h
  exact Wp.ret RetB
 refine Wp.sk ?_
 refine Wp.j0 (laws_eqNodeS_j1 u=some r) ⟨[(4,.b false)],[],[]⟩ (fun h=>?_) ?_
 ·refine Wp.sa ?_
  obtain rfl:=oi h
  exact Wp.ret RetB
 refine Wp.sa ?_
 refine Wp.block ?_
 refine Wp.l3 (fun k_laws_eqNodeS_l2 p0 p1 x2=>laws_eqNodeS_l2 u k_laws_eqNodeS_l2 p0 p1 x2=some r) (fun p0 p1 x2=>⟨[(0,.t (.sl 12 (p0.map Node.enc))),(1,.t (.sl 12 (p1.map Node.enc))),(4,.b false),(5,.i x2)],[],[]⟩) (fun k_laws_eqNodeS_l2 p0 p1 x2 h=>?_) h (lo []) (fun _ _ _  h=>nomatch h)
 rw [laws_eqNodeS_l2] at h
 refine Wp.seq ?_
 refine Wp.sr ?_
 refine Runs.ln 2 106 Node.enc p0 ?_
 refine Runs.alln ?_
 refine Wp.c2 h (fun h=>?_) (fun h=>?_)
 ·refine Wp.sk ?_
  refine Wp.seq ?_
  refine Wp.block ?_
  refine Wp.seq ?_
  refine Wp.regionA (pOf []) (rhoOf [(0,.frz),(1,.frz),(5,.frz),(17,.frz),(18,.frz),(19,.frz),(20,.frz),(21,.frz),(22,.frz),(23,.frz),(24,.frz),(25,.frz)]) kr kr ?_
  refine Runs.ix 2 106 12 Node.enc h (fun y4 h _=>?_)
  refine Runs.ix 3 106 12 Node.enc h (fun y5 h _=>?_)
  refine Runs.cl false 1 25 [.agg ((Node.enc y4).map .t),.agg ((Node.enc y5).map .t)] h (fun _=>laws_eqNode_ok) (fun r6 h=>?_)
  refine Runs.alln ?_
  refine Wp.c2 h (fun h=>?_) (fun h=>?_)
  ·refine Wp.sa ?_
   obtain rfl:=oi h
   exact Wp.ret RetB
  refine Wp.skip ?_
  refine blkN ?_
  refine thenN ?_
  refine Wp.rg [] [] ?_
  refine Runs.alln ?_
  exact ⟨_,_,_,h,lo []⟩
 refine Wp.exit ?_
 refine thenE ?_
 refine thenE ?_
 refine blkE ?_
 refine thenN ?_
 exact ⟨h,lo []⟩
theorem laws_eqRecord_ok {u p0 p1 r} (h:laws_eqRecord u p0 p1=some r):CallOK Try.prog 61 [V.g (Record.enc p0),V.g (Record.enc p1)] (V.b r) []:=by
 unfold laws_eqRecord at h
 refine ofb Try.f61 false ?_
 refine Wp.sa ?_
 refine Wp.seq ?_
 refine Wp.sa ?_
 refine Wp.c2 h (fun h=>?_) (fun h=>?_)
 ·refine Wp.sa ?_
  obtain rfl:=oi h
  exact Wp.ret RetB
 refine Wp.sk ?_
 refine Wp.seq ?_
 refine Wp.sa ?_
 refine Wp.c2 h (fun h=>?_) (fun h=>?_)
 ·refine Wp.sa ?_
  obtain rfl:=oi h
  exact Wp.ret RetB
 refine Wp.sk ?_
 refine Wp.seq ?_
 refine Wp.sa ?_
 refine Wp.c2 h (fun h=>?_) (fun h=>?_)
 ·refine Wp.sa ?_
  obtain rfl:=oi h
  exact Wp.ret RetB
 refine Wp.sk ?_
 refine Wp.sa ?_
 obtain rfl:=oi h
 exact Wp.ret RetB
theorem laws_eqPut_ok {u p0 p1 r} (h:laws_eqPut u p0 p1=some r):CallOK Try.prog 70 [V.g (Put.enc p0),V.g (Put.enc p1)] (V.b r) []:=by
 unfold laws_eqPut at h
 refine ofb Try.f70 false ?_
 refine Wp.sa ?_
 refine Wp.seq ?_
 refine Wp.sa ?_
 refine Wp.c2 h (fun h=>?_) (fun h=>?_)
 ·refine Wp.sa ?_
  obtain rfl:=oi h
  exact Wp.ret RetB
 refine Wp.sk ?_
 refine Wp.seq ?_
 refine Wp.sa ?_
 refine Wp.c2 h (fun h=>?_) (fun h=>?_)
 ·refine Wp.sa ?_
  obtain rfl:=oi h
  exact Wp.ret RetB
 refine Wp.sk ?_
 refine Wp.seq ?_
 refine Wp.cl false 4 19 [.s p0.fB,.s p1.fB] h (fun _=>laws_eqByteS_ok) (fun r1 h=>?_)
 refine Wp.c2 h (fun h=>?_) (fun h=>?_)
 ·refine Wp.sa ?_
  obtain rfl:=oi h
  exact Wp.ret RetB
 refine Wp.sk ?_
 refine Wp.seq ?_
 refine Wp.cl false 4 25 [.agg ((Record.enc p0.fR).map .t),.agg ((Record.enc p1.fR).map .t)] h (fun _=>laws_eqRecord_ok) (fun r2 h=>?_)
 refine Wp.c2 h (fun h=>?_) (fun h=>?_)
 ·refine Wp.sa ?_
  obtain rfl:=oi h
  exact Wp.ret RetB
 refine Wp.sk ?_
 refine Wp.sa ?_
 obtain rfl:=oi h
 exact Wp.ret RetB
theorem laws_eqPutS_ok {u p0 p1 r} (h:laws_eqPutS u p0 p1=some r):CallOK Try.prog 62 [.one (.t (.sl 6 (p0.map Put.enc))),.one (.t (.sl 6 (p1.map Put.enc)))] (V.b r) []:=by
 unfold laws_eqPutS at h
 refine ofb Try.f62 false ?_
 refine Wp.sa ?_
 refine Wp.seq ?_
 refine Wp.sr ?_
 refine Runs.ln 1 147 Put.enc p0 ?_
 refine Runs.ln 1 147 Put.enc p1 ?_
 refine Runs.alln ?_
 refine Wp.c2 h (fun h=>?_) (fun h=>?_)
 ·refine Wp.sa ?_
  obtain rfl:=oi h
  exact Wp.ret RetB
 refine Wp.sk ?_
 refine Wp.j0 (laws_eqPutS_j1 u=some r) ⟨[(4,.b false)],[],[]⟩ (fun h=>?_) ?_
 ·refine Wp.sa ?_
  obtain rfl:=oi h
  exact Wp.ret RetB
 refine Wp.sa ?_
 refine Wp.block ?_
 refine Wp.l3 (fun k_laws_eqPutS_l2 p0 p1 x2=>laws_eqPutS_l2 u k_laws_eqPutS_l2 p0 p1 x2=some r) (fun p0 p1 x2=>⟨[(0,.t (.sl 6 (p0.map Put.enc))),(1,.t (.sl 6 (p1.map Put.enc))),(4,.b false),(5,.i x2)],[],[]⟩) (fun k_laws_eqPutS_l2 p0 p1 x2 h=>?_) h (lo []) (fun _ _ _  h=>nomatch h)
 rw [laws_eqPutS_l2] at h
 refine Wp.seq ?_
 refine Wp.sr ?_
 refine Runs.ln 2 147 Put.enc p0 ?_
 refine Runs.alln ?_
 refine Wp.c2 h (fun h=>?_) (fun h=>?_)
 ·refine Wp.sk ?_
  refine Wp.seq ?_
  refine Wp.block ?_
  refine Wp.seq ?_
  refine Wp.regionA (pOf []) (rhoOf [(0,.frz),(1,.frz),(5,.frz),(17,.frz),(18,.frz),(19,.frz),(20,.frz),(21,.frz),(22,.frz),(23,.frz),(24,.frz),(25,.frz)]) kr kr ?_
  refine Runs.ix 2 147 6 Put.enc h (fun y4 h _=>?_)
  refine Runs.ix 3 147 6 Put.enc h (fun y5 h _=>?_)
  refine Runs.cl false 1 25 [.agg ((Put.enc y4).map .t),.agg ((Put.enc y5).map .t)] h (fun _=>laws_eqPut_ok) (fun r6 h=>?_)
  refine Runs.alln ?_
  refine Wp.c2 h (fun h=>?_) (fun h=>?_)
  ·refine Wp.sa ?_
   obtain rfl:=oi h
   exact Wp.ret RetB
  refine Wp.skip ?_
  refine blkN ?_
  refine thenN ?_
  refine Wp.rg [] [] ?_
  refine Runs.alln ?_
  exact ⟨_,_,_,h,lo []⟩
 refine Wp.exit ?_
 refine thenE ?_
 refine thenE ?_
 refine blkE ?_
 refine thenN ?_
 exact ⟨h,lo []⟩
theorem laws_eqDisk_ok {u p0 p1 r} (h:laws_eqDisk u p0 p1=some r):CallOK Try.prog 46 [V.g (Disk.enc p0),V.g (Disk.enc p1)] (V.b r) []:=by
 unfold laws_eqDisk at h
 refine ofb Try.f46 false ?_
 refine Wp.sa ?_
 refine Wp.seq ?_
 refine Wp.cl false 4 9 [.s p0.fA,.s p1.fA] h (fun _=>laws_eqByteS_ok) (fun r1 h=>?_)
 refine Wp.c2 h (fun h=>?_) (fun h=>?_)
 ·refine Wp.sa ?_
  obtain rfl:=oi h
  exact Wp.ret RetB
 refine Wp.sk ?_
 refine Wp.seq ?_
 refine Wp.cl false 4 15 [.s p0.fB,.s p1.fB] h (fun _=>laws_eqByteS_ok) (fun r2 h=>?_)
 refine Wp.c2 h (fun h=>?_) (fun h=>?_)
 ·refine Wp.sa ?_
  obtain rfl:=oi h
  exact Wp.ret RetB
 refine Wp.sk ?_
 refine Wp.seq ?_
 refine Wp.cl false 4 21 [.agg ((Record.enc p0.fR).map .t),.agg ((Record.enc p1.fR).map .t)] h (fun _=>laws_eqRecord_ok) (fun r3 h=>?_)
 refine Wp.c2 h (fun h=>?_) (fun h=>?_)
 ·refine Wp.sa ?_
  obtain rfl:=oi h
  exact Wp.ret RetB
 refine Wp.sk ?_
 refine Wp.seq ?_
 refine Wp.cl false 4 27 [.t (.sl 6 (p0.fP.map Put.enc)),.t (.sl 6 (p1.fP.map Put.enc))] h (fun _=>laws_eqPutS_ok) (fun r4 h=>?_)
 refine Wp.c2 h (fun h=>?_) (fun h=>?_)
 ·refine Wp.sa ?_
  obtain rfl:=oi h
  exact Wp.ret RetB
 refine Wp.sk ?_
 refine Wp.sa ?_
 obtain rfl:=oi h
 exact Wp.ret RetB
theorem laws_eqDiskS_ok {u p0 p1 r} (h:laws_eqDiskS u p0 p1=some r):CallOK Try.prog 29 [.one (.t (.sl 6 (p0.map Disk.enc))),.one (.t (.sl 6 (p1.map Disk.enc)))] (V.b r) []:=by
 unfold laws_eqDiskS at h
 refine ofb Try.f29 false ?_
 refine Wp.sa ?_
 refine Wp.seq ?_
 refine Wp.sr ?_
 refine Runs.ln 1 111 Disk.enc p0 ?_
 refine Runs.ln 1 111 Disk.enc p1 ?_
 refine Runs.alln ?_
 refine Wp.c2 h (fun h=>?_) (fun h=>?_)
 ·refine Wp.sa ?_
  obtain rfl:=oi h
  exact Wp.ret RetB
 refine Wp.sk ?_
 refine Wp.j0 (laws_eqDiskS_j1 u=some r) ⟨[(4,.b false)],[],[]⟩ (fun h=>?_) ?_
 ·refine Wp.sa ?_
  obtain rfl:=oi h
  exact Wp.ret RetB
 refine Wp.sa ?_
 refine Wp.block ?_
 refine Wp.l3 (fun k_laws_eqDiskS_l2 p0 p1 x2=>laws_eqDiskS_l2 u k_laws_eqDiskS_l2 p0 p1 x2=some r) (fun p0 p1 x2=>⟨[(0,.t (.sl 6 (p0.map Disk.enc))),(1,.t (.sl 6 (p1.map Disk.enc))),(4,.b false),(5,.i x2)],[],[]⟩) (fun k_laws_eqDiskS_l2 p0 p1 x2 h=>?_) h (lo []) (fun _ _ _  h=>nomatch h)
 rw [laws_eqDiskS_l2] at h
 refine Wp.seq ?_
 refine Wp.sr ?_
 refine Runs.ln 2 111 Disk.enc p0 ?_
 refine Runs.alln ?_
 refine Wp.c2 h (fun h=>?_) (fun h=>?_)
 ·refine Wp.sk ?_
  refine Wp.seq ?_
  refine Wp.block ?_
  refine Wp.seq ?_
  refine Wp.regionA (pOf []) (rhoOf [(0,.frz),(1,.frz),(5,.frz),(17,.frz),(18,.frz),(19,.frz),(20,.frz),(21,.frz),(22,.frz),(23,.frz),(24,.frz),(25,.frz)]) kr kr ?_
  refine Runs.ix 2 111 6 Disk.enc h (fun y4 h _=>?_)
  refine Runs.ix 3 111 6 Disk.enc h (fun y5 h _=>?_)
  refine Runs.cl false 1 25 [.agg ((Disk.enc y4).map .t),.agg ((Disk.enc y5).map .t)] h (fun _=>laws_eqDisk_ok) (fun r6 h=>?_)
  refine Runs.alln ?_
  refine Wp.c2 h (fun h=>?_) (fun h=>?_)
  ·refine Wp.sa ?_
   obtain rfl:=oi h
   exact Wp.ret RetB
  refine Wp.skip ?_
  refine blkN ?_
  refine thenN ?_
  refine Wp.rg [] [] ?_
  refine Runs.alln ?_
  exact ⟨_,_,_,h,lo []⟩
 refine Wp.exit ?_
 refine thenE ?_
 refine thenE ?_
 refine blkE ?_
 refine thenN ?_
 exact ⟨h,lo []⟩
theorem laws_eqPacket_ok {u p0 p1 r} (h:laws_eqPacket u p0 p1=some r):CallOK Try.prog 47 [V.g (Packet.enc p0),V.g (Packet.enc p1)] (V.b r) []:=by
 unfold laws_eqPacket at h
 refine ofb Try.f47 false ?_
 refine Wp.sa ?_
 refine Wp.seq ?_
 refine Wp.sa ?_
 refine Wp.c2 h (fun h=>?_) (fun h=>?_)
 ·refine Wp.sa ?_
  obtain rfl:=oi h
  exact Wp.ret RetB
 refine Wp.sk ?_
 refine Wp.seq ?_
 refine Wp.sa ?_
 refine Wp.c2 h (fun h=>?_) (fun h=>?_)
 ·refine Wp.sa ?_
  obtain rfl:=oi h
  exact Wp.ret RetB
 refine Wp.sk ?_
 refine Wp.seq ?_
 refine Wp.cl false 4 19 [.s p0.fB,.s p1.fB] h (fun _=>laws_eqByteS_ok) (fun r1 h=>?_)
 refine Wp.c2 h (fun h=>?_) (fun h=>?_)
 ·refine Wp.sa ?_
  obtain rfl:=oi h
  exact Wp.ret RetB
 refine Wp.sk ?_
 refine Wp.sa ?_
 obtain rfl:=oi h
 exact Wp.ret RetB
theorem laws_eqPacketS_ok {u p0 p1 r} (h:laws_eqPacketS u p0 p1=some r):CallOK Try.prog 30 [.one (.t (.sl 3 (p0.map Packet.enc))),.one (.t (.sl 3 (p1.map Packet.enc)))] (V.b r) []:=by
 unfold laws_eqPacketS at h
 refine ofb Try.f30 false ?_
 refine Wp.sa ?_
 refine Wp.seq ?_
 refine Wp.sr ?_
 refine Runs.ln 1 113 Packet.enc p0 ?_
 refine Runs.ln 1 113 Packet.enc p1 ?_
 refine Runs.alln ?_
 refine Wp.c2 h (fun h=>?_) (fun h=>?_)
 ·refine Wp.sa ?_
  obtain rfl:=oi h
  exact Wp.ret RetB
 refine Wp.sk ?_
 refine Wp.j0 (laws_eqPacketS_j1 u=some r) ⟨[(4,.b false)],[],[]⟩ (fun h=>?_) ?_
 ·refine Wp.sa ?_
  obtain rfl:=oi h
  exact Wp.ret RetB
 refine Wp.sa ?_
 refine Wp.block ?_
 refine Wp.l3 (fun k_laws_eqPacketS_l2 p0 p1 x2=>laws_eqPacketS_l2 u k_laws_eqPacketS_l2 p0 p1 x2=some r) (fun p0 p1 x2=>⟨[(0,.t (.sl 3 (p0.map Packet.enc))),(1,.t (.sl 3 (p1.map Packet.enc))),(4,.b false),(5,.i x2)],[],[]⟩) (fun k_laws_eqPacketS_l2 p0 p1 x2 h=>?_) h (lo []) (fun _ _ _  h=>nomatch h)
 rw [laws_eqPacketS_l2] at h
 refine Wp.seq ?_
 refine Wp.sr ?_
 refine Runs.ln 2 113 Packet.enc p0 ?_
 refine Runs.alln ?_
 refine Wp.c2 h (fun h=>?_) (fun h=>?_)
 ·refine Wp.sk ?_
  refine Wp.seq ?_
  refine Wp.block ?_
  refine Wp.seq ?_
  refine Wp.regionA (pOf []) (rhoOf [(0,.frz),(1,.frz),(5,.frz),(17,.frz),(18,.frz),(19,.frz),(20,.frz),(21,.frz),(22,.frz),(23,.frz),(24,.frz),(25,.frz)]) kr kr ?_
  refine Runs.ix 2 113 3 Packet.enc h (fun y4 h _=>?_)
  refine Runs.ix 3 113 3 Packet.enc h (fun y5 h _=>?_)
  refine Runs.cl false 1 25 [.agg ((Packet.enc y4).map .t),.agg ((Packet.enc y5).map .t)] h (fun _=>laws_eqPacket_ok) (fun r6 h=>?_)
  refine Runs.alln ?_
  refine Wp.c2 h (fun h=>?_) (fun h=>?_)
  ·refine Wp.sa ?_
   obtain rfl:=oi h
   exact Wp.ret RetB
  refine Wp.skip ?_
  refine blkN ?_
  refine thenN ?_
  refine Wp.rg [] [] ?_
  refine Runs.alln ?_
  exact ⟨_,_,_,h,lo []⟩
 refine Wp.exit ?_
 refine thenE ?_
 refine thenE ?_
 refine blkE ?_
 refine thenN ?_
 exact ⟨h,lo []⟩
theorem laws_eqSent_ok {u p0 p1 r} (h:laws_eqSent u p0 p1=some r):CallOK Try.prog 48 [V.g (Sent.enc p0),V.g (Sent.enc p1)] (V.b r) []:=by
 unfold laws_eqSent at h
 refine ofb Try.f48 false ?_
 refine Wp.sa ?_
 refine Wp.seq ?_
 refine Wp.sa ?_
 refine Wp.c2 h (fun h=>?_) (fun h=>?_)
 ·refine Wp.sa ?_
  obtain rfl:=oi h
  exact Wp.ret RetB
 refine Wp.sk ?_
 refine Wp.seq ?_
 refine Wp.sa ?_
 refine Wp.c2 h (fun h=>?_) (fun h=>?_)
 ·refine Wp.sa ?_
  obtain rfl:=oi h
  exact Wp.ret RetB
 refine Wp.sk ?_
 refine Wp.seq ?_
 refine Wp.sa ?_
 refine Wp.c2 h (fun h=>?_) (fun h=>?_)
 ·refine Wp.sa ?_
  obtain rfl:=oi h
  exact Wp.ret RetB
 refine Wp.sk ?_
 refine Wp.sa ?_
 obtain rfl:=oi h
 exact Wp.ret RetB
theorem laws_eqSentS_ok {u p0 p1 r} (h:laws_eqSentS u p0 p1=some r):CallOK Try.prog 31 [.one (.t (.sl 3 (p0.map Sent.enc))),.one (.t (.sl 3 (p1.map Sent.enc)))] (V.b r) []:=by
 unfold laws_eqSentS at h
 refine ofb Try.f31 false ?_
 refine Wp.sa ?_
 refine Wp.seq ?_
 refine Wp.sr ?_
 refine Runs.ln 1 57 Sent.enc p0 ?_
 refine Runs.ln 1 57 Sent.enc p1 ?_
 refine Runs.alln ?_
 refine Wp.c2 h (fun h=>?_) (fun h=>?_)
 ·refine Wp.sa ?_
  obtain rfl:=oi h
  exact Wp.ret RetB
 refine Wp.sk ?_
 refine Wp.j0 (laws_eqSentS_j1 u=some r) ⟨[(4,.b false)],[],[]⟩ (fun h=>?_) ?_
 ·refine Wp.sa ?_
  obtain rfl:=oi h
  exact Wp.ret RetB
 refine Wp.sa ?_
 refine Wp.block ?_
 refine Wp.l3 (fun k_laws_eqSentS_l2 p0 p1 x2=>laws_eqSentS_l2 u k_laws_eqSentS_l2 p0 p1 x2=some r) (fun p0 p1 x2=>⟨[(0,.t (.sl 3 (p0.map Sent.enc))),(1,.t (.sl 3 (p1.map Sent.enc))),(4,.b false),(5,.i x2)],[],[]⟩) (fun k_laws_eqSentS_l2 p0 p1 x2 h=>?_) h (lo []) (fun _ _ _  h=>nomatch h)
 rw [laws_eqSentS_l2] at h
 refine Wp.seq ?_
 refine Wp.sr ?_
 refine Runs.ln 2 57 Sent.enc p0 ?_
 refine Runs.alln ?_
 refine Wp.c2 h (fun h=>?_) (fun h=>?_)
 ·refine Wp.sk ?_
  refine Wp.seq ?_
  refine Wp.block ?_
  refine Wp.seq ?_
  refine Wp.regionA (pOf []) (rhoOf [(0,.frz),(1,.frz),(5,.frz),(17,.frz),(18,.frz),(19,.frz),(20,.frz),(21,.frz),(22,.frz),(23,.frz),(24,.frz),(25,.frz)]) kr kr ?_
  refine Runs.ix 2 57 3 Sent.enc h (fun y4 h _=>?_)
  refine Runs.ix 3 57 3 Sent.enc h (fun y5 h _=>?_)
  refine Runs.cl false 1 25 [.agg ((Sent.enc y4).map .t),.agg ((Sent.enc y5).map .t)] h (fun _=>laws_eqSent_ok) (fun r6 h=>?_)
  refine Runs.alln ?_
  refine Wp.c2 h (fun h=>?_) (fun h=>?_)
  ·refine Wp.sa ?_
   obtain rfl:=oi h
   exact Wp.ret RetB
  refine Wp.skip ?_
  refine blkN ?_
  refine thenN ?_
  refine Wp.rg [] [] ?_
  refine Runs.alln ?_
  exact ⟨_,_,_,h,lo []⟩
 refine Wp.exit ?_
 refine thenE ?_
 refine thenE ?_
 refine blkE ?_
 refine thenN ?_
 exact ⟨h,lo []⟩
theorem laws_eqWorld_ok {u p0 p1 r} (h:laws_eqWorld u p0 p1=some r):CallOK Try.prog 8 [V.g (World.enc p0),V.g (World.enc p1)] (V.b r) []:=by
 unfold laws_eqWorld at h
 refine ofb Try.f8 false ?_
 refine Wp.sa ?_
 refine Wp.seq ?_
 refine Wp.cl false 4 9 [.agg ((Conf.enc p0.fC).map .t),.agg ((Conf.enc p1.fC).map .t)] h (fun _=>laws_eqConf_ok) (fun r1 h=>?_)
 refine Wp.c2 h (fun h=>?_) (fun h=>?_)
 ·refine Wp.sa ?_
  obtain rfl:=oi h
  exact Wp.ret RetB
 refine Wp.sk ?_
 refine Wp.seq ?_
 refine Wp.cl false 4 15 [.agg [.t (.sl 1 (p0.fT.fUp.map (eInt .i64)))],.agg [.t (.sl 1 (p1.fT.fUp.map (eInt .i64)))]] h (fun _=>laws_eqTree_ok) (fun r2 h=>?_)
 refine Wp.c2 h (fun h=>?_) (fun h=>?_)
 ·refine Wp.sa ?_
  obtain rfl:=oi h
  exact Wp.ret RetB
 refine Wp.sk ?_
 refine Wp.seq ?_
 refine Wp.cl false 4 21 [.s p0.fNew,.s p1.fNew] h (fun _=>laws_eqByteS_ok) (fun r3 h=>?_)
 refine Wp.c2 h (fun h=>?_) (fun h=>?_)
 ·refine Wp.sa ?_
  obtain rfl:=oi h
  exact Wp.ret RetB
 refine Wp.sk ?_
 refine Wp.seq ?_
 refine Wp.cl false 4 27 [.t (.sl 1 (p0.fOld.map Image.enc)),.t (.sl 1 (p1.fOld.map Image.enc))] h (fun _=>laws_eqImageS_ok) (fun r4 h=>?_)
 refine Wp.c2 h (fun h=>?_) (fun h=>?_)
 ·refine Wp.sa ?_
  obtain rfl:=oi h
  exact Wp.ret RetB
 refine Wp.sk ?_
 refine Wp.seq ?_
 refine Wp.cl false 4 33 [.t (.sl 12 (p0.fN.map Node.enc)),.t (.sl 12 (p1.fN.map Node.enc))] h (fun _=>laws_eqNodeS_ok) (fun r5 h=>?_)
 refine Wp.c2 h (fun h=>?_) (fun h=>?_)
 ·refine Wp.sa ?_
  obtain rfl:=oi h
  exact Wp.ret RetB
 refine Wp.sk ?_
 refine Wp.seq ?_
 refine Wp.cl false 4 39 [.t (.sl 6 (p0.fD.map Disk.enc)),.t (.sl 6 (p1.fD.map Disk.enc))] h (fun _=>laws_eqDiskS_ok) (fun r6 h=>?_)
 refine Wp.c2 h (fun h=>?_) (fun h=>?_)
 ·refine Wp.sa ?_
  obtain rfl:=oi h
  exact Wp.ret RetB
 refine Wp.sk ?_
 refine Wp.seq ?_
 refine Wp.cl false 4 45 [.t (.sl 3 (p0.fNet.map Packet.enc)),.t (.sl 3 (p1.fNet.map Packet.enc))] h (fun _=>laws_eqPacketS_ok) (fun r7 h=>?_)
 refine Wp.c2 h (fun h=>?_) (fun h=>?_)
 ·refine Wp.sa ?_
  obtain rfl:=oi h
  exact Wp.ret RetB
 refine Wp.sk ?_
 refine Wp.seq ?_
 refine Wp.cl false 4 51 [.t (.sl 3 (p0.fLog.map Sent.enc)),.t (.sl 3 (p1.fLog.map Sent.enc))] h (fun _=>laws_eqSentS_ok) (fun r8 h=>?_)
 refine Wp.fg ⟨[(2,.obj 2 0),(3,.obj 3 0),(4,.b false),(52,.b (!r8))],[(2,((World.enc p0).map .t)),(3,((World.enc p1).map .t))],[]⟩ ?_
 refine Wp.c2 h (fun h=>?_) (fun h=>?_)
 ·refine Wp.sa ?_
  obtain rfl:=oi h
  exact Wp.ret RetB
 refine Wp.sk ?_
 refine Wp.seq ?_
 refine Wp.sa ?_
 refine Wp.c2 h (fun h=>?_) (fun h=>?_)
 ·refine Wp.sa ?_
  obtain rfl:=oi h
  exact Wp.ret RetB
 refine Wp.sk ?_
 refine Wp.sa ?_
 obtain rfl:=oi h
 exact Wp.ret RetB
theorem laws_FnExactTwiceOver_ok {u p0 r} (h:laws_FnExactTwiceOver u p0=some r):CallOK Try.prog 3 [V.g (World.enc p0)] (V.b r) []:=by
 unfold laws_FnExactTwiceOver at h
 refine ofb Try.f3 false ?_
 refine Wp.sa ?_
 refine Wp.sa ?_
 refine Wp.cl false 2 9 [.agg ((World.enc p0).map .t),.i 1048576] h (fun _=>laws_szWorld_ok) (fun r1 h=>?_)
 refine Wp.seq ?_
 refine Wp.sa ?_
 refine Wp.c2 h (fun h=>?_) (fun h=>?_)
 ·refine Wp.sa ?_
  obtain rfl:=oi h
  exact Wp.ret RetB
 refine Wp.sk ?_
 refine Wp.sr ?_
 refine Runs.cl false 1 13 [.agg ((World.enc p0).map .t)] h (fun _=>laws_toWorld_ok) (fun r2 h=>?_)
 refine Runs.cb 0 14 [.agg [.i r2.fC.fSize,.i r2.fC.fWindow,.i r2.fC.fSuspect,.i r2.fC.fForget,.own 851972,.own 851973,.own 851974,.own 851975,.own 851976,.own 851977,.own 851978,.i r2.fLost]] h (fun _=>spec_TwiceOver_ok) (fun r3 h=>?_)
 refine Runs.alln ?_
 refine Wp.cl false 1 16 [.agg ((World.enc p0).map .t)] h (fun _=>laws_toWorld_ok) (fun r4 h=>?_)
 refine Wp.sr ?_
 refine Runs.cb 1 18 [.agg [.i r4.fC.fSize,.i r4.fC.fWindow,.i r4.fC.fSuspect,.i r4.fC.fForget,.own 1048580,.own 1048581,.own 1048582,.own 1048583,.own 1048584,.own 1048585,.own 1048586,.i r4.fLost]] h (fun _=>impl_TwiceOver_ok) (fun r5 h=>?_)
 refine Runs.alln ?_
 refine Wp.seq ?_
 refine Wp.sa ?_
 refine Wp.c2 h (fun h=>?_) (fun h=>?_)
 ·refine Wp.sa ?_
  obtain rfl:=oi h
  exact Wp.ret RetB
 refine Wp.sk ?_
 refine Wp.seq ?_
 refine Wp.seq ?_
 refine Wp.le (Le.trans (Le.frzO 5 4 1048580 3 1 [.i r4.fC.fSize,.i r4.fC.fWindow,.i r4.fC.fSuspect,.i r4.fC.fForget,.own 1048580,.own 1048581,.own 1048582,.own 1048583,.own 1048584,.own 1048585,.own 1048586,.i r4.fLost] (r4.fT.fUp.map (eInt .i64)) kr kr kr) (Le.trans (Le.frzO 5 5 1048581 5 1 [.i r4.fC.fSize,.i r4.fC.fWindow,.i r4.fC.fSuspect,.i r4.fC.fForget,.t (.sl 1 (r4.fT.fUp.map (eInt .i64))),.own 1048581,.own 1048582,.own 1048583,.own 1048584,.own 1048585,.own 1048586,.i r4.fLost] (r4.fNew.map (eInt .u8)) kr kr kr) (Le.trans (Le.frzO 5 6 1048582 98 1 [.i r4.fC.fSize,.i r4.fC.fWindow,.i r4.fC.fSuspect,.i r4.fC.fForget,.t (.sl 1 (r4.fT.fUp.map (eInt .i64))),.s r4.fNew,.own 1048582,.own 1048583,.own 1048584,.own 1048585,.own 1048586,.i r4.fLost] (r4.fOld.map Image.enc) kr kr kr) (Le.trans (Le.frzO 5 7 1048583 106 12 [.i r4.fC.fSize,.i r4.fC.fWindow,.i r4.fC.fSuspect,.i r4.fC.fForget,.t (.sl 1 (r4.fT.fUp.map (eInt .i64))),.s r4.fNew,.t (.sl 1 (r4.fOld.map Image.enc)),.own 1048583,.own 1048584,.own 1048585,.own 1048586,.i r4.fLost] (r4.fN.map Node.enc) kr kr kr) (Le.trans (Le.frzO 5 8 1048584 111 6 [.i r4.fC.fSize,.i r4.fC.fWindow,.i r4.fC.fSuspect,.i r4.fC.fForget,.t (.sl 1 (r4.fT.fUp.map (eInt .i64))),.s r4.fNew,.t (.sl 1 (r4.fOld.map Image.enc)),.t (.sl 12 (r4.fN.map Node.enc)),.own 1048584,.own 1048585,.own 1048586,.i r4.fLost] (r4.fD.map Disk.enc) kr kr kr) (Le.trans (Le.frzO 5 9 1048585 113 3 [.i r4.fC.fSize,.i r4.fC.fWindow,.i r4.fC.fSuspect,.i r4.fC.fForget,.t (.sl 1 (r4.fT.fUp.map (eInt .i64))),.s r4.fNew,.t (.sl 1 (r4.fOld.map Image.enc)),.t (.sl 12 (r4.fN.map Node.enc)),.t (.sl 6 (r4.fD.map Disk.enc)),.own 1048585,.own 1048586,.i r4.fLost] (r4.fNet.map Packet.enc) kr kr kr) (Le.frzO 5 10 1048586 57 3 [.i r4.fC.fSize,.i r4.fC.fWindow,.i r4.fC.fSuspect,.i r4.fC.fForget,.t (.sl 1 (r4.fT.fUp.map (eInt .i64))),.s r4.fNew,.t (.sl 1 (r4.fOld.map Image.enc)),.t (.sl 12 (r4.fN.map Node.enc)),.t (.sl 6 (r4.fD.map Disk.enc)),.t (.sl 3 (r4.fNet.map Packet.enc)),.own 1048586,.i r4.fLost] (r4.fLog.map Sent.enc) kr kr kr))))))) ?_
 refine Wp.regionA (pOf []) (rhoOf [(1,.obj 1),(5,.obj 5),(22,.frz),(23,.frz),(24,.own 24),(25,.frz)]) kr kr ?_
 refine Runs.cl false 2 24 [.agg ((World.enc p0).map .t)] h (fun _=>laws_toWorld_ok) (fun r6 h=>?_)
 refine Runs.cb 0 25 [.agg ((World.enc r4).map .t),.agg [.i r6.fC.fSize,.i r6.fC.fWindow,.i r6.fC.fSuspect,.i r6.fC.fForget,.own 1572868,.own 1572869,.own 1572870,.own 1572871,.own 1572872,.own 1572873,.own 1572874,.i r6.fLost]] h (fun _=>laws_eqWorld_ok) (fun r7 h=>?_)
 refine Runs.alln ?_
 refine Wp.fg ⟨[(2,.b false),(26,.b (!r7))],[],[]⟩ ?_
 refine Wp.c2 h (fun h=>?_) (fun h=>?_)
 ·refine Wp.sa ?_
  obtain rfl:=oi h
  exact Wp.ret RetB
 refine Wp.sk ?_
 refine Wp.sa ?_
 obtain rfl:=oi h
 exact Wp.ret RetB
end Go.Tm
