/- The functions as they are translated do what the pure functions say (printed). -/
import Derived.Test.YthofgdapoklllaaCFnCommitsD
import Derived.Test.YthofgdapoklllaaProg
set_option maxRecDepth 100000
set_option maxHeartbeats 20000000
set_option linter.unusedVariables false
set_option linter.unusedSimpArgs false
namespace Go.Tm
open Go.Proofs
section
variable {P:Program} {n:Nat} {ls:List Nat} {Q:Exit→St→Prop} {st:St} {y:Code}
theorem Wp.j0 {x:Code} (G:Prop) (S:Sx) (J:G→Wp P n ls y Q (S).st) (h:Wp P n ls x (thenQ (fun st=>G∧Le n ls st (S).st) Q) st):Wp P n ls (.seq x y) Q st :=
 Wp.seqJ (α:=Unit) (fun q=>S) (fun q=>G) (fun q h=>J h) (h.mono fun e st' hq=>by
  cases e with
  | normal=>obtain ⟨h1,h2⟩:=hq; exact ⟨(),h1,h2⟩
  | _=>exact hq)
theorem Wp.j1 {α0:Type} {x:Code} (G:α0→Prop) (S:α0→Sx) (J:∀ v0,G v0→Wp P n ls y Q (S v0).st) (h:Wp P n ls x (thenQ (fun st=>∃ v0,G v0∧Le n ls st (S v0).st) Q) st):Wp P n ls (.seq x y) Q st :=
 Wp.seqJ (α:=α0) (fun q=>S q) (fun q=>G q) (fun q h=>J q h) (h.mono fun e st' hq=>by
  cases e with
  | normal=>obtain ⟨v0,h1,h2⟩:=hq; exact ⟨v0,h1,h2⟩
  | _=>exact hq)
theorem Wp.j2 {α0 α1:Type} {x:Code} (G:α0→α1→Prop) (S:α0→α1→Sx) (J:∀ v0 v1,G v0 v1→Wp P n ls y Q (S v0 v1).st) (h:Wp P n ls x (thenQ (fun st=>∃ v0 v1,G v0 v1∧Le n ls st (S v0 v1).st) Q) st):Wp P n ls (.seq x y) Q st :=
 Wp.seqJ (α:=α0×α1) (fun q=>S q.1 q.2) (fun q=>G q.1 q.2) (fun q h=>J q.1 q.2 h) (h.mono fun e st' hq=>by
  cases e with
  | normal=>obtain ⟨v0,v1,h1,h2⟩:=hq; exact ⟨(v0,v1),h1,h2⟩
  | _=>exact hq)
theorem Wp.j3 {α0 α1 α2:Type} {x:Code} (G:α0→α1→α2→Prop) (S:α0→α1→α2→Sx) (J:∀ v0 v1 v2,G v0 v1 v2→Wp P n ls y Q (S v0 v1 v2).st) (h:Wp P n ls x (thenQ (fun st=>∃ v0 v1 v2,G v0 v1 v2∧Le n ls st (S v0 v1 v2).st) Q) st):Wp P n ls (.seq x y) Q st :=
 Wp.seqJ (α:=α0×α1×α2) (fun q=>S q.1 q.2.1 q.2.2) (fun q=>G q.1 q.2.1 q.2.2) (fun q h=>J q.1 q.2.1 q.2.2 h) (h.mono fun e st' hq=>by
  cases e with
  | normal=>obtain ⟨v0,v1,v2,h1,h2⟩:=hq; exact ⟨(v0,v1,v2),h1,h2⟩
  | _=>exact hq)
theorem Wp.j4 {α0 α1 α2 α3:Type} {x:Code} (G:α0→α1→α2→α3→Prop) (S:α0→α1→α2→α3→Sx) (J:∀ v0 v1 v2 v3,G v0 v1 v2 v3→Wp P n ls y Q (S v0 v1 v2 v3).st) (h:Wp P n ls x (thenQ (fun st=>∃ v0 v1 v2 v3,G v0 v1 v2 v3∧Le n ls st (S v0 v1 v2 v3).st) Q) st):Wp P n ls (.seq x y) Q st :=
 Wp.seqJ (α:=α0×α1×α2×α3) (fun q=>S q.1 q.2.1 q.2.2.1 q.2.2.2) (fun q=>G q.1 q.2.1 q.2.2.1 q.2.2.2) (fun q h=>J q.1 q.2.1 q.2.2.1 q.2.2.2 h) (h.mono fun e st' hq=>by
  cases e with
  | normal=>obtain ⟨v0,v1,v2,v3,h1,h2⟩:=hq; exact ⟨(v0,v1,v2,v3),h1,h2⟩
  | _=>exact hq)
theorem Wp.j5 {α0 α1 α2 α3 α4:Type} {x:Code} (G:α0→α1→α2→α3→α4→Prop) (S:α0→α1→α2→α3→α4→Sx) (J:∀ v0 v1 v2 v3 v4,G v0 v1 v2 v3 v4→Wp P n ls y Q (S v0 v1 v2 v3 v4).st) (h:Wp P n ls x (thenQ (fun st=>∃ v0 v1 v2 v3 v4,G v0 v1 v2 v3 v4∧Le n ls st (S v0 v1 v2 v3 v4).st) Q) st):Wp P n ls (.seq x y) Q st :=
 Wp.seqJ (α:=α0×α1×α2×α3×α4) (fun q=>S q.1 q.2.1 q.2.2.1 q.2.2.2.1 q.2.2.2.2) (fun q=>G q.1 q.2.1 q.2.2.1 q.2.2.2.1 q.2.2.2.2) (fun q h=>J q.1 q.2.1 q.2.2.1 q.2.2.2.1 q.2.2.2.2 h) (h.mono fun e st' hq=>by
  cases e with
  | normal=>obtain ⟨v0,v1,v2,v3,v4,h1,h2⟩:=hq; exact ⟨(v0,v1,v2,v3,v4),h1,h2⟩
  | _=>exact hq)
theorem Wp.j6 {α0 α1 α2 α3 α4 α5:Type} {x:Code} (G:α0→α1→α2→α3→α4→α5→Prop) (S:α0→α1→α2→α3→α4→α5→Sx) (J:∀ v0 v1 v2 v3 v4 v5,G v0 v1 v2 v3 v4 v5→Wp P n ls y Q (S v0 v1 v2 v3 v4 v5).st) (h:Wp P n ls x (thenQ (fun st=>∃ v0 v1 v2 v3 v4 v5,G v0 v1 v2 v3 v4 v5∧Le n ls st (S v0 v1 v2 v3 v4 v5).st) Q) st):Wp P n ls (.seq x y) Q st :=
 Wp.seqJ (α:=α0×α1×α2×α3×α4×α5) (fun q=>S q.1 q.2.1 q.2.2.1 q.2.2.2.1 q.2.2.2.2.1 q.2.2.2.2.2) (fun q=>G q.1 q.2.1 q.2.2.1 q.2.2.2.1 q.2.2.2.2.1 q.2.2.2.2.2) (fun q h=>J q.1 q.2.1 q.2.2.1 q.2.2.2.1 q.2.2.2.2.1 q.2.2.2.2.2 h) (h.mono fun e st' hq=>by
  cases e with
  | normal=>obtain ⟨v0,v1,v2,v3,v4,v5,h1,h2⟩:=hq; exact ⟨(v0,v1,v2,v3,v4,v5),h1,h2⟩
  | _=>exact hq)
theorem Wp.j8 {α0 α1 α2 α3 α4 α5 α6 α7:Type} {x:Code} (G:α0→α1→α2→α3→α4→α5→α6→α7→Prop) (S:α0→α1→α2→α3→α4→α5→α6→α7→Sx) (J:∀ v0 v1 v2 v3 v4 v5 v6 v7,G v0 v1 v2 v3 v4 v5 v6 v7→Wp P n ls y Q (S v0 v1 v2 v3 v4 v5 v6 v7).st) (h:Wp P n ls x (thenQ (fun st=>∃ v0 v1 v2 v3 v4 v5 v6 v7,G v0 v1 v2 v3 v4 v5 v6 v7∧Le n ls st (S v0 v1 v2 v3 v4 v5 v6 v7).st) Q) st):Wp P n ls (.seq x y) Q st :=
 Wp.seqJ (α:=α0×α1×α2×α3×α4×α5×α6×α7) (fun q=>S q.1 q.2.1 q.2.2.1 q.2.2.2.1 q.2.2.2.2.1 q.2.2.2.2.2.1 q.2.2.2.2.2.2.1 q.2.2.2.2.2.2.2) (fun q=>G q.1 q.2.1 q.2.2.1 q.2.2.2.1 q.2.2.2.2.1 q.2.2.2.2.2.1 q.2.2.2.2.2.2.1 q.2.2.2.2.2.2.2) (fun q h=>J q.1 q.2.1 q.2.2.1 q.2.2.2.1 q.2.2.2.2.1 q.2.2.2.2.2.1 q.2.2.2.2.2.2.1 q.2.2.2.2.2.2.2 h) (h.mono fun e st' hq=>by
  cases e with
  | normal=>obtain ⟨v0,v1,v2,v3,v4,v5,v6,v7,h1,h2⟩:=hq; exact ⟨(v0,v1,v2,v3,v4,v5,v6,v7),h1,h2⟩
  | _=>exact hq)
theorem Wp.j9 {α0 α1 α2 α3 α4 α5 α6 α7 α8:Type} {x:Code} (G:α0→α1→α2→α3→α4→α5→α6→α7→α8→Prop) (S:α0→α1→α2→α3→α4→α5→α6→α7→α8→Sx) (J:∀ v0 v1 v2 v3 v4 v5 v6 v7 v8,G v0 v1 v2 v3 v4 v5 v6 v7 v8→Wp P n ls y Q (S v0 v1 v2 v3 v4 v5 v6 v7 v8).st) (h:Wp P n ls x (thenQ (fun st=>∃ v0 v1 v2 v3 v4 v5 v6 v7 v8,G v0 v1 v2 v3 v4 v5 v6 v7 v8∧Le n ls st (S v0 v1 v2 v3 v4 v5 v6 v7 v8).st) Q) st):Wp P n ls (.seq x y) Q st :=
 Wp.seqJ (α:=α0×α1×α2×α3×α4×α5×α6×α7×α8) (fun q=>S q.1 q.2.1 q.2.2.1 q.2.2.2.1 q.2.2.2.2.1 q.2.2.2.2.2.1 q.2.2.2.2.2.2.1 q.2.2.2.2.2.2.2.1 q.2.2.2.2.2.2.2.2) (fun q=>G q.1 q.2.1 q.2.2.1 q.2.2.2.1 q.2.2.2.2.1 q.2.2.2.2.2.1 q.2.2.2.2.2.2.1 q.2.2.2.2.2.2.2.1 q.2.2.2.2.2.2.2.2) (fun q h=>J q.1 q.2.1 q.2.2.1 q.2.2.2.1 q.2.2.2.2.1 q.2.2.2.2.2.1 q.2.2.2.2.2.2.1 q.2.2.2.2.2.2.2.1 q.2.2.2.2.2.2.2.2 h) (h.mono fun e st' hq=>by
  cases e with
  | normal=>obtain ⟨v0,v1,v2,v3,v4,v5,v6,v7,v8,h1,h2⟩:=hq; exact ⟨(v0,v1,v2,v3,v4,v5,v6,v7,v8),h1,h2⟩
  | _=>exact hq)
theorem Wp.j10 {α0 α1 α2 α3 α4 α5 α6 α7 α8 α9:Type} {x:Code} (G:α0→α1→α2→α3→α4→α5→α6→α7→α8→α9→Prop) (S:α0→α1→α2→α3→α4→α5→α6→α7→α8→α9→Sx) (J:∀ v0 v1 v2 v3 v4 v5 v6 v7 v8 v9,G v0 v1 v2 v3 v4 v5 v6 v7 v8 v9→Wp P n ls y Q (S v0 v1 v2 v3 v4 v5 v6 v7 v8 v9).st) (h:Wp P n ls x (thenQ (fun st=>∃ v0 v1 v2 v3 v4 v5 v6 v7 v8 v9,G v0 v1 v2 v3 v4 v5 v6 v7 v8 v9∧Le n ls st (S v0 v1 v2 v3 v4 v5 v6 v7 v8 v9).st) Q) st):Wp P n ls (.seq x y) Q st :=
 Wp.seqJ (α:=α0×α1×α2×α3×α4×α5×α6×α7×α8×α9) (fun q=>S q.1 q.2.1 q.2.2.1 q.2.2.2.1 q.2.2.2.2.1 q.2.2.2.2.2.1 q.2.2.2.2.2.2.1 q.2.2.2.2.2.2.2.1 q.2.2.2.2.2.2.2.2.1 q.2.2.2.2.2.2.2.2.2) (fun q=>G q.1 q.2.1 q.2.2.1 q.2.2.2.1 q.2.2.2.2.1 q.2.2.2.2.2.1 q.2.2.2.2.2.2.1 q.2.2.2.2.2.2.2.1 q.2.2.2.2.2.2.2.2.1 q.2.2.2.2.2.2.2.2.2) (fun q h=>J q.1 q.2.1 q.2.2.1 q.2.2.2.1 q.2.2.2.2.1 q.2.2.2.2.2.1 q.2.2.2.2.2.2.1 q.2.2.2.2.2.2.2.1 q.2.2.2.2.2.2.2.2.1 q.2.2.2.2.2.2.2.2.2 h) (h.mono fun e st' hq=>by
  cases e with
  | normal=>obtain ⟨v0,v1,v2,v3,v4,v5,v6,v7,v8,v9,h1,h2⟩:=hq; exact ⟨(v0,v1,v2,v3,v4,v5,v6,v7,v8,v9),h1,h2⟩
  | _=>exact hq)
theorem Wp.j14 {α0 α1 α2 α3 α4 α5 α6 α7 α8 α9 α10 α11 α12 α13:Type} {x:Code} (G:α0→α1→α2→α3→α4→α5→α6→α7→α8→α9→α10→α11→α12→α13→Prop) (S:α0→α1→α2→α3→α4→α5→α6→α7→α8→α9→α10→α11→α12→α13→Sx) (J:∀ v0 v1 v2 v3 v4 v5 v6 v7 v8 v9 v10 v11 v12 v13,G v0 v1 v2 v3 v4 v5 v6 v7 v8 v9 v10 v11 v12 v13→Wp P n ls y Q (S v0 v1 v2 v3 v4 v5 v6 v7 v8 v9 v10 v11 v12 v13).st) (h:Wp P n ls x (thenQ (fun st=>∃ v0 v1 v2 v3 v4 v5 v6 v7 v8 v9 v10 v11 v12 v13,G v0 v1 v2 v3 v4 v5 v6 v7 v8 v9 v10 v11 v12 v13∧Le n ls st (S v0 v1 v2 v3 v4 v5 v6 v7 v8 v9 v10 v11 v12 v13).st) Q) st):Wp P n ls (.seq x y) Q st :=
 Wp.seqJ (α:=α0×α1×α2×α3×α4×α5×α6×α7×α8×α9×α10×α11×α12×α13) (fun q=>S q.1 q.2.1 q.2.2.1 q.2.2.2.1 q.2.2.2.2.1 q.2.2.2.2.2.1 q.2.2.2.2.2.2.1 q.2.2.2.2.2.2.2.1 q.2.2.2.2.2.2.2.2.1 q.2.2.2.2.2.2.2.2.2.1 q.2.2.2.2.2.2.2.2.2.2.1 q.2.2.2.2.2.2.2.2.2.2.2.1 q.2.2.2.2.2.2.2.2.2.2.2.2.1 q.2.2.2.2.2.2.2.2.2.2.2.2.2) (fun q=>G q.1 q.2.1 q.2.2.1 q.2.2.2.1 q.2.2.2.2.1 q.2.2.2.2.2.1 q.2.2.2.2.2.2.1 q.2.2.2.2.2.2.2.1 q.2.2.2.2.2.2.2.2.1 q.2.2.2.2.2.2.2.2.2.1 q.2.2.2.2.2.2.2.2.2.2.1 q.2.2.2.2.2.2.2.2.2.2.2.1 q.2.2.2.2.2.2.2.2.2.2.2.2.1 q.2.2.2.2.2.2.2.2.2.2.2.2.2) (fun q h=>J q.1 q.2.1 q.2.2.1 q.2.2.2.1 q.2.2.2.2.1 q.2.2.2.2.2.1 q.2.2.2.2.2.2.1 q.2.2.2.2.2.2.2.1 q.2.2.2.2.2.2.2.2.1 q.2.2.2.2.2.2.2.2.2.1 q.2.2.2.2.2.2.2.2.2.2.1 q.2.2.2.2.2.2.2.2.2.2.2.1 q.2.2.2.2.2.2.2.2.2.2.2.2.1 q.2.2.2.2.2.2.2.2.2.2.2.2.2 h) (h.mono fun e st' hq=>by
  cases e with
  | normal=>obtain ⟨v0,v1,v2,v3,v4,v5,v6,v7,v8,v9,v10,v11,v12,v13,h1,h2⟩:=hq; exact ⟨(v0,v1,v2,v3,v4,v5,v6,v7,v8,v9,v10,v11,v12,v13),h1,h2⟩
  | _=>exact hq)
theorem Wp.l2 {α0 α1:Type} {x:Code} (G:Nat→α0→α1→Prop) (S:α0→α1→Sx) (hs:∀ k v0 v1,G (k+1) v0 v1→Wp P n ls x (thenQ (fun st=>∃ v0 v1,G k v0 v1∧Le n ls st (S v0 v1).st) Q) (S v0 v1).st) {k:Nat} {v0:α0} {v1:α1} (h:G k v0 v1) (hl:Le n ls st (S v0 v1).st) (h0:∀ v0 v1,¬ G 0 v0 v1):Wp P n ls (.loop x) Q st :=
 Wp.loopF (α:=α0×α1) (fun q=>S q.1 q.2) (fun k q=>G k q.1 q.2) (fun q=>h0 q.1 q.2) (fun k q h=>(hs k q.1 q.2 h).mono fun e st' hq=>by
  cases e with
  | normal=>obtain ⟨v0',v1',h1,h2⟩:=hq; exact ⟨(v0',v1'),h1,h2⟩
  | _=>exact hq) k (v0,v1) h hl
theorem Wp.l3 {α0 α1 α2:Type} {x:Code} (G:Nat→α0→α1→α2→Prop) (S:α0→α1→α2→Sx) (hs:∀ k v0 v1 v2,G (k+1) v0 v1 v2→Wp P n ls x (thenQ (fun st=>∃ v0 v1 v2,G k v0 v1 v2∧Le n ls st (S v0 v1 v2).st) Q) (S v0 v1 v2).st) {k:Nat} {v0:α0} {v1:α1} {v2:α2} (h:G k v0 v1 v2) (hl:Le n ls st (S v0 v1 v2).st) (h0:∀ v0 v1 v2,¬ G 0 v0 v1 v2):Wp P n ls (.loop x) Q st :=
 Wp.loopF (α:=α0×α1×α2) (fun q=>S q.1 q.2.1 q.2.2) (fun k q=>G k q.1 q.2.1 q.2.2) (fun q=>h0 q.1 q.2.1 q.2.2) (fun k q h=>(hs k q.1 q.2.1 q.2.2 h).mono fun e st' hq=>by
  cases e with
  | normal=>obtain ⟨v0',v1',v2',h1,h2⟩:=hq; exact ⟨(v0',v1',v2'),h1,h2⟩
  | _=>exact hq) k (v0,v1,v2) h hl
theorem Wp.l4 {α0 α1 α2 α3:Type} {x:Code} (G:Nat→α0→α1→α2→α3→Prop) (S:α0→α1→α2→α3→Sx) (hs:∀ k v0 v1 v2 v3,G (k+1) v0 v1 v2 v3→Wp P n ls x (thenQ (fun st=>∃ v0 v1 v2 v3,G k v0 v1 v2 v3∧Le n ls st (S v0 v1 v2 v3).st) Q) (S v0 v1 v2 v3).st) {k:Nat} {v0:α0} {v1:α1} {v2:α2} {v3:α3} (h:G k v0 v1 v2 v3) (hl:Le n ls st (S v0 v1 v2 v3).st) (h0:∀ v0 v1 v2 v3,¬ G 0 v0 v1 v2 v3):Wp P n ls (.loop x) Q st :=
 Wp.loopF (α:=α0×α1×α2×α3) (fun q=>S q.1 q.2.1 q.2.2.1 q.2.2.2) (fun k q=>G k q.1 q.2.1 q.2.2.1 q.2.2.2) (fun q=>h0 q.1 q.2.1 q.2.2.1 q.2.2.2) (fun k q h=>(hs k q.1 q.2.1 q.2.2.1 q.2.2.2 h).mono fun e st' hq=>by
  cases e with
  | normal=>obtain ⟨v0',v1',v2',v3',h1,h2⟩:=hq; exact ⟨(v0',v1',v2',v3'),h1,h2⟩
  | _=>exact hq) k (v0,v1,v2,v3) h hl
theorem Wp.l5 {α0 α1 α2 α3 α4:Type} {x:Code} (G:Nat→α0→α1→α2→α3→α4→Prop) (S:α0→α1→α2→α3→α4→Sx) (hs:∀ k v0 v1 v2 v3 v4,G (k+1) v0 v1 v2 v3 v4→Wp P n ls x (thenQ (fun st=>∃ v0 v1 v2 v3 v4,G k v0 v1 v2 v3 v4∧Le n ls st (S v0 v1 v2 v3 v4).st) Q) (S v0 v1 v2 v3 v4).st) {k:Nat} {v0:α0} {v1:α1} {v2:α2} {v3:α3} {v4:α4} (h:G k v0 v1 v2 v3 v4) (hl:Le n ls st (S v0 v1 v2 v3 v4).st) (h0:∀ v0 v1 v2 v3 v4,¬ G 0 v0 v1 v2 v3 v4):Wp P n ls (.loop x) Q st :=
 Wp.loopF (α:=α0×α1×α2×α3×α4) (fun q=>S q.1 q.2.1 q.2.2.1 q.2.2.2.1 q.2.2.2.2) (fun k q=>G k q.1 q.2.1 q.2.2.1 q.2.2.2.1 q.2.2.2.2) (fun q=>h0 q.1 q.2.1 q.2.2.1 q.2.2.2.1 q.2.2.2.2) (fun k q h=>(hs k q.1 q.2.1 q.2.2.1 q.2.2.2.1 q.2.2.2.2 h).mono fun e st' hq=>by
  cases e with
  | normal=>obtain ⟨v0',v1',v2',v3',v4',h1,h2⟩:=hq; exact ⟨(v0',v1',v2',v3',v4'),h1,h2⟩
  | _=>exact hq) k (v0,v1,v2,v3,v4) h hl
theorem Wp.l8 {α0 α1 α2 α3 α4 α5 α6 α7:Type} {x:Code} (G:Nat→α0→α1→α2→α3→α4→α5→α6→α7→Prop) (S:α0→α1→α2→α3→α4→α5→α6→α7→Sx) (hs:∀ k v0 v1 v2 v3 v4 v5 v6 v7,G (k+1) v0 v1 v2 v3 v4 v5 v6 v7→Wp P n ls x (thenQ (fun st=>∃ v0 v1 v2 v3 v4 v5 v6 v7,G k v0 v1 v2 v3 v4 v5 v6 v7∧Le n ls st (S v0 v1 v2 v3 v4 v5 v6 v7).st) Q) (S v0 v1 v2 v3 v4 v5 v6 v7).st) {k:Nat} {v0:α0} {v1:α1} {v2:α2} {v3:α3} {v4:α4} {v5:α5} {v6:α6} {v7:α7} (h:G k v0 v1 v2 v3 v4 v5 v6 v7) (hl:Le n ls st (S v0 v1 v2 v3 v4 v5 v6 v7).st) (h0:∀ v0 v1 v2 v3 v4 v5 v6 v7,¬ G 0 v0 v1 v2 v3 v4 v5 v6 v7):Wp P n ls (.loop x) Q st :=
 Wp.loopF (α:=α0×α1×α2×α3×α4×α5×α6×α7) (fun q=>S q.1 q.2.1 q.2.2.1 q.2.2.2.1 q.2.2.2.2.1 q.2.2.2.2.2.1 q.2.2.2.2.2.2.1 q.2.2.2.2.2.2.2) (fun k q=>G k q.1 q.2.1 q.2.2.1 q.2.2.2.1 q.2.2.2.2.1 q.2.2.2.2.2.1 q.2.2.2.2.2.2.1 q.2.2.2.2.2.2.2) (fun q=>h0 q.1 q.2.1 q.2.2.1 q.2.2.2.1 q.2.2.2.2.1 q.2.2.2.2.2.1 q.2.2.2.2.2.2.1 q.2.2.2.2.2.2.2) (fun k q h=>(hs k q.1 q.2.1 q.2.2.1 q.2.2.2.1 q.2.2.2.2.1 q.2.2.2.2.2.1 q.2.2.2.2.2.2.1 q.2.2.2.2.2.2.2 h).mono fun e st' hq=>by
  cases e with
  | normal=>obtain ⟨v0',v1',v2',v3',v4',v5',v6',v7',h1,h2⟩:=hq; exact ⟨(v0',v1',v2',v3',v4',v5',v6',v7'),h1,h2⟩
  | _=>exact hq) k (v0,v1,v2,v3,v4,v5,v6,v7) h hl
theorem Wp.l9 {α0 α1 α2 α3 α4 α5 α6 α7 α8:Type} {x:Code} (G:Nat→α0→α1→α2→α3→α4→α5→α6→α7→α8→Prop) (S:α0→α1→α2→α3→α4→α5→α6→α7→α8→Sx) (hs:∀ k v0 v1 v2 v3 v4 v5 v6 v7 v8,G (k+1) v0 v1 v2 v3 v4 v5 v6 v7 v8→Wp P n ls x (thenQ (fun st=>∃ v0 v1 v2 v3 v4 v5 v6 v7 v8,G k v0 v1 v2 v3 v4 v5 v6 v7 v8∧Le n ls st (S v0 v1 v2 v3 v4 v5 v6 v7 v8).st) Q) (S v0 v1 v2 v3 v4 v5 v6 v7 v8).st) {k:Nat} {v0:α0} {v1:α1} {v2:α2} {v3:α3} {v4:α4} {v5:α5} {v6:α6} {v7:α7} {v8:α8} (h:G k v0 v1 v2 v3 v4 v5 v6 v7 v8) (hl:Le n ls st (S v0 v1 v2 v3 v4 v5 v6 v7 v8).st) (h0:∀ v0 v1 v2 v3 v4 v5 v6 v7 v8,¬ G 0 v0 v1 v2 v3 v4 v5 v6 v7 v8):Wp P n ls (.loop x) Q st :=
 Wp.loopF (α:=α0×α1×α2×α3×α4×α5×α6×α7×α8) (fun q=>S q.1 q.2.1 q.2.2.1 q.2.2.2.1 q.2.2.2.2.1 q.2.2.2.2.2.1 q.2.2.2.2.2.2.1 q.2.2.2.2.2.2.2.1 q.2.2.2.2.2.2.2.2) (fun k q=>G k q.1 q.2.1 q.2.2.1 q.2.2.2.1 q.2.2.2.2.1 q.2.2.2.2.2.1 q.2.2.2.2.2.2.1 q.2.2.2.2.2.2.2.1 q.2.2.2.2.2.2.2.2) (fun q=>h0 q.1 q.2.1 q.2.2.1 q.2.2.2.1 q.2.2.2.2.1 q.2.2.2.2.2.1 q.2.2.2.2.2.2.1 q.2.2.2.2.2.2.2.1 q.2.2.2.2.2.2.2.2) (fun k q h=>(hs k q.1 q.2.1 q.2.2.1 q.2.2.2.1 q.2.2.2.2.1 q.2.2.2.2.2.1 q.2.2.2.2.2.2.1 q.2.2.2.2.2.2.2.1 q.2.2.2.2.2.2.2.2 h).mono fun e st' hq=>by
  cases e with
  | normal=>obtain ⟨v0',v1',v2',v3',v4',v5',v6',v7',v8',h1,h2⟩:=hq; exact ⟨(v0',v1',v2',v3',v4',v5',v6',v7',v8'),h1,h2⟩
  | _=>exact hq) k (v0,v1,v2,v3,v4,v5,v6,v7,v8) h hl
theorem Wp.l10 {α0 α1 α2 α3 α4 α5 α6 α7 α8 α9:Type} {x:Code} (G:Nat→α0→α1→α2→α3→α4→α5→α6→α7→α8→α9→Prop) (S:α0→α1→α2→α3→α4→α5→α6→α7→α8→α9→Sx) (hs:∀ k v0 v1 v2 v3 v4 v5 v6 v7 v8 v9,G (k+1) v0 v1 v2 v3 v4 v5 v6 v7 v8 v9→Wp P n ls x (thenQ (fun st=>∃ v0 v1 v2 v3 v4 v5 v6 v7 v8 v9,G k v0 v1 v2 v3 v4 v5 v6 v7 v8 v9∧Le n ls st (S v0 v1 v2 v3 v4 v5 v6 v7 v8 v9).st) Q) (S v0 v1 v2 v3 v4 v5 v6 v7 v8 v9).st) {k:Nat} {v0:α0} {v1:α1} {v2:α2} {v3:α3} {v4:α4} {v5:α5} {v6:α6} {v7:α7} {v8:α8} {v9:α9} (h:G k v0 v1 v2 v3 v4 v5 v6 v7 v8 v9) (hl:Le n ls st (S v0 v1 v2 v3 v4 v5 v6 v7 v8 v9).st) (h0:∀ v0 v1 v2 v3 v4 v5 v6 v7 v8 v9,¬ G 0 v0 v1 v2 v3 v4 v5 v6 v7 v8 v9):Wp P n ls (.loop x) Q st :=
 Wp.loopF (α:=α0×α1×α2×α3×α4×α5×α6×α7×α8×α9) (fun q=>S q.1 q.2.1 q.2.2.1 q.2.2.2.1 q.2.2.2.2.1 q.2.2.2.2.2.1 q.2.2.2.2.2.2.1 q.2.2.2.2.2.2.2.1 q.2.2.2.2.2.2.2.2.1 q.2.2.2.2.2.2.2.2.2) (fun k q=>G k q.1 q.2.1 q.2.2.1 q.2.2.2.1 q.2.2.2.2.1 q.2.2.2.2.2.1 q.2.2.2.2.2.2.1 q.2.2.2.2.2.2.2.1 q.2.2.2.2.2.2.2.2.1 q.2.2.2.2.2.2.2.2.2) (fun q=>h0 q.1 q.2.1 q.2.2.1 q.2.2.2.1 q.2.2.2.2.1 q.2.2.2.2.2.1 q.2.2.2.2.2.2.1 q.2.2.2.2.2.2.2.1 q.2.2.2.2.2.2.2.2.1 q.2.2.2.2.2.2.2.2.2) (fun k q h=>(hs k q.1 q.2.1 q.2.2.1 q.2.2.2.1 q.2.2.2.2.1 q.2.2.2.2.2.1 q.2.2.2.2.2.2.1 q.2.2.2.2.2.2.2.1 q.2.2.2.2.2.2.2.2.1 q.2.2.2.2.2.2.2.2.2 h).mono fun e st' hq=>by
  cases e with
  | normal=>obtain ⟨v0',v1',v2',v3',v4',v5',v6',v7',v8',v9',h1,h2⟩:=hq; exact ⟨(v0',v1',v2',v3',v4',v5',v6',v7',v8',v9'),h1,h2⟩
  | _=>exact hq) k (v0,v1,v2,v3,v4,v5,v6,v7,v8,v9) h hl
theorem Wp.l11 {α0 α1 α2 α3 α4 α5 α6 α7 α8 α9 α10:Type} {x:Code} (G:Nat→α0→α1→α2→α3→α4→α5→α6→α7→α8→α9→α10→Prop) (S:α0→α1→α2→α3→α4→α5→α6→α7→α8→α9→α10→Sx) (hs:∀ k v0 v1 v2 v3 v4 v5 v6 v7 v8 v9 v10,G (k+1) v0 v1 v2 v3 v4 v5 v6 v7 v8 v9 v10→Wp P n ls x (thenQ (fun st=>∃ v0 v1 v2 v3 v4 v5 v6 v7 v8 v9 v10,G k v0 v1 v2 v3 v4 v5 v6 v7 v8 v9 v10∧Le n ls st (S v0 v1 v2 v3 v4 v5 v6 v7 v8 v9 v10).st) Q) (S v0 v1 v2 v3 v4 v5 v6 v7 v8 v9 v10).st) {k:Nat} {v0:α0} {v1:α1} {v2:α2} {v3:α3} {v4:α4} {v5:α5} {v6:α6} {v7:α7} {v8:α8} {v9:α9} {v10:α10} (h:G k v0 v1 v2 v3 v4 v5 v6 v7 v8 v9 v10) (hl:Le n ls st (S v0 v1 v2 v3 v4 v5 v6 v7 v8 v9 v10).st) (h0:∀ v0 v1 v2 v3 v4 v5 v6 v7 v8 v9 v10,¬ G 0 v0 v1 v2 v3 v4 v5 v6 v7 v8 v9 v10):Wp P n ls (.loop x) Q st :=
 Wp.loopF (α:=α0×α1×α2×α3×α4×α5×α6×α7×α8×α9×α10) (fun q=>S q.1 q.2.1 q.2.2.1 q.2.2.2.1 q.2.2.2.2.1 q.2.2.2.2.2.1 q.2.2.2.2.2.2.1 q.2.2.2.2.2.2.2.1 q.2.2.2.2.2.2.2.2.1 q.2.2.2.2.2.2.2.2.2.1 q.2.2.2.2.2.2.2.2.2.2) (fun k q=>G k q.1 q.2.1 q.2.2.1 q.2.2.2.1 q.2.2.2.2.1 q.2.2.2.2.2.1 q.2.2.2.2.2.2.1 q.2.2.2.2.2.2.2.1 q.2.2.2.2.2.2.2.2.1 q.2.2.2.2.2.2.2.2.2.1 q.2.2.2.2.2.2.2.2.2.2) (fun q=>h0 q.1 q.2.1 q.2.2.1 q.2.2.2.1 q.2.2.2.2.1 q.2.2.2.2.2.1 q.2.2.2.2.2.2.1 q.2.2.2.2.2.2.2.1 q.2.2.2.2.2.2.2.2.1 q.2.2.2.2.2.2.2.2.2.1 q.2.2.2.2.2.2.2.2.2.2) (fun k q h=>(hs k q.1 q.2.1 q.2.2.1 q.2.2.2.1 q.2.2.2.2.1 q.2.2.2.2.2.1 q.2.2.2.2.2.2.1 q.2.2.2.2.2.2.2.1 q.2.2.2.2.2.2.2.2.1 q.2.2.2.2.2.2.2.2.2.1 q.2.2.2.2.2.2.2.2.2.2 h).mono fun e st' hq=>by
  cases e with
  | normal=>obtain ⟨v0',v1',v2',v3',v4',v5',v6',v7',v8',v9',v10',h1,h2⟩:=hq; exact ⟨(v0',v1',v2',v3',v4',v5',v6',v7',v8',v9',v10'),h1,h2⟩
  | _=>exact hq) k (v0,v1,v2,v3,v4,v5,v6,v7,v8,v9,v10) h hl
theorem Wp.l12 {α0 α1 α2 α3 α4 α5 α6 α7 α8 α9 α10 α11:Type} {x:Code} (G:Nat→α0→α1→α2→α3→α4→α5→α6→α7→α8→α9→α10→α11→Prop) (S:α0→α1→α2→α3→α4→α5→α6→α7→α8→α9→α10→α11→Sx) (hs:∀ k v0 v1 v2 v3 v4 v5 v6 v7 v8 v9 v10 v11,G (k+1) v0 v1 v2 v3 v4 v5 v6 v7 v8 v9 v10 v11→Wp P n ls x (thenQ (fun st=>∃ v0 v1 v2 v3 v4 v5 v6 v7 v8 v9 v10 v11,G k v0 v1 v2 v3 v4 v5 v6 v7 v8 v9 v10 v11∧Le n ls st (S v0 v1 v2 v3 v4 v5 v6 v7 v8 v9 v10 v11).st) Q) (S v0 v1 v2 v3 v4 v5 v6 v7 v8 v9 v10 v11).st) {k:Nat} {v0:α0} {v1:α1} {v2:α2} {v3:α3} {v4:α4} {v5:α5} {v6:α6} {v7:α7} {v8:α8} {v9:α9} {v10:α10} {v11:α11} (h:G k v0 v1 v2 v3 v4 v5 v6 v7 v8 v9 v10 v11) (hl:Le n ls st (S v0 v1 v2 v3 v4 v5 v6 v7 v8 v9 v10 v11).st) (h0:∀ v0 v1 v2 v3 v4 v5 v6 v7 v8 v9 v10 v11,¬ G 0 v0 v1 v2 v3 v4 v5 v6 v7 v8 v9 v10 v11):Wp P n ls (.loop x) Q st :=
 Wp.loopF (α:=α0×α1×α2×α3×α4×α5×α6×α7×α8×α9×α10×α11) (fun q=>S q.1 q.2.1 q.2.2.1 q.2.2.2.1 q.2.2.2.2.1 q.2.2.2.2.2.1 q.2.2.2.2.2.2.1 q.2.2.2.2.2.2.2.1 q.2.2.2.2.2.2.2.2.1 q.2.2.2.2.2.2.2.2.2.1 q.2.2.2.2.2.2.2.2.2.2.1 q.2.2.2.2.2.2.2.2.2.2.2) (fun k q=>G k q.1 q.2.1 q.2.2.1 q.2.2.2.1 q.2.2.2.2.1 q.2.2.2.2.2.1 q.2.2.2.2.2.2.1 q.2.2.2.2.2.2.2.1 q.2.2.2.2.2.2.2.2.1 q.2.2.2.2.2.2.2.2.2.1 q.2.2.2.2.2.2.2.2.2.2.1 q.2.2.2.2.2.2.2.2.2.2.2) (fun q=>h0 q.1 q.2.1 q.2.2.1 q.2.2.2.1 q.2.2.2.2.1 q.2.2.2.2.2.1 q.2.2.2.2.2.2.1 q.2.2.2.2.2.2.2.1 q.2.2.2.2.2.2.2.2.1 q.2.2.2.2.2.2.2.2.2.1 q.2.2.2.2.2.2.2.2.2.2.1 q.2.2.2.2.2.2.2.2.2.2.2) (fun k q h=>(hs k q.1 q.2.1 q.2.2.1 q.2.2.2.1 q.2.2.2.2.1 q.2.2.2.2.2.1 q.2.2.2.2.2.2.1 q.2.2.2.2.2.2.2.1 q.2.2.2.2.2.2.2.2.1 q.2.2.2.2.2.2.2.2.2.1 q.2.2.2.2.2.2.2.2.2.2.1 q.2.2.2.2.2.2.2.2.2.2.2 h).mono fun e st' hq=>by
  cases e with
  | normal=>obtain ⟨v0',v1',v2',v3',v4',v5',v6',v7',v8',v9',v10',v11',h1,h2⟩:=hq; exact ⟨(v0',v1',v2',v3',v4',v5',v6',v7',v8',v9',v10',v11'),h1,h2⟩
  | _=>exact hq) k (v0,v1,v2,v3,v4,v5,v6,v7,v8,v9,v10,v11) h hl
end
theorem laws_big_ok {u p0 r} (h:laws_big u p0=some r):CallOK Try.prog 4 [.one (.s p0)] (V.b r) []:=by
 unfold laws_big at h
 refine ofb Try.f4 false ?_
 refine Wp.sa ?_
 refine Wp.sr ?_
 refine Runs.ln 1 5 (eInt .u8) p0 ?_
 refine Runs.alln ?_
 obtain rfl:=oi h
 exact Wp.ret RetB
theorem spec_l1New_ok {u p0 r} (h:spec_l1New u p0=some r):CallOK Try.prog 18 [.one (.s p0)] (.ptr (cw [0,0,0] (l1Cur.enc r))) []:=by
 unfold spec_l1New at h
 refine ofb Try.f18 false ?_
 refine Wp.sa ?_
 refine Wp.sr ?_
 refine Runs.ln 1 5 (eInt .u8) p0 ?_
 refine Runs.alln ?_
 refine Wp.j2 (fun p0 x9=>spec_l1New_j1 u p0 x9=some r) (fun p0 x9=>⟨[(0,.s p0),(3,.i x9)],[],[]⟩) (fun p0 x9 h=>?_) ?_
 ·refine Wp.sa ?_
  obtain rfl:=oi h
  exact Wp.ret RetB
 refine Wp.sa ?_
 refine Wp.block ?_
 refine Wp.l3 (fun k_spec_l1New_l2 p0 x3 x4=>spec_l1New_l2 u k_spec_l1New_l2 p0 x3 x4=some r) (fun p0 x3 x4=>⟨[(0,.s p0),(3,.i x3),(4,.i x4)],[],[]⟩) (fun k_spec_l1New_l2 p0 x3 x4 h=>?_) h (lo []) (fun _ _ _  h=>nomatch h)
 rw [spec_l1New_l2] at h
 refine Wp.seq ?_
 refine Wp.j4 (fun p0 x3 x4 x7=>spec_l1New_j3 u (fun z0 z1 z2=>spec_l1New_l2 u k_spec_l1New_l2 z0 z1 z2) p0 x3 x4 x7=some r) (fun p0 x3 x4 x7=>⟨[(0,.s p0),(3,.i x3),(4,.i x4),(15,.b x7)],[],[]⟩) (fun p0 x3 x4 x7 h=>?_) ?_
 ·refine Wp.c2 h (fun h=>?_) (fun h=>?_)
  ·refine Wp.sk ?_
   refine Wp.seq ?_
   refine Wp.block ?_
   refine Wp.rg [] [] ?_
   refine Runs.ix 4 5 1 (eInt .u8) h (fun y8 h _=>?_)
   refine Runs.all kr ?_
   refine blkN ?_
   refine thenN ?_
   refine Wp.rg [] [] ?_
   refine Runs.alln ?_
   exact ⟨_,_,_,h,lo []⟩
  refine Wp.exit ?_
  refine thenE ?_
  refine thenE ?_
  refine blkE ?_
  refine thenN ?_
  exact ⟨_,_,h,lo []⟩
 refine Wp.rg [] [] ?_
 refine Runs.ln 2 5 (eInt .u8) p0 ?_
 refine Runs.c2 2 12 h (fun h=>?_) (fun h=>?_)
 ·refine Runs.alln ?_
  exact ⟨_,_,_,_,h,lo []⟩
 refine Runs.alln ?_
 exact ⟨_,_,_,_,h,lo []⟩
theorem spec_l1Byte_ok {u p0 r} (h:spec_l1Byte u p0=some r):CallOK Try.prog 51 [.ptr (cw [0,0,0] (l1Cur.enc p0))] (V.i r.1) [cw [0,0,0] (l1Cur.enc r.2)]:=by
 unfold spec_l1Byte at h
 refine ofb Try.f51 false ?_
 refine Wp.sa ?_
 refine Wp.sa ?_
 refine Wp.seq ?_
 refine Wp.regionA (pOf []) (rhoOf [(0,.obj 900),(13,.obj 900),(14,.obj 900),(15,.obj 900),(16,.frz),(17,.frz),(18,.obj 900),(19,.obj 900),(20,.obj 900),(21,.frz),(22,.frz),(23,.frz),(24,.frz)]) kr kr ?_
 refine Runs.alln ?_
 refine Wp.j3 (fun x2 p0 x3=>spec_l1Byte_j1 u x2 p0 x3=some r) (fun x2 p0 x3=>⟨[(2,.i 0),(3,.i x2)],[(900,[.s p0.fB,.i x3,.i (bAdd .i64 (bMul .i64 p0.fH 6364136223846793005) 1442695040888963407)])],[]⟩) (fun x2 p0 x3 h=>?_) ?_
 ·refine Wp.sa ?_
  obtain rfl:=oi h
  exact Wp.ret RetB
 refine Wp.seq ?_
 refine Wp.regionA (pOf []) (rhoOf [(0,.obj 900),(25,.obj 900),(26,.obj 900),(27,.obj 900),(28,.frz),(29,.obj 900),(30,.obj 900),(31,.obj 900),(32,.frz),(33,.frz)]) kr kr ?_
 refine Runs.ln 8 5 (eInt .u8) p0.fB ?_
 refine Runs.alln ?_
 refine Wp.c2 h (fun h=>?_) (fun h=>?_)
 ·refine Wp.seq ?_
  refine Wp.regionA (pOf []) (rhoOf [(0,.obj 900),(3,.frz),(35,.frz),(36,.obj 900),(37,.obj 900),(38,.obj 900),(39,.frz),(40,.obj 900),(41,.obj 900),(42,.obj 900),(43,.frz),(44,.frz),(45,.frz),(46,.frz),(47,.frz),(48,.frz)]) kr kr ?_
  refine Runs.ix 9 5 1 (eInt .u8) h (fun y1 h _=>?_)
  refine Runs.alln ?_
  refine Wp.rg [] [] ?_
  refine Runs.alln ?_
  exact ⟨_,_,_,h,lo []⟩
 refine Wp.sk ?_
 exact ⟨_,_,_,h,lo []⟩
theorem spec_l1Below_ok {u p0 p1 r} (h:spec_l1Below u p0 p1=some r):CallOK Try.prog 21 [.ptr (cw [0,0,0] (l1Cur.enc p0)),V.i p1] (V.i r.1) [cw [0,0,0] (l1Cur.enc r.2)]:=by
 unfold spec_l1Below at h
 refine ofb Try.f21 false ?_
 refine Wp.sa ?_
 refine Wp.seq ?_
 refine Wp.sa ?_
 refine Wp.c2 h (fun h=>?_) (fun h=>?_)
 ·refine Wp.sa ?_
  obtain rfl:=oi h
  exact Wp.ret RetB
 refine Wp.sk ?_
 refine Wp.seq ?_
 refine Wp.sa ?_
 refine Wp.c2 h (fun h=>?_) (fun h=>?_)
 ·refine Wp.sr ?_
  refine Runs.cl false 1 13 [.obj 900 0] h (fun _=>spec_l1Byte_ok) (fun r1 h=>?_)
  refine Runs.batch 1 kr ?_
  obtain ⟨_,e_2,h⟩:=bind_some h
  refine Runs.num .rem (.int .i64 r1.1) (.int .i64 p1) (.int .i64 (bRem .i64 r1.1 p1)) rfl kr kr kr kr (bin_rem _ _ _ _ (by simpa using chk_some e_2)) ?_
  refine Runs.alln ?_
  obtain rfl:=oi h
  exact Wp.ret RetB
 refine Wp.sk ?_
 refine Wp.cl false 1 17 [.obj 900 0] h (fun _=>spec_l1Byte_ok) (fun r3 h=>?_)
 refine Wp.cl false 1 19 [.obj 900 0] h (fun _=>spec_l1Byte_ok) (fun r4 h=>?_)
 refine Wp.cl false 1 21 [.obj 900 0] h (fun _=>spec_l1Byte_ok) (fun r5 h=>?_)
 refine Wp.sr ?_
 refine Runs.batch 8 kr ?_
 obtain ⟨_,e_6,h⟩:=bind_some h
 refine Runs.num .rem (.int .i64 (bAdd .i64 (bAdd .i64 (bMul .i64 r3.1 65536) (bMul .i64 r4.1 256)) r5.1)) (.int .i64 p1) (.int .i64 (bRem .i64 (bAdd .i64 (bAdd .i64 (bMul .i64 r3.1 65536) (bMul .i64 r4.1 256)) r5.1) p1)) rfl kr kr kr kr (bin_rem _ _ _ _ (by simpa using chk_some e_6)) ?_
 refine Runs.alln ?_
 obtain rfl:=oi h
 exact Wp.ret RetB
theorem spec_l1Int_okx {u p0 p1 r} (h:spec_l1Int u p0 p1=some r):XOK Try.prog 74 [.ptr (cw [0,0,0] (l1Cur.enc p0))] [.one (.t (.sl 1 (p1.map (eInt .i64))))] (V.i r.1) [cw [0,0,0] (l1Cur.enc r.2)]:=by
 unfold spec_l1Int at h
 refine obx Try.f74 false ?_
 refine Wp.sa ?_
 refine Wp.sr ?_
 refine Runs.batch 3 kr ?_
 refine Runs.lenX (e:=3) (eInt .i64) p1 false 1 rfl rfl rfl kr kr kr kr ?_
 refine Runs.cl false 0 9 [.obj 900 0,.i ((p1.length:Int))] h (fun _=>spec_l1Below_ok) (fun r1 h=>?_)
 obtain ⟨y2,e_y2,h⟩:=bind_some h
 refine Runs.idxX (e:=3) (kk:=.i64) (sz:=1) (eInt .i64) p1 r1.1 false rfl kr kr kr kr kr kr e_y2 ?_
 refine Runs.alln ?_
 obtain rfl:=oi h
 exact Wp.ret RetB
theorem spec_l3Bytes_ok {u p0 p1 r} (h:spec_l3Bytes u p0 p1=some r):CallOK Try.prog 49 [.ptr (cw [0,0,0] (l1Cur.enc p0)),V.i p1] (.one (.ow 5 1 (r.1.map (eInt .u8)))) [cw [0,0,0] (l1Cur.enc r.2)]:=by
 unfold spec_l3Bytes at h
 refine ofb Try.f49 true ?_
 refine Wp.sa ?_
 refine Wp.sa ?_
 refine Wp.j4 (fun x18 x19 x20 x21=>spec_l3Bytes_j1 u x18 x19 x20 x21=some r) (fun x18 x19 x20 x21=>⟨[(4,.nil),(5,.own 327681)],[(900,[.s x19,.i x20,.i x21])],[(327681,.live 5 1 (x18.map (eInt .u8)))]⟩) (fun x18 x19 x20 x21 h=>?_) ?_
 ·refine Wp.sa ?_
  obtain rfl:=oi h
  exact Wp.ret RetB
 refine Wp.cl false 3 11 [.obj 900 0,.i (bAdd .i64 p1 1)] h (fun _=>spec_l1Below_ok) (fun r1 h=>?_)
 refine Wp.block ?_
 refine Wp.l5 (fun k_spec_l3Bytes_l2 x7 x8 x9 x10 x11=>spec_l3Bytes_l2 u k_spec_l3Bytes_l2 x7 x8 x9 x10 x11=some r) (fun x7 x8 x9 x10 x11=>⟨[(0,.obj 900 0),(4,.nil),(5,.own 327681),(6,.i x8)],[(900,[.s x9,.i x10,.i x11])],[(327681,.live 5 1 (x7.map (eInt .u8)))]⟩) (fun k_spec_l3Bytes_l2 x7 x8 x9 x10 x11 h=>?_) h (lo [(327681,458752)]) (fun _ _ _ _ _  h=>nomatch h)
 rw [spec_l3Bytes_l2] at h
 refine Wp.seq ?_
 refine Wp.sa ?_
 refine Wp.c2 h (fun h=>?_) (fun h=>?_)
 ·refine Wp.sk ?_
  refine Wp.seq ?_
  refine Wp.block ?_
  refine Wp.rg [] [] ?_
  refine Runs.cx false 3 19 [.obj 900 0] [.own 1179648] h (fun _=>spec_l1Int_okx) (fun r17 h=>?_)
  refine Runs.ap 2 22 5 1 327681 (eInt .u8) h (fun h=>?_)
  refine Runs.all kr ?_
  refine blkN ?_
  refine thenN ?_
  refine Wp.rg [] [] ?_
  refine Runs.alln ?_
  exact ⟨_,_,_,_,_,h,lo [(327681,1441792)]⟩
 refine Wp.exit ?_
 refine thenE ?_
 refine thenE ?_
 refine blkE ?_
 refine thenN ?_
 exact ⟨_,_,_,_,h,lo []⟩
theorem spec_l6Image_ok {u p0 r} (h:spec_l6Image u p0=some r):CallOK Try.prog 19 [.ptr (cw [0,0,0] (l1Cur.enc p0))] (.one (.ow 5 1 (r.1.map (eInt .u8)))) [cw [0,0,0] (l1Cur.enc r.2)]:=by
 unfold spec_l6Image at h
 refine ofb Try.f19 true ?_
 refine Wp.sa ?_
 refine Wp.cl false 1 4 [.obj 900 0,.i 16] h (fun _=>spec_l3Bytes_ok) (fun r1 h=>?_)
 obtain rfl:=oi h
 exact Wp.ret RetB
theorem spec_l1Bent_okx {u p0 p1 r} (h:spec_l1Bent u p0 p1=some r):XOK Try.prog 50 [.ptr (cw [0,0,0] (l1Cur.enc p0))] [.one (.s p1)] (.one (.s r.1)) [cw [0,0,0] (l1Cur.enc r.2)]:=by
 unfold spec_l1Bent at h
 refine obx Try.f50 false ?_
 refine Wp.sa ?_
 refine Wp.sr ?_
 refine Runs.batch 2 kr ?_
 obtain ⟨_,e_1,h⟩:=bind_some h
 refine Runs.appT (y:=.ext false (.sl 1 (p1.map (eInt .u8)))) (eInt .u8) 9 1 5 1 1 458752 (([]:List Int)) p1 rfl rfl rfl rfl kr kr kr kr kr (rows_extI _ _ _) (.inl rfl) kr (of_decide_eq_true (chk_some e_1)) kr kr ?_
 refine Runs.alln ?_
 refine Wp.j4 (fun x15 x16 x17 x18=>spec_l1Bent_j1 u x15 x16 x17 x18=some r) (fun x15 x16 x17 x18=>⟨[(4,.nil),(5,.s x15)],[(900,[.s x16,.i x17,.i x18])],[]⟩) (fun x15 x16 x17 x18 h=>?_) ?_
 ·refine Wp.sa ?_
  obtain rfl:=oi h
  exact Wp.ret RetB
 refine Wp.cl false 1 11 [.obj 900 0,.i 6] h (fun _=>spec_l1Below_ok) (fun r2 h=>?_)
 refine Wp.block ?_
 refine Wp.sa ?_
 refine Wp.c2 h (fun h=>?_) (fun h=>?_)
 ·refine Wp.sr ?_
  refine Runs.ln 1 5 (eInt .u8) ((([]:List Int))++p1) ?_
  refine Runs.alln ?_
  refine Wp.c2 h (fun h=>?_) (fun h=>?_)
  ·refine Wp.rg [] [] ?_
   refine Runs.ln 3 5 (eInt .u8) ((([]:List Int))++p1) ?_
   refine Runs.cl false 0 21 [.obj 900 0,.i ((((([]:List Int))++p1).length:Int))] h (fun _=>spec_l1Below_ok) (fun r3 h=>?_)
   refine Runs.cl false 1 23 [.obj 900 0,.i 256] h (fun _=>spec_l1Below_ok) (fun r4 h=>?_)
   refine Runs.ixo 1 5 1 589824 5 (eInt .u8) h (fun y5 h e_y5=>?_)
   refine Runs.storeT (e:=5) (sz:=1) (m:=1) (eInt .u8) ((([]:List Int))++p1) 589824 (Int.toNat r3.1) 0 (IntKind.wrap .u8 r4.1) (.t (.int .u8 (IntKind.wrap .u8 r4.1))) [.int .u8 (IntKind.wrap .u8 r4.1)] rfl kr kr kr kr kr kr kr kr ((idx_some e_y5).2) kr kr ?_
   refine Runs.all kr ?_
   refine blkN ?_
   refine thenN ?_
   exact ⟨_,_,_,_,h,Le.trans (Le.frz 5 589824 5 1 ((((([]:List Int))++p1).set (Int.toNat r3.1) (IntKind.wrap .u8 r4.1)).map (eInt .u8)) kr kr kr) (lo [])⟩
  refine Wp.skip ?_
  refine blkN ?_
  refine thenN ?_
  exact ⟨_,_,_,_,h,Le.trans (Le.frz 5 589824 5 1 (((([]:List Int))++p1).map (eInt .u8)) kr kr kr) (lo [])⟩
 refine Wp.sa ?_
 refine Wp.c2 h (fun h=>?_) (fun h=>?_)
 ·refine Wp.rg [] [] ?_
  refine Runs.ln 3 5 (eInt .u8) ((([]:List Int))++p1) ?_
  refine Runs.cl false 1 33 [.obj 900 0,.i (bAdd .i64 ((((([]:List Int))++p1).length:Int)) 1)] h (fun _=>spec_l1Below_ok) (fun r6 h=>?_)
  obtain ⟨_,e_7,h⟩:=bind_some h
  refine Runs.subsl (e:=5) (ax:=.own 589824) (alo:=none) (ahi:=(some (.i r6.1))) (eInt .u8) ((([]:List Int))++p1) 1 0 r6.1 rfl kr kr kr kr kr kr kr kr kr kr kr (chk_some e_7) ?_
  refine Runs.all kr ?_
  refine blkN ?_
  refine thenN ?_
  exact ⟨_,_,_,_,h,lo []⟩
 refine Wp.sa ?_
 refine Wp.c2 h (fun h=>?_) (fun h=>?_)
 ·refine Wp.rg [] [] ?_
  refine Runs.cx false 3 40 [.obj 900 0] [.own 2555904] h (fun _=>spec_l1Int_okx) (fun r8 h=>?_)
  refine Runs.ap 2 43 5 1 589824 (eInt .u8) h (fun h=>?_)
  refine Runs.all kr ?_
  refine blkN ?_
  refine thenN ?_
  exact ⟨_,_,_,_,h,Le.trans (Le.frz 5 2818048 5 1 ((((([]:List Int))++p1)++(([IntKind.wrap .u8 r8.1]:List Int))).map (eInt .u8)) kr kr kr) (lo [])⟩
 refine Wp.sa ?_
 refine Wp.c2 h (fun h=>?_) (fun h=>?_)
 ·refine Wp.sr ?_
  refine Runs.ln 1 5 (eInt .u8) ((([]:List Int))++p1) ?_
  refine Runs.alln ?_
  refine Wp.c2 h (fun h=>?_) (fun h=>?_)
  ·refine Wp.sr ?_
   refine Runs.ln 2 5 (eInt .u8) ((([]:List Int))++p1) ?_
   refine Runs.cl false 0 52 [.obj 900 0,.i ((((([]:List Int))++p1).length:Int))] h (fun _=>spec_l1Below_ok) (fun r10 h=>?_)
   refine Runs.alln ?_
   refine Wp.regionA (pOf [900]) (rhoOf [(0,.obj 900),(5,.own 9),(6,.frz),(53,.own 9),(54,.frz),(55,.own 9),(56,.frz),(57,.el 9),(58,.frz),(59,.obj 900),(60,.frz),(61,.frz),(62,.frz),(63,.el 9)]) kr kr ?_
   refine Runs.ixo 4 5 1 589824 5 (eInt .u8) h (fun y11 h e_y11=>?_)
   refine Runs.ld 0 1 1 589824 0 5 false (eInt .u8) ((idx_some e_y11).2) ?_
   refine Runs.cl false 1 60 [.obj 900 0,.i 8] h (fun _=>spec_l1Below_ok) (fun r12 h=>?_)
   obtain ⟨_,e_13,h⟩:=bind_some h
   refine Runs.num .shl (.int .u8 1) (.int .i64 r12.1) (.int .u8 (bShl .u8 1 r12.1)) rfl kr kr kr kr (bin_shl _ _ _ _ _ (chk_some e_13)) ?_
   refine Runs.ixo 1 5 1 589824 5 (eInt .u8) h (fun y14 h e_y14=>?_)
   refine Runs.storeT (e:=5) (sz:=1) (m:=1) (eInt .u8) ((([]:List Int))++p1) 589824 (Int.toNat r10.1) 0 (bXor .u8 y11 (bShl .u8 1 r12.1)) (.t (.int .u8 (bXor .u8 y11 (bShl .u8 1 r12.1)))) [.int .u8 (bXor .u8 y11 (bShl .u8 1 r12.1))] rfl kr kr kr kr kr kr kr kr ((idx_some e_y14).2) kr kr ?_
   refine Runs.all kr ?_
   refine blkN ?_
   refine thenN ?_
   exact ⟨_,_,_,_,h,Le.trans (Le.frz 5 589824 5 1 ((((([]:List Int))++p1).set (Int.toNat r10.1) (bXor .u8 y11 (bShl .u8 1 r12.1))).map (eInt .u8)) kr kr kr) (lo [])⟩
  refine Wp.skip ?_
  refine blkN ?_
  refine thenN ?_
  exact ⟨_,_,_,_,h,Le.trans (Le.frz 5 589824 5 1 (((([]:List Int))++p1).map (eInt .u8)) kr kr kr) (lo [])⟩
 refine Wp.skip ?_
 refine blkN ?_
 refine thenN ?_
 exact ⟨_,_,_,_,h,Le.trans (Le.frz 5 589824 5 1 (((([]:List Int))++p1).map (eInt .u8)) kr kr kr) (lo [])⟩
theorem spec_l7Old_okx {u p0 p1 r} (h:spec_l7Old u p0 p1=some r):XOK Try.prog 20 [.ptr (cw [0,0,0] (l1Cur.enc p0))] [.one (.s p1)] (.one (.ow 5 1 (r.1.map (eInt .u8)))) [cw [0,0,0] (l1Cur.enc r.2)]:=by
 unfold spec_l7Old at h
 refine obx Try.f20 true ?_
 refine Wp.sa ?_
 refine Wp.seq ?_
 refine Wp.cl false 1 7 [.obj 900 0,.i 5] h (fun _=>spec_l1Below_ok) (fun r1 h=>?_)
 refine Wp.block ?_
 refine Wp.sa ?_
 refine Wp.c2 h (fun h=>?_) (fun h=>?_)
 ·refine Wp.cl false 1 11 [.obj 900 0,.i 16] h (fun _=>spec_l3Bytes_ok) (fun r2 h=>?_)
  obtain rfl:=oi h
  exact Wp.ret RetB
 refine Wp.sa ?_
 refine Wp.c2 h (fun h=>?_) (fun h=>?_)
 ·refine Wp.sr ?_
  refine Runs.batch 2 kr ?_
  obtain ⟨_,e_3,h⟩:=bind_some h
  refine Runs.appT (y:=.ext false (.sl 1 (p1.map (eInt .u8)))) (eInt .u8) 16 1 5 1 1 917504 (([]:List Int)) p1 rfl rfl rfl rfl kr kr kr kr kr (rows_extI _ _ _) (.inl rfl) kr (of_decide_eq_true (chk_some e_3)) kr kr ?_
  refine Runs.alln ?_
  obtain rfl:=oi h
  exact Wp.ret RetB
 refine Wp.sa ?_
 refine Wp.c2 h (fun h=>?_) (fun h=>?_)
 ·refine Wp.sr ?_
  refine Runs.batch 2 kr ?_
  refine Runs.lenX (e:=5) (eInt .u8) p1 false 1 rfl rfl rfl kr kr kr kr ?_
  refine Runs.cl false 1 23 [.obj 900 0,.i (bAdd .i64 ((p1.length:Int)) 1)] h (fun _=>spec_l1Below_ok) (fun r4 h=>?_)
  refine Runs.alln ?_
  refine Wp.seq ?_
  refine Wp.regionA (pOf []) (rhoOf [(1,.frz),(5,.frz),(24,.own 24),(25,.frz),(26,.frz),(27,.frz),(28,.own 28),(29,.frz),(30,.frz),(31,.frz),(32,.own 32)]) kr kr ?_
  refine Runs.batch 3 kr ?_
  obtain ⟨_,e_5,h⟩:=bind_some h
  refine Runs.subslX (e:=5) (alo:=(some (.i r4.1))) (ahi:=none) false (eInt .u8) p1 1 r4.1 ((p1.length:Int)) rfl kr kr kr kr kr kr kr kr kr kr (chk_some e_5) ?_
  obtain ⟨_,e_6,h⟩:=bind_some h
  refine Runs.appT (y:=.ext false (.sl 1 (((p1.take (Int.toNat ((p1.length:Int)))).drop (Int.toNat r4.1)).map (eInt .u8)))) (eInt .u8) 28 1 5 1 1 1572864 (([120]:List Int)) ((p1.take (Int.toNat ((p1.length:Int)))).drop (Int.toNat r4.1)) rfl rfl rfl rfl kr kr kr kr kr (rows_extI _ _ _) (.inl rfl) kr (of_decide_eq_true (chk_some e_6)) kr kr ?_
  refine Runs.batch 2 kr ?_
  obtain ⟨_,e_7,h⟩:=bind_some h
  refine Runs.subslX (e:=5) (alo:=none) (ahi:=(some (.i r4.1))) false (eInt .u8) p1 1 0 r4.1 rfl kr kr kr kr kr kr kr kr kr kr (chk_some e_7) ?_
  obtain ⟨_,e_8,h⟩:=bind_some h
  refine Runs.appT (y:=.ext false (.sl 1 (((p1.take (Int.toNat r4.1)).drop (Int.toNat 0)).map (eInt .u8)))) (eInt .u8) 32 1 5 1 1 1835008 ((([120]:List Int))++((p1.take (Int.toNat ((p1.length:Int)))).drop (Int.toNat r4.1))) ((p1.take (Int.toNat r4.1)).drop (Int.toNat 0)) rfl rfl rfl rfl kr kr kr kr kr (rows_extI _ _ _) (.inl rfl) kr (of_decide_eq_true (chk_some e_8)) kr kr ?_
  refine Runs.alln ?_
  obtain rfl:=oi h
  exact Wp.ret RetB
 refine Wp.sa ?_
 refine Wp.c2 h (fun h=>?_) (fun h=>?_)
 ·refine Wp.sa ?_
  obtain rfl:=oi h
  exact Wp.ret RetB
 refine Wp.skip ?_
 refine blkN ?_
 refine thenN ?_
 refine Wp.sr ?_
 refine Runs.cl false 1 37 [.obj 900 0,.i 3] h (fun _=>spec_l3Bytes_ok) (fun r9 h=>?_)
 refine Runs.cx false 2 40 [.obj 900 0] [.ext false (.sl 1 (p1.map (eInt .u8)))] h (fun _=>spec_l1Bent_okx) (fun r10 h=>?_)
 refine Runs.ap 0 41 5 1 2424832 (eInt .u8) h (fun h=>?_)
 refine Runs.alln ?_
 obtain rfl:=oi h
 exact Wp.ret RetB
theorem spec_DrawCommit_ok {u p0 r} (h:spec_DrawCommit u p0=some r):CallOK Try.prog 5 [.one (.s p0)] (.tup [.one (.ow 5 1 (r.1.map (eInt .u8))),.one (.ow 5 1 (r.2.1.map (eInt .u8))),V.i r.2.2.1,V.i r.2.2.2]) []:=by
 unfold spec_DrawCommit at h
 refine ofb Try.f5 true ?_
 refine Wp.sa ?_
 refine Wp.cl false 1 10 [.s p0] h (fun _=>spec_l1New_ok) (fun r1 h=>?_)
 refine Wp.cl false 1 12 [.obj 10 0] h (fun _=>spec_l6Image_ok) (fun r2 h=>?_)
 refine Wp.sr ?_
 refine Runs.cx false 2 15 [.obj 10 0] [.own 786432] h (fun _=>spec_l7Old_okx) (fun r3 h=>?_)
 refine Runs.alln ?_
 refine Wp.sr ?_
 refine Runs.cl false 3 19 [.obj 10 0,.i 5] h (fun _=>spec_l1Below_ok) (fun r4 h=>?_)
 refine Runs.cl false 2 22 [.obj 10 0,.i 5] h (fun _=>spec_l1Below_ok) (fun r5 h=>?_)
 refine Runs.alln ?_
 obtain rfl:=oi h
 exact Wp.ret RetB
theorem impl_within_ok {u p0 p1 p2 r} (h:impl_within u p0 p1 p2=some r):CallOK Try.prog 22 [V.i p0,V.i p1,V.i p2] (V.b r) []:=by
 unfold impl_within at h
 refine ofb Try.f22 false ?_
 refine Wp.sa ?_
 refine Wp.sr ?_
 refine Runs.c2 4 10 h (fun h=>?_) (fun h=>?_)
 ·refine Runs.alln ?_
  obtain rfl:=oi h
  exact Wp.ret RetB
 refine Runs.alln ?_
 obtain rfl:=oi h
 exact Wp.ret RetB
theorem impl_SizeOk_ok {u p0 p1 r} (h:impl_SizeOk u p0 p1=some r):CallOK Try.prog 23 [V.i p0,V.i p1] (V.b r) []:=by
 unfold impl_SizeOk at h
 refine ofb Try.f23 false ?_
 refine Wp.sa ?_
 refine Wp.sr ?_
 refine Runs.cl false 1 6 [.i p0,.i 2,.i 6] h (fun _=>impl_within_ok) (fun r1 h=>?_)
 refine Runs.c2 1 7 h (fun h=>?_) (fun h=>?_)
 ·refine Runs.cl false 3 11 [.i p1,.i 0,.i (bMul .i64 40 p0)] h (fun _=>impl_within_ok) (fun r2 h=>?_)
  refine Runs.alln ?_
  obtain rfl:=oi h
  exact Wp.ret RetB
 refine Runs.alln ?_
 obtain rfl:=oi h
 exact Wp.ret RetB
theorem impl_CeilDiv_ok {u p0 p1 r} (h:impl_CeilDiv u p0 p1=some r):CallOK Try.prog 75 [V.i p0,V.i p1] (V.i r) []:=by
 unfold impl_CeilDiv at h
 refine ofb Try.f75 false ?_
 refine Wp.sa ?_
 refine Wp.seq ?_
 refine Wp.j3 (fun p0 p1 x3=>impl_CeilDiv_j1 u p0 p1 x3=some r) (fun p0 p1 x3=>⟨[(0,.i p0),(1,.i p1),(4,.i 0),(12,.b x3)],[],[]⟩) (fun p0 p1 x3 h=>?_) ?_
 ·refine Wp.c2 h (fun h=>?_) (fun h=>?_)
  ·refine Wp.sa ?_
   obtain rfl:=oi h
   exact Wp.ret RetB
  refine Wp.sk ?_
  refine Wp.sr ?_
  refine Runs.batch 5 kr ?_
  obtain ⟨_,e_4,h⟩:=bind_some h
  refine Runs.num .quo (.int .i64 (bSub .i64 (bAdd .i64 p0 p1) 1)) (.int .i64 p1) (.int .i64 (bQuo .i64 (bSub .i64 (bAdd .i64 p0 p1) 1) p1)) rfl kr kr kr kr (bin_quo _ _ _ _ (by simpa using chk_some e_4)) ?_
  refine Runs.alln ?_
  obtain rfl:=oi h
  exact Wp.ret RetB
 refine Wp.rg [] [] ?_
 refine Runs.cl false 1 6 [.i p0,.i 0,.i 1000000000000] h (fun _=>impl_within_ok) (fun r1 h=>?_)
 refine Runs.c2 2 8 h (fun h=>?_) (fun h=>?_)
 ·refine Runs.alln ?_
  exact ⟨_,_,_,h,lo []⟩
 refine Runs.cl false 1 10 [.i p1,.i 1,.i 1000000000000] h (fun _=>impl_within_ok) (fun r2 h=>?_)
 refine Runs.alln ?_
 exact ⟨_,_,_,h,lo []⟩
theorem impl_Blocks_ok {u p0 p1 r} (h:impl_Blocks u p0 p1=some r):CallOK Try.prog 52 [V.i p0,V.i p1] (V.i r) []:=by
 unfold impl_Blocks at h
 refine ofb Try.f52 false ?_
 refine Wp.sa ?_
 refine Wp.seq ?_
 refine Wp.cl false 2 7 [.i p0,.i p1] h (fun _=>impl_SizeOk_ok) (fun r1 h=>?_)
 refine Wp.c2 h (fun h=>?_) (fun h=>?_)
 ·refine Wp.sa ?_
  obtain rfl:=oi h
  exact Wp.ret RetB
 refine Wp.sk ?_
 refine Wp.cl false 2 11 [.i p1,.i p0] h (fun _=>impl_CeilDiv_ok) (fun r2 h=>?_)
 obtain rfl:=oi h
 exact Wp.ret RetB
theorem impl_SpanOf_ok {u p0 p1 p2 r} (h:impl_SpanOf u p0 p1 p2=some r):CallOK Try.prog 27 [V.i p0,V.i p1,V.i p2] (.tup [V.i r.1,V.i r.2]) []:=by
 unfold impl_SpanOf at h
 refine ofb Try.f27 false ?_
 refine Wp.sa ?_
 refine Wp.seq ?_
 refine Wp.sr ?_
 refine Runs.cl false 3 11 [.i p0,.i p1] h (fun _=>impl_Blocks_ok) (fun r1 h=>?_)
 refine Runs.cl false 1 13 [.i p2,.i 0,.i (bSub .i64 r1 1)] h (fun _=>impl_within_ok) (fun r2 h=>?_)
 refine Runs.alln ?_
 refine Wp.c2 h (fun h=>?_) (fun h=>?_)
 ·refine Wp.sa ?_
  obtain rfl:=oi h
  exact Wp.ret RetB
 refine Wp.sk ?_
 refine Wp.sa ?_
 obtain rfl:=oi h
 exact Wp.ret RetB
theorem impl_cloned_okd {u p0 r} (h:impl_cloned u p0=some r):DOK Try.prog 31 [.one (.s p0)] (.one (.ow 5 1 (r.map (eInt .u8)))):=by
 unfold impl_cloned at h
 refine DOK.of_bodyK (fn:=Try.f31) (m:=true) kr rfl kr kr kr ?_
 refine Wp.sa ?_
 refine Wp.sr ?_
 refine Runs.batch 1 kr ?_
 refine Runs.lenX (e:=5) (eInt .u8) p0 false 1 rfl rfl rfl kr kr kr kr ?_
 obtain ⟨_,e_1,h⟩:=bind_some h
 obtain ⟨_,e_2,h⟩:=bind_some h
 refine Runs.mkS (eInt .u8) (0:Int) 5 5 1 1 0 ((p0.length:Int)) rfl rfl kr kr kr kr kr kr (chk_some e_1) (of_decide_eq_true (chk_some e_2)) kr ?_
 refine Runs.batch 1 kr ?_
 obtain ⟨_,e_3,h⟩:=bind_some h
 refine Runs.appT (y:=.ext false (.sl 1 (p0.map (eInt .u8)))) (eInt .u8) 7 1 5 1 1 327680 (List.replicate (Int.toNat 0) (0:Int)) p0 rfl rfl rfl rfl kr kr kr kr kr (rows_extI _ _ _) (.inl rfl) kr (of_decide_eq_true (chk_some e_3)) kr kr ?_
 refine Runs.alln ?_
 obtain rfl:=oi h
 exact Wp.ret RetB
theorem impl_Slice_okd {u p0 p1 p2 r} (h:impl_Slice u p0 p1 p2=some r):DOK Try.prog 76 [.one (.s p0),V.i p1,V.i p2] (.tup [.one (.ow 5 1 (r.1.map (eInt .u8))),V.b r.2]):=by
 unfold impl_Slice at h
 refine DOK.of_bodyK (fn:=Try.f76) (m:=true) kr rfl kr kr kr ?_
 refine Wp.sa ?_
 refine Wp.seq ?_
 refine Wp.j4 (fun p0 p1 p2 x3=>impl_Slice_j1 u p0 p1 p2 x3=some r) (fun p0 p1 p2 x3=>⟨[(0,.ext false (.sl 1 (p0.map (eInt .u8)))),(1,.i p1),(2,.i p2),(6,.nil),(7,.b false),(21,.b x3)],[],[]⟩) (fun p0 p1 p2 x3 h=>?_) ?_
 ·refine Wp.c2 h (fun h=>?_) (fun h=>?_)
  ·refine Wp.sa ?_
   obtain rfl:=oi h
   exact Wp.ret RetB
  refine Wp.sk ?_
  refine Wp.sr ?_
  refine Runs.batch 5 kr ?_
  obtain ⟨_,e_4,h⟩:=bind_some h
  refine Runs.subslX (e:=5) (alo:=(some (.i p1))) (ahi:=(some (.i (bAdd .i64 p1 p2)))) false (eInt .u8) p0 1 p1 (bAdd .i64 p1 p2) rfl kr kr kr kr kr kr kr kr kr kr (chk_some e_4) ?_
  obtain ⟨r5,e_r5,h⟩:=bind_some h
  refine Runs.callDK 28 31 [] [.ext false (.sl 1 (((p0.take (Int.toNat (bAdd .i64 p1 p2))).drop (Int.toNat p1)).map (eInt .u8)))] [.one (.t (.sl 1 (((p0.take (Int.toNat (bAdd .i64 p1 p2))).drop (Int.toNat p1)).map (eInt .u8))))] (.one (.ow 5 1 (r5.map (eInt .u8)))) rfl rfl kr kr kr kr kr (impl_cloned_okd e_r5) kr ?_
  refine Runs.alln ?_
  obtain rfl:=oi h
  exact Wp.ret RetB
 refine Wp.rg [] [] ?_
 refine Runs.batch 2 kr ?_
 refine Runs.lenX (e:=5) (eInt .u8) p0 false 1 rfl rfl rfl kr kr kr kr ?_
 refine Runs.cl false 0 11 [.i p1,.i 0,.i ((p0.length:Int))] h (fun _=>impl_within_ok) (fun r1 h=>?_)
 refine Runs.c2 2 13 h (fun h=>?_) (fun h=>?_)
 ·refine Runs.alln ?_
  exact ⟨_,_,_,_,h,lo []⟩
 refine Runs.batch 2 kr ?_
 refine Runs.lenX (e:=5) (eInt .u8) p0 false 1 rfl rfl rfl kr kr kr kr ?_
 refine Runs.cl false 2 19 [.i p2,.i 0,.i (bSub .i64 ((p0.length:Int)) p1)] h (fun _=>impl_within_ok) (fun r2 h=>?_)
 refine Runs.alln ?_
 exact ⟨_,_,_,_,h,lo []⟩
theorem impl_BlockAt_okd {u p0 p1 p2 r} (h:impl_BlockAt u p0 p1 p2=some r):DOK Try.prog 53 [.one (.s p0),V.i p1,V.i p2] (.tup [.one (.ow 5 1 (r.1.map (eInt .u8))),V.b r.2]):=by
 unfold impl_BlockAt at h
 refine DOK.of_bodyK (fn:=Try.f53) (m:=true) kr rfl kr kr kr ?_
 refine Wp.sa ?_
 refine Wp.sr ?_
 refine Runs.batch 2 kr ?_
 refine Runs.lenX (e:=5) (eInt .u8) p0 false 1 rfl rfl rfl kr kr kr kr ?_
 refine Runs.cl false 1 15 [.i p1,.i ((p0.length:Int)),.i p2] h (fun _=>impl_SpanOf_ok) (fun r1 h=>?_)
 refine Runs.alln ?_
 refine Wp.seq ?_
 refine Wp.sa ?_
 refine Wp.c2 h (fun h=>?_) (fun h=>?_)
 ·refine Wp.sa ?_
  obtain rfl:=oi h
  exact Wp.ret RetB
 refine Wp.sk ?_
 refine Wp.sr ?_
 refine Runs.batch 3 kr ?_
 obtain ⟨r2,e_r2,h⟩:=bind_some h
 refine Runs.callDK 23 76 [] [.ext false (.sl 1 (p0.map (eInt .u8))),.i r1.1,.i r1.2] [.one (.s p0),.one (.i r1.1),.one (.i r1.2)] (.tup [.one (.ow 5 1 (r2.1.map (eInt .u8))),V.b r2.2]) rfl rfl kr kr kr kr kr (impl_Slice_okd e_r2) kr ?_
 refine Runs.alln ?_
 obtain rfl:=oi h
 exact Wp.ret RetB
theorem impl_Wrap_ok {u p0 p1 r} (h:impl_Wrap u p0 p1=some r):CallOK Try.prog 87 [V.i p0,V.i p1] (V.i r) []:=by
 unfold impl_Wrap at h
 refine ofb Try.f87 false ?_
 refine Wp.sa ?_
 refine Wp.seq ?_
 refine Wp.cl false 1 6 [.i p1,.i 1,.i 1000000000000] h (fun _=>impl_within_ok) (fun r1 h=>?_)
 refine Wp.c2 h (fun h=>?_) (fun h=>?_)
 ·refine Wp.sa ?_
  obtain rfl:=oi h
  exact Wp.ret RetB
 refine Wp.sk ?_
 refine Wp.sr ?_
 refine Runs.batch 2 kr ?_
 obtain ⟨_,e_2,h⟩:=bind_some h
 refine Runs.num .rem (.int .i64 p0) (.int .i64 p1) (.int .i64 (bRem .i64 p0 p1)) rfl kr kr kr kr (bin_rem _ _ _ _ (by simpa using chk_some e_2)) ?_
 refine Runs.batch 3 kr ?_
 obtain ⟨_,e_3,h⟩:=bind_some h
 refine Runs.num .rem (.int .i64 (bAdd .i64 (bRem .i64 p0 p1) p1)) (.int .i64 p1) (.int .i64 (bRem .i64 (bAdd .i64 (bRem .i64 p0 p1) p1) p1)) rfl kr kr kr kr (bin_rem _ _ _ _ (by simpa using chk_some e_3)) ?_
 refine Runs.alln ?_
 obtain rfl:=oi h
 exact Wp.ret RetB
theorem impl_weak_ok {u p0 p1 r} (h:impl_weak u p0 p1=some r):CallOK Try.prog 77 [V.i p0,V.i p1] (V.i r) []:=by
 unfold impl_weak at h
 refine ofb Try.f77 false ?_
 refine Wp.sa ?_
 refine Wp.sr ?_
 refine Runs.cl false 1 6 [.i p0,.i 251] h (fun _=>impl_Wrap_ok) (fun r1 h=>?_)
 refine Runs.cl false 1 8 [.i p1,.i 251] h (fun _=>impl_Wrap_ok) (fun r2 h=>?_)
 refine Runs.alln ?_
 obtain rfl:=oi h
 exact Wp.ret RetB
theorem impl_WeakOf_ok {u p0 r} (h:impl_WeakOf u p0=some r):CallOK Try.prog 57 [.one (.s p0)] (V.i r) []:=by
 unfold impl_WeakOf at h
 refine ofb Try.f57 false ?_
 refine Wp.sa ?_
 refine Wp.sa ?_
 refine Wp.j2 (fun x11 x12=>impl_WeakOf_j1 u x11 x12=some r) (fun x11 x12=>⟨[(2,.i 0),(3,.i x11),(4,.i x12)],[],[]⟩) (fun x11 x12 h=>?_) ?_
 ·refine Wp.cl false 2 25 [.i x11,.i x12] h (fun _=>impl_weak_ok) (fun r13 h=>?_)
  obtain rfl:=oi h
  exact Wp.ret RetB
 refine Wp.sr ?_
 refine Runs.ln 1 5 (eInt .u8) p0 ?_
 refine Runs.alln ?_
 refine Wp.block ?_
 refine Wp.l4 (fun k_impl_WeakOf_l2 x4 x5 p0 x6=>impl_WeakOf_l2 u k_impl_WeakOf_l2 x4 x5 p0 x6=some r) (fun x4 x5 p0 x6=>⟨[(2,.i 0),(3,.i x4),(4,.i x5),(7,.s p0),(8,.i ((p0.length:Int))),(9,.i x6)],[],[]⟩) (fun k_impl_WeakOf_l2 x4 x5 p0 x6 h=>?_) h (lo []) (fun _ _ _ _  h=>nomatch h)
 rw [impl_WeakOf_l2] at h
 refine Wp.sa ?_
 refine Wp.seq ?_
 refine Wp.c2 h (fun h=>?_) (fun h=>?_)
 ·refine Wp.sk ?_
  refine Wp.seq ?_
  refine Wp.block ?_
  refine Wp.sr ?_
  refine Runs.ix 0 5 1 (eInt .u8) h (fun y10 h _=>?_)
  refine Runs.alln ?_
  refine Wp.sa ?_
  refine Wp.rg [] [] ?_
  refine Runs.all kr ?_
  refine blkN ?_
  refine thenN ?_
  refine Wp.rg [] [] ?_
  refine Runs.alln ?_
  exact ⟨_,_,_,_,h,lo []⟩
 refine Wp.exit ?_
 refine thenE ?_
 refine thenE ?_
 refine blkE ?_
 refine thenN ?_
 exact ⟨_,_,h,lo []⟩
theorem impl_SumOf_ok {u p0 r} (h:impl_SumOf u p0=some r):CallOK Try.prog 54 [.one (.s p0)] (V.g (Sum.enc r)) []:=by
 unfold impl_SumOf at h
 refine ofb Try.f54 false ?_
 refine Wp.sa ?_
 refine Wp.seq ?_
 refine Wp.sr ?_
 refine Runs.ln 1 5 (eInt .u8) p0 ?_
 refine Runs.alln ?_
 refine Wp.c2 h (fun h=>?_) (fun h=>?_)
 ·refine Wp.sa ?_
  obtain rfl:=oi h
  exact Wp.ret RetB
 refine Wp.sk ?_
 refine Wp.sa ?_
 refine Wp.j2 (fun p0 x8=>impl_SumOf_j1 u p0 x8=some r) (fun p0 x8=>⟨[(0,.s p0),(2,.obj 2 0),(3,.i x8)],[(2,[.i 0,.i 0])],[]⟩) (fun p0 x8 h=>?_) ?_
 ·refine Wp.cl false 1 23 [.s p0] h (fun _=>impl_WeakOf_ok) (fun r9 h=>?_)
  obtain rfl:=oi h
  exact Wp.ret RetB
 refine Wp.sr ?_
 refine Runs.ln 1 5 (eInt .u8) p0 ?_
 refine Runs.alln ?_
 refine Wp.block ?_
 refine Wp.l3 (fun k_impl_SumOf_l2 p0 x3 x4=>impl_SumOf_l2 u k_impl_SumOf_l2 p0 x3 x4=some r) (fun p0 x3 x4=>⟨[(0,.s p0),(2,.obj 2 0),(3,.i x3),(10,.s p0),(11,.i ((p0.length:Int))),(12,.i x4)],[(2,[.i 0,.i 0])],[]⟩) (fun k_impl_SumOf_l2 p0 x3 x4 h=>?_) h (lo []) (fun _ _ _  h=>nomatch h)
 rw [impl_SumOf_l2] at h
 refine Wp.sa ?_
 refine Wp.seq ?_
 refine Wp.c2 h (fun h=>?_) (fun h=>?_)
 ·refine Wp.sk ?_
  refine Wp.seq ?_
  refine Wp.block ?_
  refine Wp.sr ?_
  refine Runs.ix 0 5 1 (eInt .u8) h (fun y7 h _=>?_)
  refine Runs.alln ?_
  refine Wp.rg [] [] ?_
  refine Runs.all kr ?_
  refine blkN ?_
  refine thenN ?_
  refine Wp.rg [] [] ?_
  refine Runs.alln ?_
  exact ⟨_,_,_,h,lo []⟩
 refine Wp.exit ?_
 refine thenE ?_
 refine thenE ?_
 refine blkE ?_
 refine thenN ?_
 exact ⟨_,_,h,lo []⟩
theorem impl_SumsOf_okd {u p0 p1 r} (h:impl_SumsOf u p0 p1=some r):DOK Try.prog 24 [.one (.s p0),V.i p1] (.one (.ow 89 2 (r.map Sum.enc))):=by
 unfold impl_SumsOf at h
 refine DOK.of_bodyK (fn:=Try.f24) (m:=true) kr rfl kr kr kr ?_
 refine Wp.sa ?_
 refine Wp.sa ?_
 refine Wp.j1 (fun x10=>impl_SumsOf_j1 u x10=some r) (fun x10=>⟨[(4,.nil),(5,.own 327681)],[],[(327681,.live 89 2 (x10.map Sum.enc))]⟩) (fun x10 h=>?_) ?_
 ·refine Wp.sa ?_
  obtain rfl:=oi h
  exact Wp.ret RetB
 refine Wp.sr ?_
 refine Runs.batch 2 kr ?_
 refine Runs.lenX (e:=5) (eInt .u8) p0 false 1 rfl rfl rfl kr kr kr kr ?_
 refine Runs.cl false 0 13 [.i p1,.i ((p0.length:Int))] h (fun _=>impl_Blocks_ok) (fun r1 h=>?_)
 refine Runs.alln ?_
 refine Wp.block ?_
 refine Wp.l5 (fun k_impl_SumsOf_l2 p0 p1 x4 r1 x5=>impl_SumsOf_l2 u k_impl_SumsOf_l2 p0 p1 x4 r1 x5=some r) (fun p0 p1 x4 r1 x5=>⟨[(0,.ext false (.sl 1 (p0.map (eInt .u8)))),(1,.i p1),(4,.nil),(5,.own 327681),(13,.i r1),(14,.i x5)],[],[(327681,.live 89 2 (x4.map Sum.enc))]⟩) (fun k_impl_SumsOf_l2 p0 p1 x4 r1 x5 h=>?_) h (lo [(327681,589824)]) (fun _ _ _ _ _  h=>nomatch h)
 rw [impl_SumsOf_l2] at h
 refine Wp.sa ?_
 refine Wp.seq ?_
 refine Wp.c2 h (fun h=>?_) (fun h=>?_)
 ·refine Wp.sk ?_
  refine Wp.seq ?_
  refine Wp.block ?_
  refine Wp.sa ?_
  refine Wp.sr ?_
  refine Runs.batch 3 kr ?_
  obtain ⟨r8,e_r8,h⟩:=bind_some h
  refine Runs.callDK 21 53 [] [.ext false (.sl 1 (p0.map (eInt .u8))),.i p1,.i x5] [.one (.s p0),.one (.i p1),.one (.i x5)] (.tup [.one (.ow 5 1 (r8.1.map (eInt .u8))),V.b r8.2]) rfl rfl kr kr kr kr kr (impl_BlockAt_okd e_r8) kr ?_
  refine Runs.alln ?_
  refine Wp.rg [] [] ?_
  refine Runs.cb 2 26 [.own 1376256] h (fun _=>impl_SumOf_ok) (fun r9 h=>?_)
  refine Runs.ap (ys:=[r9]) 1 28 89 2 327681 Sum.enc h (fun h=>?_)
  refine Runs.all kr ?_
  refine blkN ?_
  refine thenN ?_
  refine Wp.rg [] [] ?_
  refine Runs.alln ?_
  exact ⟨_,_,_,_,_,h,lo [(327681,1835008)]⟩
 refine Wp.exit ?_
 refine thenE ?_
 refine thenE ?_
 refine blkE ?_
 refine thenN ?_
 exact ⟨_,h,lo []⟩
theorem impl_ManOf_okd {u p0 p1 p2 r} (h:impl_ManOf u p0 p1 p2=some r):DOK Try.prog 6 [V.i p0,.one (.s p1),V.i p2] (V.w [0,0,0,89] (Manifest.enc r)):=by
 unfold impl_ManOf at h
 refine DOK.of_bodyK (fn:=Try.f6) (m:=true) kr rfl kr kr kr ?_
 refine Wp.sa ?_
 refine Wp.seq ?_
 refine Wp.j4 (fun p0 p1 p2 x3=>impl_ManOf_j1 u p0 p1 p2 x3=some r) (fun p0 p1 p2 x3=>⟨[(0,.i p0),(1,.ext false (.sl 1 (p1.map (eInt .u8)))),(2,.i p2),(6,.obj 6 0),(16,.b x3)],[(6,[.i 0,.i 0,.i 0,.nil])],[]⟩) (fun p0 p1 p2 x3 h=>?_) ?_
 ·refine Wp.c2 h (fun h=>?_) (fun h=>?_)
  ·refine Wp.sa ?_
   obtain rfl:=oi h
   exact Wp.ret RetB
  refine Wp.sk ?_
  refine Wp.sr ?_
  refine Runs.batch 3 kr ?_
  refine Runs.lenX (e:=5) (eInt .u8) p1 false 1 rfl rfl rfl kr kr kr kr ?_
  refine Runs.batch 2 kr ?_
  obtain ⟨r4,e_r4,h⟩:=bind_some h
  refine Runs.callDK 24 24 [] [.ext false (.sl 1 (p1.map (eInt .u8))),.i p2] [.one (.s p1),.one (.i p2)] (.one (.ow 89 2 (r4.map Sum.enc))) rfl rfl kr kr kr kr kr (impl_SumsOf_okd e_r4) kr ?_
  refine Runs.alln ?_
  obtain rfl:=oi h
  exact Wp.ret RetB
 refine Wp.rg [] [] ?_
 refine Runs.cl false 1 8 [.i p0,.i 1,.i 1000000] h (fun _=>impl_within_ok) (fun r1 h=>?_)
 refine Runs.c2 2 10 h (fun h=>?_) (fun h=>?_)
 ·refine Runs.alln ?_
  exact ⟨_,_,_,_,h,lo []⟩
 refine Runs.batch 2 kr ?_
 refine Runs.lenX (e:=5) (eInt .u8) p1 false 1 rfl rfl rfl kr kr kr kr ?_
 refine Runs.cl false 0 14 [.i p2,.i ((p1.length:Int))] h (fun _=>impl_SizeOk_ok) (fun r2 h=>?_)
 refine Runs.alln ?_
 exact ⟨_,_,_,_,h,lo []⟩
theorem impl_isZeroMan_ok {u p0 r} (h:impl_isZeroMan u p0=some r):CallOK Try.prog 55 [V.g (Manifest.enc p0)] (V.b r) []:=by
 unfold impl_isZeroMan at h
 refine ofb Try.f55 false ?_
 refine Wp.sa ?_
 refine Wp.sr ?_
 refine Runs.c2 4 6 h (fun h=>?_) (fun h=>?_)
 ·refine Runs.c2 5 11 h (fun h=>?_) (fun h=>?_)
  ·refine Runs.c2 5 16 h (fun h=>?_) (fun h=>?_)
   ·refine Runs.ln 2 89 Sum.enc p0.fSums ?_
    refine Runs.alln ?_
    obtain rfl:=oi h
    exact Wp.ret RetB
   refine Runs.alln ?_
   obtain rfl:=oi h
   exact Wp.ret RetB
  refine Runs.alln ?_
  obtain rfl:=oi h
  exact Wp.ret RetB
 refine Runs.alln ?_
 obtain rfl:=oi h
 exact Wp.ret RetB
theorem impl_BytesOf_ok {u p0 r} (h:impl_BytesOf u p0=some r):CallOK Try.prog 56 [V.i p0] (.tup [.one (.ow 5 1 (r.1.map (eInt .u8))),V.b r.2]) []:=by
 unfold impl_BytesOf at h
 refine ofb Try.f56 true ?_
 refine Wp.sa ?_
 refine Wp.sa ?_
 refine Wp.j2 (fun p0 x5=>impl_BytesOf_j1 u p0 x5=some r) (fun p0 x5=>⟨[(0,.i p0),(2,.nil),(3,.b false),(4,.i x5)],[],[]⟩) (fun p0 x5 h=>?_) ?_
 ·refine Wp.seq ?_
  refine Wp.j3 (fun p0 x5 x6=>impl_BytesOf_j2 u p0 x5 x6=some r) (fun p0 x5 x6=>⟨[(0,.i p0),(2,.nil),(3,.b false),(4,.i x5),(26,.b x6)],[],[]⟩) (fun p0 x5 x6 h=>?_) ?_
  ·refine Wp.c2 h (fun h=>?_) (fun h=>?_)
   ·refine Wp.sa ?_
    obtain rfl:=oi h
    exact Wp.ret RetB
   refine Wp.sk ?_
   refine Wp.sr ?_
   refine Runs.batch 1 kr ?_
   obtain ⟨_,e_7,h⟩:=bind_some h
   obtain ⟨_,e_8,h⟩:=bind_some h
   refine Runs.mkS (eInt .u8) (0:Int) 28 5 1 1 x5 x5 rfl rfl kr kr kr kr kr kr (chk_some e_7) (of_decide_eq_true (chk_some e_8)) kr ?_
   refine Runs.alln ?_
   refine Wp.j1 (fun x17=>impl_BytesOf_j3 u x17=some r) (fun x17=>⟨[(2,.nil),(3,.b false),(5,.own 327681)],[],[(327681,.live 5 1 (x17.map (eInt .u8)))]⟩) (fun x17 h=>?_) ?_
   ·refine Wp.sa ?_
    obtain rfl:=oi h
    exact Wp.ret RetB
   refine Wp.sr ?_
   refine Runs.ln 1 5 (eInt .u8) (List.replicate (Int.toNat x5) (0:Int)) ?_
   refine Runs.alln ?_
   refine Wp.block ?_
   refine Wp.l4 (fun k_impl_BytesOf_l4 p0 x5 x11 x12=>impl_BytesOf_l4 u k_impl_BytesOf_l4 p0 x5 x11 x12=some r) (fun p0 x5 x11 x12=>⟨[(0,.i p0),(2,.nil),(3,.b false),(4,.i x5),(5,.own 327681),(30,.i (((List.replicate (Int.toNat x5) (0:Int)).length:Int))),(31,.i x12)],[],[(327681,.live 5 1 (x11.map (eInt .u8)))]⟩) (fun k_impl_BytesOf_l4 p0 x5 x11 x12 h=>?_) h (lo [(327681,1835008)]) (fun _ _ _ _  h=>nomatch h)
   rw [impl_BytesOf_l4] at h
   refine Wp.sa ?_
   refine Wp.seq ?_
   refine Wp.c2 h (fun h=>?_) (fun h=>?_)
   ·refine Wp.sk ?_
    refine Wp.seq ?_
    refine Wp.block ?_
    refine Wp.sa ?_
    refine Wp.rg [] [] ?_
    refine Runs.batch 8 kr ?_
    obtain ⟨_,e_15,h⟩:=bind_some h
    refine Runs.num .shr (.int .i64 p0) (.int .i64 (bMul .i64 8 (bSub .i64 (bSub .i64 x5 1) x12))) (.int .i64 (bShr .i64 p0 (bMul .i64 8 (bSub .i64 (bSub .i64 x5 1) x12)))) rfl kr kr kr kr (bin_shr _ _ _ _ _ (chk_some e_15)) ?_
    refine Runs.ixo 1 5 1 327681 5 (eInt .u8) h (fun y16 h e_y16=>?_)
    refine Runs.storeT (e:=5) (sz:=1) (m:=1) (eInt .u8) x11 327681 (Int.toNat x12) 0 (IntKind.wrap .u8 (bShr .i64 p0 (bMul .i64 8 (bSub .i64 (bSub .i64 x5 1) x12)))) (.t (.int .u8 (IntKind.wrap .u8 (bShr .i64 p0 (bMul .i64 8 (bSub .i64 (bSub .i64 x5 1) x12)))))) [.int .u8 (IntKind.wrap .u8 (bShr .i64 p0 (bMul .i64 8 (bSub .i64 (bSub .i64 x5 1) x12))))] rfl kr kr kr kr kr kr kr kr ((idx_some e_y16).2) kr kr ?_
    refine Runs.all kr ?_
    refine blkN ?_
    refine thenN ?_
    refine Wp.rg [] [] ?_
    refine Runs.alln ?_
    exact ⟨_,_,_,_,h,lo []⟩
   refine Wp.exit ?_
   refine thenE ?_
   refine thenE ?_
   refine blkE ?_
   refine thenN ?_
   exact ⟨_,h,lo []⟩
  refine Wp.rg [] [] ?_
  refine Runs.c2 3 20 h (fun h=>?_) (fun h=>?_)
  ·refine Runs.alln ?_
   exact ⟨_,_,_,h,lo []⟩
  refine Runs.batch 3 kr ?_
  obtain ⟨_,e_6,h⟩:=bind_some h
  refine Runs.num .shr (.int .i64 p0) (.int .i64 (bMul .i64 8 x5)) (.int .i64 (bShr .i64 p0 (bMul .i64 8 x5))) rfl kr kr kr kr (bin_shr _ _ _ _ _ (chk_some e_6)) ?_
  refine Runs.alln ?_
  exact ⟨_,_,_,h,lo []⟩
 refine Wp.block ?_
 refine Wp.l2 (fun k_impl_BytesOf_l5 p0 x2=>impl_BytesOf_l5 u k_impl_BytesOf_l5 p0 x2=some r) (fun p0 x2=>⟨[(0,.i p0),(2,.nil),(3,.b false),(4,.i x2)],[],[]⟩) (fun k_impl_BytesOf_l5 p0 x2 h=>?_) h (lo []) (fun _ _  h=>nomatch h)
 rw [impl_BytesOf_l5] at h
 refine Wp.seq ?_
 refine Wp.j3 (fun p0 x2 x4=>impl_BytesOf_j6 u (fun z0 z1=>impl_BytesOf_l5 u k_impl_BytesOf_l5 z0 z1) p0 x2 x4=some r) (fun p0 x2 x4=>⟨[(0,.i p0),(2,.nil),(3,.b false),(4,.i x2),(15,.b x4)],[],[]⟩) (fun p0 x2 x4 h=>?_) ?_
 ·refine Wp.c2 h (fun h=>?_) (fun h=>?_)
  ·refine Wp.sk ?_
   refine Wp.block ?_
   refine Wp.rg [] [] ?_
   refine Runs.all kr ?_
   refine blkN ?_
   refine thenN ?_
   exact ⟨_,_,h,lo []⟩
  refine Wp.exit ?_
  refine thenE ?_
  refine thenE ?_
  refine blkE ?_
  refine thenN ?_
  exact ⟨_,_,h,lo []⟩
 refine Wp.rg [] [] ?_
 refine Runs.c2 3 9 h (fun h=>?_) (fun h=>?_)
 ·refine Runs.batch 3 kr ?_
  obtain ⟨_,e_4,h⟩:=bind_some h
  refine Runs.num .shr (.int .i64 p0) (.int .i64 (bMul .i64 8 x2)) (.int .i64 (bShr .i64 p0 (bMul .i64 8 x2))) rfl kr kr kr kr (bin_shr _ _ _ _ _ (chk_some e_4)) ?_
  refine Runs.alln ?_
  exact ⟨_,_,_,h,lo []⟩
 refine Runs.alln ?_
 exact ⟨_,_,_,h,lo []⟩
theorem impl_ManOk_ok {u p0 r} (h:impl_ManOk u p0=some r):CallOK Try.prog 26 [V.g (Manifest.enc p0)] (V.b r) []:=by
 unfold impl_ManOk at h
 refine ofb Try.f26 false ?_
 refine Wp.sa ?_
 refine Wp.seq ?_
 refine Wp.cl false 1 10 [.agg ((Manifest.enc p0).map .t)] h (fun _=>impl_isZeroMan_ok) (fun r1 h=>?_)
 refine Wp.c2 h (fun h=>?_) (fun h=>?_)
 ·refine Wp.sa ?_
  obtain rfl:=oi h
  exact Wp.ret RetB
 refine Wp.sk ?_
 refine Wp.seq ?_
 refine Wp.j2 (fun x5 p0=>impl_ManOk_j1 u x5 p0=some r) (fun x5 p0=>⟨[(1,.obj 1 0),(2,.b false),(33,.b x5)],[(1,((Manifest.enc p0).map .t))],[]⟩) (fun x5 p0 h=>?_) ?_
 ·refine Wp.c2 h (fun h=>?_) (fun h=>?_)
  ·refine Wp.sa ?_
   obtain rfl:=oi h
   exact Wp.ret RetB
  refine Wp.sk ?_
  refine Wp.j0 (impl_ManOk_j2 u=some r) ⟨[(2,.b false)],[],[]⟩ (fun h=>?_) ?_
  ·refine Wp.sa ?_
   obtain rfl:=oi h
   exact Wp.ret RetB
  refine Wp.sr ?_
  refine Runs.ln 2 89 Sum.enc p0.fSums ?_
  refine Runs.alln ?_
  refine Wp.block ?_
  refine Wp.l2 (fun k_impl_ManOk_l3 p0 x7=>impl_ManOk_l3 u k_impl_ManOk_l3 p0 x7=some r) (fun p0 x7=>⟨[(1,.obj 1 0),(2,.b false),(35,.t (.sl 2 (p0.fSums.map Sum.enc))),(36,.i ((p0.fSums.length:Int))),(37,.i x7)],[(1,((Manifest.enc p0).map .t))],[]⟩) (fun k_impl_ManOk_l3 p0 x7 h=>?_) h (lo []) (fun _ _  h=>nomatch h)
  rw [impl_ManOk_l3] at h
  refine Wp.sa ?_
  refine Wp.seq ?_
  refine Wp.c2 h (fun h=>?_) (fun h=>?_)
  ·refine Wp.sk ?_
   refine Wp.seq ?_
   refine Wp.block ?_
   refine Wp.sr ?_
   refine Runs.ix 1 89 2 Sum.enc h (fun y9 h _=>?_)
   refine Runs.alln ?_
   refine Wp.cl false 2 45 [.i y9.fS] h (fun _=>impl_BytesOf_ok) (fun r10 h=>?_)
   refine Wp.cl false 5 54 [.i p0.fSize,.i p0.fLen,.i x7] h (fun _=>impl_SpanOf_ok) (fun r11 h=>?_)
   refine Wp.j3 (fun p0 x7 x13=>impl_ManOk_j4 u (fun z0 z1=>impl_ManOk_l3 u k_impl_ManOk_l3 z0 z1) p0 x7 x13=some r) (fun p0 x7 x13=>⟨[(1,.obj 1 0),(2,.b false),(35,.t (.sl 2 (p0.fSums.map Sum.enc))),(36,.i ((p0.fSums.length:Int))),(37,.i x7),(71,.b x13)],[(1,((Manifest.enc p0).map .t))],[]⟩) (fun p0 x7 x13 h=>?_) ?_
   ·refine Wp.c2 h (fun h=>?_) (fun h=>?_)
    ·refine Wp.sa ?_
     obtain rfl:=oi h
     exact Wp.ret RetB
    refine Wp.skip ?_
    refine blkN ?_
    refine thenN ?_
    refine Wp.rg [] [] ?_
    refine Runs.alln ?_
    exact ⟨_,_,h,lo []⟩
   refine Wp.regionA (pOf []) (rhoOf [(4,.obj 4),(5,.own 45),(6,.frz),(8,.frz),(57,.frz),(58,.frz),(59,.frz),(60,.own 45),(61,.frz),(62,.frz),(64,.frz),(65,.frz),(66,.own 45),(67,.frz),(68,.obj 4),(69,.frz)]) kr kr ?_
   refine Runs.c2 3 59 h (fun h=>?_) (fun h=>?_)
   ·refine Runs.alln ?_
    exact ⟨_,_,_,h,lo []⟩
   refine Runs.ln 1 5 (eInt .u8) r10.1 ?_
   refine Runs.c2 4 65 h (fun h=>?_) (fun h=>?_)
   ·refine Runs.alln ?_
    exact ⟨_,_,_,h,lo []⟩
   refine Runs.cb 1 67 [.own 2949120] h (fun _=>impl_WeakOf_ok) (fun r12 h=>?_)
   refine Runs.alln ?_
   exact ⟨_,_,_,h,lo []⟩
  refine Wp.exit ?_
  refine thenE ?_
  refine thenE ?_
  refine blkE ?_
  refine thenN ?_
  exact ⟨h,lo []⟩
 refine Wp.regionA (pOf []) (rhoOf [(1,.obj 1),(11,.obj 1),(12,.frz),(13,.frz),(14,.frz),(15,.frz),(16,.obj 1),(17,.frz),(18,.obj 1),(19,.frz),(20,.frz),(22,.frz),(23,.frz),(24,.obj 1),(25,.frz),(26,.frz),(27,.obj 1),(28,.frz),(29,.obj 1),(30,.frz),(31,.frz)]) kr kr ?_
 refine Runs.cl false 2 13 [.i p0.fGen,.i 1,.i 1000000] h (fun _=>impl_within_ok) (fun r2 h=>?_)
 refine Runs.c2 2 15 h (fun h=>?_) (fun h=>?_)
 ·refine Runs.alln ?_
  exact ⟨_,_,h,lo []⟩
 refine Runs.cl false 4 20 [.i p0.fSize,.i p0.fLen] h (fun _=>impl_SizeOk_ok) (fun r3 h=>?_)
 refine Runs.c2 3 23 h (fun h=>?_) (fun h=>?_)
 ·refine Runs.alln ?_
  exact ⟨_,_,h,lo []⟩
 refine Runs.ln 2 89 Sum.enc p0.fSums ?_
 refine Runs.cl false 4 31 [.i p0.fSize,.i p0.fLen] h (fun _=>impl_Blocks_ok) (fun r4 h=>?_)
 refine Runs.alln ?_
 exact ⟨_,_,h,lo []⟩
theorem impl_FindSum_ok {u p0 p1 p2 r} (h:impl_FindSum u p0 p1 p2=some r):CallOK Try.prog 58 [.one (.s p0),V.g (Sum.enc p1),V.i p2] (V.i r) []:=by
 unfold impl_FindSum at h
 refine ofb Try.f58 false ?_
 refine Wp.sa ?_
 refine Wp.seq ?_
 refine Wp.cl false 1 9 [.i p2,.i 1,.i 6] h (fun _=>impl_within_ok) (fun r1 h=>?_)
 refine Wp.c2 h (fun h=>?_) (fun h=>?_)
 ·refine Wp.sa ?_
  obtain rfl:=oi h
  exact Wp.ret RetB
 refine Wp.sk ?_
 refine Wp.j0 (impl_FindSum_j1 u=some r) ⟨[(6,.i 0)],[],[]⟩ (fun h=>?_) ?_
 ·refine Wp.sa ?_
  obtain rfl:=oi h
  exact Wp.ret RetB
 refine Wp.sa ?_
 refine Wp.block ?_
 refine Wp.l4 (fun k_impl_FindSum_l2 p0 p2 x3 p1=>impl_FindSum_l2 u k_impl_FindSum_l2 p0 p2 x3 p1=some r) (fun p0 p2 x3 p1=>⟨[(0,.s p0),(2,.i p2),(4,.obj 4 0),(6,.i 0),(7,.i x3)],[(4,[.i p1.fW,.i p1.fS])],[]⟩) (fun k_impl_FindSum_l2 p0 p2 x3 p1 h=>?_) h (lo []) (fun _ _ _ _  h=>nomatch h)
 rw [impl_FindSum_l2] at h
 refine Wp.seq ?_
 refine Wp.sr ?_
 refine Runs.ln 4 5 (eInt .u8) p0 ?_
 refine Runs.alln ?_
 refine Wp.c2 h (fun h=>?_) (fun h=>?_)
 ·refine Wp.sk ?_
  refine Wp.seq ?_
  refine Wp.block ?_
  refine Wp.seq ?_
  refine Wp.regionA (pOf []) (rhoOf [(0,.frz),(2,.frz),(4,.obj 4),(7,.frz),(19,.frz),(20,.frz),(21,.frz),(22,.frz),(23,.frz),(24,.frz),(25,.frz),(26,.frz)]) kr kr ?_
  refine Runs.batch 5 kr ?_
  obtain ⟨_,e_5,h⟩:=bind_some h
  refine Runs.subsl (e:=5) (ax:=.s p0) (alo:=(some (.i x3))) (ahi:=(some (.i (bAdd .i64 x3 p2)))) (eInt .u8) p0 1 x3 (bAdd .i64 x3 p2) rfl kr kr kr kr kr kr kr kr kr kr kr (chk_some e_5) ?_
  refine Runs.cl false 0 25 [.t (.sl 1 (((p0.take (Int.toNat (bAdd .i64 x3 p2))).drop (Int.toNat x3)).map (eInt .u8)))] h (fun _=>impl_SumOf_ok) (fun r6 h=>?_)
  refine Runs.alln ?_
  refine Wp.c2 h (fun h=>?_) (fun h=>?_)
  ·refine Wp.sa ?_
   obtain rfl:=oi h
   exact Wp.ret RetB
  refine Wp.skip ?_
  refine blkN ?_
  refine thenN ?_
  refine Wp.rg [] [] ?_
  refine Runs.alln ?_
  exact ⟨_,_,_,_,h,lo []⟩
 refine Wp.exit ?_
 refine thenE ?_
 refine thenE ?_
 refine blkE ?_
 refine thenN ?_
 exact ⟨h,lo []⟩
theorem impl_PlaceOf_ok {u p0 p1 p2 r} (h:impl_PlaceOf u p0 p1 p2=some r):CallOK Try.prog 28 [.one (.s p0),V.g (Manifest.enc p1),V.i p2] (V.i r) []:=by
 unfold impl_PlaceOf at h
 refine ofb Try.f28 false ?_
 refine Wp.sa ?_
 refine Wp.cl false 5 15 [.i p1.fSize,.i p1.fLen,.i p2] h (fun _=>impl_SpanOf_ok) (fun r1 h=>?_)
 refine Wp.seq ?_
 refine Wp.sr ?_
 refine Runs.ln 3 89 Sum.enc p1.fSums ?_
 refine Runs.cl false 1 23 [.i p2,.i 0,.i (bSub .i64 ((p1.fSums.length:Int)) 1)] h (fun _=>impl_within_ok) (fun r2 h=>?_)
 refine Runs.alln ?_
 refine Wp.c2 h (fun h=>?_) (fun h=>?_)
 ·refine Wp.sa ?_
  obtain rfl:=oi h
  exact Wp.ret RetB
 refine Wp.sk ?_
 refine Wp.sr ?_
 refine Runs.ix 4 89 2 Sum.enc h (fun y3 h _=>?_)
 refine Runs.cl false 2 32 [.s p0,.agg [.i y3.fW,.i y3.fS],.i r1.2] h (fun _=>impl_FindSum_ok) (fun r4 h=>?_)
 refine Runs.alln ?_
 obtain rfl:=oi h
 exact Wp.ret RetB
theorem impl_BuildNew_ok {u p0 r} (h:impl_BuildNew u p0=some r):CallOK Try.prog 25 [V.g (Manifest.enc p0)] (V.w [0,5] (Build.enc r)) []:=by
 unfold impl_BuildNew at h
 refine ofb Try.f25 true ?_
 refine Wp.sa ?_
 refine Wp.seq ?_
 refine Wp.cl false 1 4 [.agg ((Manifest.enc p0).map .t)] h (fun _=>impl_ManOk_ok) (fun r1 h=>?_)
 refine Wp.c2 h (fun h=>?_) (fun h=>?_)
 ·refine Wp.sa ?_
  obtain rfl:=oi h
  exact Wp.ret RetB
 refine Wp.sk ?_
 refine Wp.sr ?_
 refine Runs.batch 2 kr ?_
 obtain ⟨_,e_2,h⟩:=bind_some h
 obtain ⟨_,e_3,h⟩:=bind_some h
 refine Runs.mkS (eInt .u8) (0:Int) 9 5 1 1 p0.fLen p0.fLen rfl rfl kr kr kr kr kr kr (chk_some e_2) (of_decide_eq_true (chk_some e_3)) kr ?_
 refine Runs.alln ?_
 obtain rfl:=oi h
 exact Wp.ret RetB
theorem impl_Build__block__w_okw {u p0 p1 p2 r} (h:impl_Build__block__w u p0 p1 p2=some r):WinOK Try.prog 59 5 [.int .i64 p0.fHave] (p0.fBuf.map (eInt .u8)) [V.g (Manifest.enc p1),V.i p2] (Int.toNat r.1) (Int.toNat (r.2 - r.1)):=by
 unfold impl_Build__block__w at h
 refine obw Try.f59 [.agg ((Manifest.enc p1).map .t),.i p2] ?_ (sc_ints _ _)
 refine Wp.sa ?_
 refine Wp.cl false 5 15 [.i p1.fSize,.i p1.fLen,.i p2] h (fun _=>impl_SpanOf_ok) (fun r1 h=>?_)
 refine Wp.srg [] [(24,.win 900)] ?_
 refine Runs.batch 6 kr ?_
 obtain ⟨_,e_2,h⟩:=bind_some h
 refine Runs.winO (e:=5) (e':=5) (alo:=(some (.i r1.1))) (ahi:=(some (.i (bAdd .i64 r1.1 r1.2)))) (eInt .u8) p0.fBuf 58982400 r1.1 (bAdd .i64 r1.1 r1.2) rfl kr kr kr kr kr rfl kr kr kr kr kr kr (chk_some e_2) ?_
 refine Runs.alln ?_
 refine Wp.ret ?_
 obtain rfl:=oi h
 exact RetW
theorem impl_Build__put_ok {u p0 p1 p2 p3 r} (h:impl_Build__put u p0 p1 p2 p3=some r):CallOK Try.prog 29 [.ptr (cw [0,5] (Build.enc p0)),V.g (Manifest.enc p1),V.i p2,.one (.s p3)] (.tup []) [cw [0,5] (Build.enc r)]:=by
 unfold impl_Build__put at h
 refine ofb Try.f29 false ?_
 refine Wp.sa ?_
 refine Wp.seq ?_
 refine Wp.regionA (pOf []) (rhoOf [(0,.obj 900),(2,.frz),(3,.frz),(5,.obj 5),(8,.obj 900),(9,.obj 900),(10,.own 900),(11,.frz),(12,.frz),(13,.win 900),(14,.frz)]) kr kr ?_
 refine Runs.batch 5 kr ?_
 obtain ⟨r1,e_r1,h⟩:=bind_some h
 refine Runs.cw 0 13 58982401 [.int .i64 p0.fHave] (p0.fBuf.map (eInt .u8)) [.agg ((Manifest.enc p1).map .t),.i p2] (impl_Build__block__w_okw e_r1) ?_
 refine Runs.batch 1 kr ?_
 obtain ⟨_,e_2,h⟩:=bind_some h
 refine Runs.copyW (y:=.s p3) (e:=5) (e':=5) (eInt .u8) p0.fBuf p3 58982401 (Int.toNat r1.1) (Int.toNat (r1.2 - r1.1)) 1 rfl rfl rfl kr kr kr kr kr (.inl rfl) kr kr kr (cp_1 (chk_some e_2)) (cp_2 (chk_some e_2)) ?_
 refine Runs.alln ?_
 refine Wp.regionA (pOf []) (rhoOf [(0,.obj 900),(2,.frz),(16,.obj 900),(17,.obj 900),(18,.obj 900),(19,.frz),(20,.frz),(21,.frz),(22,.frz),(23,.obj 900),(24,.obj 900)]) kr kr ?_
 refine Runs.batch 5 kr ?_
 obtain ⟨_,e_3,h⟩:=bind_some h
 refine Runs.num .shl (.int .i64 1) (.int .i64 p2) (.int .i64 (bShl .i64 1 p2)) rfl kr kr kr kr (bin_shl _ _ _ _ _ (chk_some e_3)) ?_
 refine Runs.all kr ?_
 obtain rfl:=oi h
 exact RetBn
theorem impl_BuildFrom_ok {u p0 p1 r} (h:impl_BuildFrom u p0 p1=some r):CallOK Try.prog 7 [V.g (Manifest.enc p0),.one (.s p1)] (V.w [0,5] (Build.enc r)) []:=by
 unfold impl_BuildFrom at h
 refine ofb Try.f7 true ?_
 refine Wp.sa ?_
 refine Wp.cl false 1 11 [.agg ((Manifest.enc p0).map .t)] h (fun _=>impl_BuildNew_ok) (fun r1 h=>?_)
 refine Wp.seq ?_
 refine Wp.cl false 1 13 [.agg ((Manifest.enc p0).map .t)] h (fun _=>impl_ManOk_ok) (fun r2 h=>?_)
 refine Wp.c2 h (fun h=>?_) (fun h=>?_)
 ·refine Wp.sa ?_
  obtain rfl:=oi h
  exact Wp.ret RetB
 refine Wp.sk ?_
 refine Wp.j2 (fun x18 x19=>impl_BuildFrom_j1 u x18 x19=some r) (fun x18 x19=>⟨[(4,.obj 4 0),(5,.obj 5 0)],[(4,[.i 0,.nil]),(5,[.i x18,.own 328193])],[(328193,.live 5 1 (x19.map (eInt .u8)))]⟩) (fun x18 x19 h=>?_) ?_
 ·refine Wp.sa ?_
  obtain rfl:=oi h
  exact Wp.ret RetB
 refine Wp.sr ?_
 refine Runs.ln 2 89 Sum.enc p0.fSums ?_
 refine Runs.alln ?_
 refine Wp.block ?_
 refine Wp.l5 (fun k_impl_BuildFrom_l2 p1 p0 x6 x7 x8=>impl_BuildFrom_l2 u k_impl_BuildFrom_l2 p1 p0 x6 x7 x8=some r) (fun p1 p0 x6 x7 x8=>⟨[(1,.s p1),(2,.obj 2 0),(4,.obj 4 0),(5,.obj 5 0),(18,.i ((p0.fSums.length:Int))),(19,.i x6)],[(2,((Manifest.enc p0).map .t)),(4,[.i 0,.nil]),(5,[.i x7,.own 328193])],[(328193,.live 5 1 (x8.map (eInt .u8)))]⟩) (fun k_impl_BuildFrom_l2 p1 p0 x6 x7 x8 h=>?_) h (lo [(328193,720897)]) (fun _ _ _ _ _  h=>nomatch h)
 rw [impl_BuildFrom_l2] at h
 refine Wp.sa ?_
 refine Wp.seq ?_
 refine Wp.c2 h (fun h=>?_) (fun h=>?_)
 ·refine Wp.sk ?_
  refine Wp.j5 (fun p1 p0 x6 x16 x17=>impl_BuildFrom_j3 u (fun z0 z1 z2 z3 z4=>impl_BuildFrom_l2 u k_impl_BuildFrom_l2 z0 z1 z2 z3 z4) p1 p0 x6 x16 x17=some r) (fun p1 p0 x6 x16 x17=>⟨[(1,.s p1),(2,.obj 2 0),(4,.obj 4 0),(5,.obj 5 0),(18,.i ((p0.fSums.length:Int))),(19,.i x6)],[(2,((Manifest.enc p0).map .t)),(4,[.i 0,.nil]),(5,[.i x16,.own 328193])],[(328193,.live 5 1 (x17.map (eInt .u8)))]⟩) (fun p1 p0 x6 x16 x17 h=>?_) ?_
  ·refine Wp.rg [] [] ?_
   refine Runs.alln ?_
   exact ⟨_,_,_,_,_,h,lo []⟩
  refine Wp.block ?_
  refine Wp.sa ?_
  refine Wp.cl false 5 28 [.i p0.fSize,.i p0.fLen,.i x6] h (fun _=>impl_SpanOf_ok) (fun r12 h=>?_)
  refine Wp.cl false 3 34 [.s p1,.agg ((Manifest.enc p0).map .t),.i x6] h (fun _=>impl_PlaceOf_ok) (fun r13 h=>?_)
  refine Wp.sa ?_
  refine Wp.c2 h (fun h=>?_) (fun h=>?_)
  ·refine Wp.regionA (pOf []) (rhoOf [(1,.frz),(2,.obj 2),(5,.obj 5),(6,.frz),(8,.frz),(9,.frz),(37,.frz),(38,.frz),(39,.frz),(40,.frz),(41,.frz),(42,.frz),(43,.frz),(44,.frz)]) kr kr ?_
   refine Runs.batch 7 kr ?_
   obtain ⟨_,e_14,h⟩:=bind_some h
   refine Runs.subsl (e:=5) (ax:=.s p1) (alo:=(some (.i r13))) (ahi:=(some (.i (bAdd .i64 r13 r12.2)))) (eInt .u8) p1 1 r13 (bAdd .i64 r13 r12.2) rfl kr kr kr kr kr kr kr kr kr kr kr (chk_some e_14) ?_
   refine Runs.cl true 0 45 [.obj 5 0,.agg ((Manifest.enc p0).map .t),.i x6,.t (.sl 1 (((p1.take (Int.toNat (bAdd .i64 r13 r12.2))).drop (Int.toNat r13)).map (eInt .u8)))] h (fun _=>impl_Build__put_ok) (fun r15 h=>?_)
   refine Runs.all kr ?_
   refine blkN ?_
   refine thenN ?_
   exact ⟨_,_,_,_,_,h,lo [(328193,2950465)]⟩
  refine Wp.skip ?_
  refine blkN ?_
  refine thenN ?_
  exact ⟨_,_,_,_,_,h,lo []⟩
 refine Wp.exit ?_
 refine thenE ?_
 refine thenE ?_
 refine blkE ?_
 refine thenN ?_
 exact ⟨_,_,h,lo []⟩
theorem impl_isGen_ok {u p0 r} (h:impl_isGen u p0=some r):CallOK Try.prog 30 [V.i p0] (V.b r) []:=by
 unfold impl_isGen at h
 refine ofb Try.f30 false ?_
 refine Wp.sa ?_
 refine Wp.cl false 1 4 [.i p0,.i 0,.i 1000000] h (fun _=>impl_within_ok) (fun r1 h=>?_)
 obtain rfl:=oi h
 exact Wp.ret RetB
theorem impl_DiskNew_okd {u p0 p1 r} (h:impl_DiskNew u p0 p1=some r):DOK Try.prog 8 [V.i p0,.one (.s p1)] (V.w [5,5,0,0,0,80] (Disk.enc r)):=by
 unfold impl_DiskNew at h
 refine DOK.of_bodyK (fn:=Try.f8) (m:=true) kr rfl kr kr kr ?_
 refine Wp.sa ?_
 refine Wp.seq ?_
 refine Wp.j3 (fun p0 p1 x2=>impl_DiskNew_j1 u p0 p1 x2=some r) (fun p0 p1 x2=>⟨[(0,.i p0),(1,.ext false (.sl 1 (p1.map (eInt .u8)))),(4,.obj 4 0),(12,.b x2)],[(4,[.nil,.nil,.i 0,.i 0,.i 0,.nil])],[]⟩) (fun p0 p1 x2 h=>?_) ?_
 ·refine Wp.c2 h (fun h=>?_) (fun h=>?_)
  ·refine Wp.sa ?_
   obtain rfl:=oi h
   exact Wp.ret RetB
  refine Wp.sk ?_
  refine Wp.sr ?_
  refine Runs.batch 1 kr ?_
  obtain ⟨r3,e_r3,h⟩:=bind_some h
  refine Runs.callDK 15 31 [] [.ext false (.sl 1 (p1.map (eInt .u8)))] [.one (.s p1)] (.one (.ow 5 1 (r3.map (eInt .u8)))) rfl rfl kr kr kr kr kr (impl_cloned_okd e_r3) kr ?_
  refine Runs.batch 2 kr ?_
  refine Runs.lenX (e:=5) (eInt .u8) p1 false 1 rfl rfl rfl kr kr kr kr ?_
  refine Runs.alln ?_
  obtain rfl:=oi h
  exact Wp.ret RetB
 refine Wp.rg [] [] ?_
 refine Runs.cl false 1 6 [.i p0] h (fun _=>impl_isGen_ok) (fun r1 h=>?_)
 refine Runs.c2 2 8 h (fun h=>?_) (fun h=>?_)
 ·refine Runs.alln ?_
  exact ⟨_,_,_,h,lo []⟩
 refine Runs.batch 1 kr ?_
 refine Runs.lenX (e:=5) (eInt .u8) p1 false 1 rfl rfl rfl kr kr kr kr ?_
 refine Runs.alln ?_
 exact ⟨_,_,_,h,lo []⟩
theorem impl_isSlot_ok {u p0 r} (h:impl_isSlot u p0=some r):CallOK Try.prog 86 [V.i p0] (V.b r) []:=by
 unfold impl_isSlot at h
 refine ofb Try.f86 false ?_
 refine Wp.sa ?_
 refine Wp.sr ?_
 refine Runs.c2 3 5 h (fun h=>?_) (fun h=>?_)
 ·refine Runs.alln ?_
  obtain rfl:=oi h
  exact Wp.ret RetB
 refine Runs.alln ?_
 obtain rfl:=oi h
 exact Wp.ret RetB
theorem impl_isRecord_ok {u p0 r} (h:impl_isRecord u p0=some r):CallOK Try.prog 82 [V.g (Record.enc p0)] (V.b r) []:=by
 unfold impl_isRecord at h
 refine ofb Try.f82 false ?_
 refine Wp.sa ?_
 refine Wp.sr ?_
 refine Runs.cl false 2 5 [.i p0.fGen] h (fun _=>impl_isGen_ok) (fun r1 h=>?_)
 refine Runs.c2 1 6 h (fun h=>?_) (fun h=>?_)
 ·refine Runs.cl false 2 9 [.i p0.fSlot] h (fun _=>impl_isSlot_ok) (fun r2 h=>?_)
  refine Runs.c2 2 11 h (fun h=>?_) (fun h=>?_)
  ·refine Runs.cl false 2 14 [.i p0.fLen,.i 0,.i 240] h (fun _=>impl_within_ok) (fun r3 h=>?_)
   refine Runs.alln ?_
   obtain rfl:=oi h
   exact Wp.ret RetB
  refine Runs.alln ?_
  obtain rfl:=oi h
  exact Wp.ret RetB
 refine Runs.alln ?_
 obtain rfl:=oi h
 exact Wp.ret RetB
theorem impl_Disk__slot__frz0_ok {u p0 p1 r} (h:impl_Disk__slot__frz0 u p0 p1=some r):CallOK Try.prog 68 [.fptr [.sl 1 (p0.fA.map (eInt .u8)),.sl 1 (p0.fB.map (eInt .u8)),.int .i64 p0.fR.fGen,.int .i64 p0.fR.fSlot,.int .i64 p0.fR.fLen,.sl 6 (p0.fP.map Put.enc)],V.i p1] (.fptr [.sl 1 (r.map (eInt .u8))]) []:=by
 unfold impl_Disk__slot__frz0 at h
 refine ofb Try.f68 false ?_
 refine Wp.sa ?_
 refine Wp.seq ?_
 refine Wp.sa ?_
 refine Wp.c2 h (fun h=>?_) (fun h=>?_)
 ·refine Wp.sa ?_
  refine Wp.ret ?_
  refine thenR ?_
  obtain rfl:=Option.some.inj h
  exact RetK [.fadr (Disk.enc p0)] (.fptr ([.sl 1 (p0.fA.map (eInt .u8))]++[.sl 1 (p0.fB.map (eInt .u8)),.int .i64 p0.fR.fGen,.int .i64 p0.fR.fSlot,.int .i64 p0.fR.fLen,.sl 6 (p0.fP.map Put.enc)])) [] kr kr (.cut _ _) .nil
 refine Wp.sk ?_
 refine Wp.sa ?_
 refine Wp.ret ?_
 obtain rfl:=Option.some.inj h
 exact RetK [.fadr [.sl 1 (p0.fB.map (eInt .u8)),.int .i64 p0.fR.fGen,.int .i64 p0.fR.fSlot,.int .i64 p0.fR.fLen,.sl 6 (p0.fP.map Put.enc)]] (.fptr ([.sl 1 (p0.fB.map (eInt .u8))]++[.int .i64 p0.fR.fGen,.int .i64 p0.fR.fSlot,.int .i64 p0.fR.fLen,.sl 6 (p0.fP.map Put.enc)])) [] kr kr (.cut _ _) .nil
theorem impl_isPut_ok {u p0 r} (h:impl_isPut u p0=some r):CallOK Try.prog 85 [V.g (Put.enc p0)] (V.b r) []:=by
 unfold impl_isPut at h
 refine ofb Try.f85 false ?_
 refine Wp.sa ?_
 refine Wp.seq ?_
 refine Wp.sa ?_
 refine Wp.c2 h (fun h=>?_) (fun h=>?_)
 ·refine Wp.sr ?_
  refine Runs.c2 4 9 h (fun h=>?_) (fun h=>?_)
  ·refine Runs.ln 2 5 (eInt .u8) p0.fB ?_
   refine Runs.c2 3 15 h (fun h=>?_) (fun h=>?_)
   ·refine Runs.cl false 2 18 [.agg ((Record.enc p0.fR).map .t)] h (fun _=>impl_isRecord_ok) (fun r1 h=>?_)
    refine Runs.alln ?_
    obtain rfl:=oi h
    exact Wp.ret RetB
   refine Runs.alln ?_
   obtain rfl:=oi h
   exact Wp.ret RetB
  refine Runs.alln ?_
  obtain rfl:=oi h
  exact Wp.ret RetB
 refine Wp.sk ?_
 refine Wp.sr ?_
 refine Runs.cl false 2 22 [.i p0.fWhat] h (fun _=>impl_isSlot_ok) (fun r2 h=>?_)
 refine Runs.c2 1 23 h (fun h=>?_) (fun h=>?_)
 ·refine Runs.c2 6 29 h (fun h=>?_) (fun h=>?_)
  ·refine Runs.ln 4 5 (eInt .u8) p0.fB ?_
   refine Runs.cl false 1 36 [.i p0.fAt,.i 0,.i (bSub .i64 240 ((p0.fB.length:Int)))] h (fun _=>impl_within_ok) (fun r3 h=>?_)
   refine Runs.alln ?_
   obtain rfl:=oi h
   exact Wp.ret RetB
  refine Runs.alln ?_
  obtain rfl:=oi h
  exact Wp.ret RetB
 refine Runs.alln ?_
 obtain rfl:=oi h
 exact Wp.ret RetB
theorem impl_DiskOk_1_ok {u p0 r} (h:impl_DiskOk_1 u p0=some r):CallOK Try.prog 84 [V.g (Put.enc p0)] (V.b r) []:=by
 unfold impl_DiskOk_1 at h
 refine ofb Try.f84 false ?_
 refine Wp.sa ?_
 refine Wp.cl false 1 4 [.agg ((Put.enc p0).map .t)] h (fun _=>impl_isPut_ok) (fun r1 h=>?_)
 obtain rfl:=oi h
 exact Wp.ret RetB
theorem slices_IndexFunc___impl_Put_impl_Put__impl_DiskOk_1_ok {u p0 r} (h:slices_IndexFunc___impl_Put_impl_Put__impl_DiskOk_1 u p0=some r):CallOK Try.prog 89 [.one (.t (.sl 6 (p0.map Put.enc))),.clo 84 []] (V.i r) []:=by
 unfold slices_IndexFunc___impl_Put_impl_Put__impl_DiskOk_1 at h
 refine ofb Try.f89 false ?_
 refine Wp.sa ?_
 refine Wp.j0 (slices_IndexFunc___impl_Put_impl_Put__impl_DiskOk_1_j1 u=some r) ⟨[(4,.i 0)],[],[]⟩ (fun h=>?_) ?_
 ·refine Wp.sa ?_
  obtain rfl:=oi h
  exact Wp.ret RetB
 refine Wp.sr ?_
 refine Runs.ln 1 80 Put.enc p0 ?_
 refine Runs.alln ?_
 refine Wp.block ?_
 refine Wp.l2 (fun k_slices_IndexFunc___impl_Put_impl_Put__impl_DiskOk_1_l2 p0 x2=>slices_IndexFunc___impl_Put_impl_Put__impl_DiskOk_1_l2 u k_slices_IndexFunc___impl_Put_impl_Put__impl_DiskOk_1_l2 p0 x2=some r) (fun p0 x2=>⟨[(0,.t (.sl 6 (p0.map Put.enc))),(1,.clo 84 []),(4,.i 0),(7,.i ((p0.length:Int))),(8,.i x2)],[],[]⟩) (fun k_slices_IndexFunc___impl_Put_impl_Put__impl_DiskOk_1_l2 p0 x2 h=>?_) h (lo []) (fun _ _  h=>nomatch h)
 rw [slices_IndexFunc___impl_Put_impl_Put__impl_DiskOk_1_l2] at h
 refine Wp.sa ?_
 refine Wp.seq ?_
 refine Wp.c2 h (fun h=>?_) (fun h=>?_)
 ·refine Wp.sk ?_
  refine Wp.seq ?_
  refine Wp.block ?_
  refine Wp.sa ?_
  refine Wp.sr ?_
  refine Runs.ix 3 80 6 Put.enc h (fun y4 h _=>?_)
  refine Runs.cl false 1 16 [.agg ((Put.enc y4).map .t)] h (fun _=>impl_DiskOk_1_ok) (fun r5 h=>?_)
  refine Runs.alln ?_
  refine Wp.c2 h (fun h=>?_) (fun h=>?_)
  ·refine Wp.sa ?_
   obtain rfl:=oi h
   exact Wp.ret RetB
  refine Wp.skip ?_
  refine blkN ?_
  refine thenN ?_
  refine Wp.rg [] [] ?_
  refine Runs.alln ?_
  exact ⟨_,_,h,lo []⟩
 refine Wp.exit ?_
 refine thenE ?_
 refine thenE ?_
 refine blkE ?_
 refine thenN ?_
 exact ⟨h,lo []⟩
theorem slices_ContainsFunc___impl_Put_impl_Put__impl_DiskOk_1_ok {u p0 r} (h:slices_ContainsFunc___impl_Put_impl_Put__impl_DiskOk_1 u p0=some r):CallOK Try.prog 83 [.one (.t (.sl 6 (p0.map Put.enc))),.clo 84 []] (V.b r) []:=by
 unfold slices_ContainsFunc___impl_Put_impl_Put__impl_DiskOk_1 at h
 refine ofb Try.f83 false ?_
 refine Wp.sa ?_
 refine Wp.cl false 2 7 [.t (.sl 6 (p0.map Put.enc)),.clo 84 []] h (fun _=>slices_IndexFunc___impl_Put_impl_Put__impl_DiskOk_1_ok) (fun r1 h=>?_)
 obtain rfl:=oi h
 exact Wp.ret RetB
theorem impl_DiskOk_ok {u p0 r} (h:impl_DiskOk u p0=some r):CallOK Try.prog 63 [V.g (Disk.enc p0)] (V.b r) []:=by
 unfold impl_DiskOk at h
 refine ofb Try.f63 false ?_
 refine Wp.sa ?_
 refine Wp.seq ?_
 refine Wp.j2 (fun p0 x3=>impl_DiskOk_j1 u p0 x3=some r) (fun p0 x3=>⟨[(1,.fadr (Disk.enc p0)),(2,.b false),(31,.b x3)],[],[]⟩) (fun p0 x3 h=>?_) ?_
 ·refine Wp.c2 h (fun h=>?_) (fun h=>?_)
  ·refine Wp.sa ?_
   obtain rfl:=oi h
   exact Wp.ret RetB
  refine Wp.sk ?_
  refine Wp.sr ?_
  refine Runs.ln 2 80 Put.enc p0.fP ?_
  refine Runs.c2 2 36 h (fun h=>?_) (fun h=>?_)
  ·refine Runs.cl false 2 39 [.t (.sl 6 (p0.fP.map Put.enc)),.clo 84 []] h (fun _=>slices_ContainsFunc___impl_Put_impl_Put__impl_DiskOk_1_ok) (fun r4 h=>?_)
   refine Runs.alln ?_
   obtain rfl:=oi h
   exact Wp.ret RetB
  refine Runs.alln ?_
  obtain rfl:=oi h
  exact Wp.ret RetB
 refine Wp.le (Le.frzOb 1 (Disk.enc p0) kr kr) ?_
 refine Wp.regionA (pOf []) (rhoOf [(1,.frz),(3,.frz),(4,.frz),(5,.frz),(6,.frz),(7,.frz),(8,.frz),(9,.frz),(10,.frz),(12,.frz),(13,.frz),(14,.frz),(15,.frz),(16,.frz),(18,.frz),(19,.frz),(20,.frz),(21,.frz),(22,.frz),(23,.frz),(24,.frz),(25,.frz),(26,.frz),(27,.frz),(28,.frz),(29,.frz)]) kr kr ?_
 refine Runs.ln 2 5 (eInt .u8) p0.fA ?_
 refine Runs.c2 2 7 h (fun h=>?_) (fun h=>?_)
 ·refine Runs.alln ?_
  exact ⟨_,_,h,lo []⟩
 refine Runs.ln 2 5 (eInt .u8) p0.fB ?_
 refine Runs.c2 3 13 h (fun h=>?_) (fun h=>?_)
 ·refine Runs.alln ?_
  exact ⟨_,_,h,lo []⟩
 refine Runs.cl false 2 16 [.agg ((Record.enc p0.fR).map .t)] h (fun _=>impl_isRecord_ok) (fun r1 h=>?_)
 refine Runs.c2 3 19 h (fun h=>?_) (fun h=>?_)
 ·refine Runs.alln ?_
  exact ⟨_,_,h,lo []⟩
 refine Runs.cl false 6 26 [.fadr (Disk.enc p0),.i p0.fR.fSlot] h (fun _=>impl_Disk__slot__frz0_ok) (fun r2 h=>?_)
 refine Runs.ln 2 5 (eInt .u8) r2 ?_
 refine Runs.alln ?_
 exact ⟨_,_,h,lo []⟩
theorem impl_cloned_ok {u p0 r} (h:impl_cloned u p0=some r):CallOK Try.prog 31 [.one (.s p0)] (.one (.ow 5 1 (r.map (eInt .u8)))) []:=by
 unfold impl_cloned at h
 refine ofb Try.f31 true ?_
 refine Wp.sa ?_
 refine Wp.sr ?_
 refine Runs.ln 1 5 (eInt .u8) p0 ?_
 obtain ⟨_,e_1,h⟩:=bind_some h
 obtain ⟨_,e_2,h⟩:=bind_some h
 refine Runs.mkS (eInt .u8) (0:Int) 5 5 1 1 0 ((p0.length:Int)) rfl rfl kr kr kr kr kr kr (chk_some e_1) (of_decide_eq_true (chk_some e_2)) kr ?_
 refine Runs.ap 1 7 5 1 327680 (eInt .u8) h (fun h=>?_)
 refine Runs.alln ?_
 obtain rfl:=oi h
 exact Wp.ret RetB
theorem impl_Recover_ok {u p0 r} (h:impl_Recover u p0=some r):CallOK Try.prog 42 [V.g (Disk.enc p0)] (.tup [V.i r.1,.one (.ow 5 1 (r.2.map (eInt .u8)))]) []:=by
 unfold impl_Recover at h
 refine ofb Try.f42 true ?_
 refine Wp.sa ?_
 refine Wp.seq ?_
 refine Wp.cl false 1 5 [.agg ((Disk.enc p0).map .t)] h (fun _=>impl_DiskOk_ok) (fun r1 h=>?_)
 refine Wp.c2 h (fun h=>?_) (fun h=>?_)
 ·refine Wp.sa ?_
  obtain rfl:=oi h
  exact Wp.ret RetB
 refine Wp.sk ?_
 refine Wp.seq ?_
 refine Wp.le (Le.frzOb 1 (Disk.enc p0) kr kr) ?_
 refine Wp.regionA (pOf []) (rhoOf [(1,.frz),(7,.frz),(8,.frz),(9,.frz),(10,.frz),(11,.frz),(12,.frz),(13,.frz),(14,.frz),(15,.frz),(16,.frz),(17,.frz),(18,.frz),(19,.frz),(20,.own 20)]) kr kr ?_
 refine Runs.cl false 6 13 [.fadr (Disk.enc p0),.i p0.fR.fSlot] h (fun _=>impl_Disk__slot__frz0_ok) (fun r2 h=>?_)
 refine Runs.batch 5 kr ?_
 obtain ⟨_,e_3,h⟩:=bind_some h
 refine Runs.subsl (e:=5) (ax:=.s r2) (alo:=none) (ahi:=(some (.i p0.fR.fLen))) (eInt .u8) r2 1 0 p0.fR.fLen rfl kr kr kr kr kr kr kr kr kr kr kr (chk_some e_3) ?_
 refine Runs.cl false 0 20 [.t (.sl 1 (((r2.take (Int.toNat p0.fR.fLen)).drop (Int.toNat 0)).map (eInt .u8)))] h (fun _=>impl_cloned_ok) (fun r4 h=>?_)
 refine Runs.alln ?_
 obtain rfl:=oi h
 exact Wp.ret RetB
theorem bytes_Equal_ok {u p0 p1 r} (h:bytes_Equal u p0 p1=some r):CallOK Try.prog 69 [.one (.s p0),.one (.s p1)] (V.b r) []:=by
 unfold bytes_Equal at h
 refine ofb Try.f69 false ?_
 refine Wp.sa ?_
 refine Wp.sr ?_
 refine Runs.batch 1 kr ?_
 refine Runs.bytesStr (y:=.s p0) (e:=5) p0 1 rfl kr kr kr kr kr kr kr ?_
 refine Runs.batch 1 kr ?_
 refine Runs.bytesStr (y:=.s p1) (e:=5) p1 1 rfl kr kr kr kr kr kr kr ?_
 refine Runs.alln ?_
 obtain rfl:=oi h
 exact Wp.ret RetB
theorem impl_SameBytes_ok {u p0 p1 r} (h:impl_SameBytes u p0 p1=some r):CallOK Try.prog 43 [.one (.s p0),.one (.s p1)] (V.b r) []:=by
 unfold impl_SameBytes at h
 refine ofb Try.f43 false ?_
 refine Wp.sa ?_
 refine Wp.cl false 2 7 [.s p0,.s p1] h (fun _=>bytes_Equal_ok) (fun r1 h=>?_)
 obtain rfl:=oi h
 exact Wp.ret RetB
theorem impl_Holds_ok {u p0 p1 p2 r} (h:impl_Holds u p0 p1 p2=some r):CallOK Try.prog 12 [V.g (Disk.enc p0),V.i p1,.one (.s p2)] (V.b r) []:=by
 unfold impl_Holds at h
 refine ofb Try.f12 false ?_
 refine Wp.sa ?_
 refine Wp.cl false 1 11 [.agg ((Disk.enc p0).map .t)] h (fun _=>impl_Recover_ok) (fun r1 h=>?_)
 refine Wp.sr ?_
 refine Runs.c2 4 17 h (fun h=>?_) (fun h=>?_)
 ·refine Runs.cb 2 20 [.own 721920,.s p2] h (fun _=>impl_SameBytes_ok) (fun r2 h=>?_)
  refine Runs.alln ?_
  obtain rfl:=oi h
  exact Wp.ret RetB
 refine Runs.alln ?_
 obtain rfl:=oi h
 exact Wp.ret RetB
theorem impl_HoldsAny_ok {u p0 p1 p2 p3 r} (h:impl_HoldsAny u p0 p1 p2 p3=some r):CallOK Try.prog 32 [V.g (Disk.enc p0),.one (.s p1),V.i p2,.one (.s p3)] (V.b r) []:=by
 unfold impl_HoldsAny at h
 refine ofb Try.f32 false ?_
 refine Wp.sa ?_
 refine Wp.sr ?_
 refine Runs.cl false 2 11 [.agg ((Disk.enc p0).map .t),.i 0,.s p1] h (fun _=>impl_Holds_ok) (fun r1 h=>?_)
 refine Runs.c2 1 12 h (fun h=>?_) (fun h=>?_)
 ·refine Runs.alln ?_
  obtain rfl:=oi h
  exact Wp.ret RetB
 refine Runs.cl false 3 16 [.agg ((Disk.enc p0).map .t),.i p2,.s p3] h (fun _=>impl_Holds_ok) (fun r2 h=>?_)
 refine Runs.alln ?_
 obtain rfl:=oi h
 exact Wp.ret RetB
theorem impl_copyPut_ok {u p0 r} (h:impl_copyPut u p0=some r):CallOK Try.prog 67 [V.g (Put.enc p0)] (V.w [0,0,5,0,0,0] (Put.enc r)) []:=by
 unfold impl_copyPut at h
 refine ofb Try.f67 true ?_
 refine Wp.sa ?_
 refine Wp.cl false 2 5 [.s p0.fB] h (fun _=>impl_cloned_ok) (fun r1 h=>?_)
 refine Wp.sa ?_
 obtain rfl:=oi h
 exact Wp.ret RetB
theorem impl_copyDisk_ok {u p0 r} (h:impl_copyDisk u p0=some r):CallOK Try.prog 41 [V.g (Disk.enc p0)] (V.w [5,5,0,0,0,80] (Disk.enc r)) []:=by
 unfold impl_copyDisk at h
 refine ofb Try.f41 true ?_
 refine Wp.sa ?_
 refine Wp.seq ?_
 refine Wp.regionA (pOf []) (rhoOf [(1,.obj 1),(3,.obj 3),(6,.obj 1),(7,.frz),(8,.own 8),(9,.obj 1),(10,.frz),(11,.own 11),(12,.obj 1),(13,.frz)]) kr kr ?_
 refine Runs.cl false 2 8 [.s p0.fA] h (fun _=>impl_cloned_ok) (fun r1 h=>?_)
 refine Runs.cl false 2 11 [.s p0.fB] h (fun _=>impl_cloned_ok) (fun r2 h=>?_)
 refine Runs.alln ?_
 refine Wp.j4 (fun r1 r2 p0 x11=>impl_copyDisk_j1 u r1 r2 p0 x11=some r) (fun r1 r2 p0 x11=>⟨[(2,.obj 2 0),(3,.obj 3 0)],[(2,[.nil,.nil,.i 0,.i 0,.i 0,.nil]),(3,[.own 197120,.own 197121,.i p0.fR.fGen,.i p0.fR.fSlot,.i p0.fR.fLen,.own 197125])],[(197120,.live 5 1 (r1.map (eInt .u8))),(197121,.live 5 1 (r2.map (eInt .u8))),(197125,.live 80 6 (x11.map Put.enc))]⟩) (fun r1 r2 p0 x11 h=>?_) ?_
 ·refine Wp.sa ?_
  obtain rfl:=oi h
  exact Wp.ret RetB
 refine Wp.sr ?_
 refine Runs.ln 2 80 Put.enc p0.fP ?_
 refine Runs.alln ?_
 refine Wp.block ?_
 refine Wp.l5 (fun k_impl_copyDisk_l2 p0 x5 r1 r2 x6=>impl_copyDisk_l2 u k_impl_copyDisk_l2 p0 x5 r1 r2 x6=some r) (fun p0 x5 r1 r2 x6=>⟨[(2,.obj 2 0),(3,.obj 3 0),(16,.t (.sl 6 (p0.fP.map Put.enc))),(17,.i ((p0.fP.length:Int))),(18,.i x5)],[(2,[.nil,.nil,.i 0,.i 0,.i 0,.nil]),(3,[.own 197120,.own 197121,.i p0.fR.fGen,.i p0.fR.fSlot,.i p0.fR.fLen,.own 197125])],[(197120,.live 5 1 (r1.map (eInt .u8))),(197121,.live 5 1 (r2.map (eInt .u8))),(197125,.live 80 6 (x6.map Put.enc))]⟩) (fun k_impl_copyDisk_l2 p0 x5 r1 r2 x6 h=>?_) h (Le.trans (Le.emptyO 3 5 197125 80 6 [.own 524288,.own 720896,.i p0.fR.fGen,.i p0.fR.fSlot,.i p0.fR.fLen,.nil] kr kr kr) (lo [(197120,524288),(197121,720896)])) (fun _ _ _ _ _  h=>nomatch h)
 rw [impl_copyDisk_l2] at h
 refine Wp.sa ?_
 refine Wp.seq ?_
 refine Wp.c2 h (fun h=>?_) (fun h=>?_)
 ·refine Wp.sk ?_
  refine Wp.seq ?_
  refine Wp.block ?_
  refine Wp.sr ?_
  refine Runs.ix 0 80 6 Put.enc h (fun y9 h _=>?_)
  refine Runs.alln ?_
  refine Wp.regionA (pOf []) (rhoOf [(3,.obj 3),(5,.obj 5),(22,.obj 3),(23,.own 3),(24,.frz),(25,.own 25),(26,.own 26),(27,.own 27),(28,.obj 3)]) kr kr ?_
  refine Runs.cl false 3 25 [.agg ((Put.enc y9).map .t)] h (fun _=>impl_copyPut_ok) (fun r10 h=>?_)
  refine Runs.ap (ys:=[r10]) 1 27 80 6 197125 Put.enc h (fun h=>?_)
  refine Runs.all kr ?_
  refine blkN ?_
  refine thenN ?_
  refine Wp.rg [] [] ?_
  refine Runs.alln ?_
  exact ⟨_,_,_,_,_,h,lo [(197125,1769472)]⟩
 refine Wp.exit ?_
 refine thenE ?_
 refine thenE ?_
 refine blkE ?_
 refine thenN ?_
 exact ⟨_,_,_,_,h,lo []⟩
theorem impl_SetOk_ok {u p0 r} (h:impl_SetOk u p0=some r):CallOK Try.prog 71 [V.i p0] (V.b r) []:=by
 unfold impl_SetOk at h
 refine ofb Try.f71 false ?_
 refine Wp.sa ?_
 refine Wp.cl false 1 4 [.i p0,.i 0,.i 1099511627775] h (fun _=>impl_within_ok) (fun r1 h=>?_)
 obtain rfl:=oi h
 exact Wp.ret RetB
theorem impl_isPlace_ok {u p0 r} (h:impl_isPlace u p0=some r):CallOK Try.prog 72 [V.i p0] (V.b r) []:=by
 unfold impl_isPlace at h
 refine ofb Try.f72 false ?_
 refine Wp.sa ?_
 refine Wp.cl false 1 4 [.i p0,.i 0,.i 39] h (fun _=>impl_within_ok) (fun r1 h=>?_)
 obtain rfl:=oi h
 exact Wp.ret RetB
theorem impl_InSet_ok {u p0 p1 r} (h:impl_InSet u p0 p1=some r):CallOK Try.prog 46 [V.i p0,V.i p1] (V.b r) []:=by
 unfold impl_InSet at h
 refine ofb Try.f46 false ?_
 refine Wp.sa ?_
 refine Wp.sr ?_
 refine Runs.cl false 1 6 [.i p0] h (fun _=>impl_SetOk_ok) (fun r1 h=>?_)
 refine Runs.c2 1 7 h (fun h=>?_) (fun h=>?_)
 ·refine Runs.cl false 1 9 [.i p1] h (fun _=>impl_isPlace_ok) (fun r2 h=>?_)
  refine Runs.c2 2 11 h (fun h=>?_) (fun h=>?_)
  ·refine Runs.batch 2 kr ?_
   obtain ⟨_,e_3,h⟩:=bind_some h
   refine Runs.num .shr (.int .i64 p0) (.int .i64 p1) (.int .i64 (bShr .i64 p0 p1)) rfl kr kr kr kr (bin_shr _ _ _ _ _ (chk_some e_3)) ?_
   refine Runs.alln ?_
   obtain rfl:=oi h
   exact Wp.ret RetB
  refine Runs.alln ?_
  obtain rfl:=oi h
  exact Wp.ret RetB
 refine Runs.alln ?_
 obtain rfl:=oi h
 exact Wp.ret RetB
theorem impl_Fall_1_ok {u p0 q0 r} (h:impl_Fall_1 u p0 q0=some r):CallOK Try.prog 45 [V.i p0,.fptr [.int .i64 q0]] (V.b r) []:=by
 unfold impl_Fall_1 at h
 refine ofb Try.f45 false ?_
 refine Wp.sa ?_
 refine Wp.cl false 2 6 [.i q0,.i p0] h (fun _=>impl_InSet_ok) (fun r1 h=>?_)
 obtain rfl:=oi h
 exact Wp.ret RetB
theorem impl_Disk__slot__own_p0_fA_p0_fB_p0_fP_ok {u p0 p1 r} (h:impl_Disk__slot u p0 p1=some r):IntoOK Try.prog 68 [.ptr (cw [5,5,0,0,0,80] (Disk.enc p0)),V.i p1] r.1 [cw [5,5,0,0,0,80] (Disk.enc r.2)]:=by
 unfold impl_Disk__slot at h
 refine IntoOK.of_bodyK (fn:=Try.f68) [.obj 900 0,.i p1] kr rfl kr kr kr kr kr rfl ?_
 refine Wp.sa ?_
 refine Wp.seq ?_
 refine Wp.sa ?_
 refine Wp.c2 h (fun h=>?_) (fun h=>?_)
 ·refine Wp.sa ?_
  refine Wp.ret ?_
  refine thenR ?_
  obtain rfl:=Option.some.inj h
  exact RetIK [[.ow 5 1 (p0.fA.map (eInt .u8)),.ow 5 1 (p0.fB.map (eInt .u8)),.i p0.fR.fGen,.i p0.fR.fSlot,.i p0.fR.fLen,.ow 80 6 (p0.fP.map Put.enc)]] kr kr (.cons ((.cons (.refl _) (.cons (.refl _) (.cons (.refl _) (.cons (.refl _) (.cons (.refl _) (.cons (.refl _) .nil))))))) .nil)
 refine Wp.sk ?_
 refine Wp.sa ?_
 refine Wp.ret ?_
 obtain rfl:=Option.some.inj h
 exact RetIK [[.ow 5 1 (p0.fA.map (eInt .u8)),.ow 5 1 (p0.fB.map (eInt .u8)),.i p0.fR.fGen,.i p0.fR.fSlot,.i p0.fR.fLen,.ow 80 6 (p0.fP.map Put.enc)]] kr kr (.cons ((.cons (.refl _) (.cons (.refl _) (.cons (.refl _) (.cons (.refl _) (.cons (.refl _) (.cons (.refl _) .nil))))))) .nil)
theorem impl_Disk__perform__own_p0_fP_ok {u p0 p1 r} (h:impl_Disk__perform u p0 p1=some r):CallOK Try.prog 70 [.ptr (cw [5,5,0,0,0,80] (Disk.enc p0)),V.g (Put.enc p1)] (.tup []) [cw [5,5,0,0,0,80] (Disk.enc r)]:=by
 unfold impl_Disk__perform at h
 refine ofb Try.f70 false ?_
 refine Wp.sa ?_
 refine Wp.seq ?_
 refine Wp.sa ?_
 refine Wp.c2 h (fun h=>?_) (fun h=>?_)
 ·refine Wp.sa ?_
  obtain rfl:=oi h
  exact Wp.ret RetB
 refine Wp.sk ?_
 refine Wp.sr ?_
 refine Runs.batch 3 kr ?_
 obtain ⟨r1,e_r1,h⟩:=bind_some h
 rcases tf (Nat.beq r1.1 0) with hc_r1 | hc_r1
 ·have h:=cond_t h hc_r1
  refine Runs.callIK true 16 68 [] [.obj 900 0,.i p1.fWhat] [.ptr [.ow 5 1 (p0.fA.map (eInt .u8)),.ow 5 1 (p0.fB.map (eInt .u8)),.i p0.fR.fGen,.i p0.fR.fSlot,.i p0.fR.fLen,.ow 80 6 (p0.fP.map Put.enc)],.one (.i p1.fWhat)] 900 0 ([cw [5,5,0,0,0,80] (Disk.enc r1.2)]) rfl rfl kr kr kr kr kr (IntoOK.to hc_r1 (impl_Disk__slot__own_p0_fA_p0_fB_p0_fP_ok e_r1)) kr kr ?_
  refine Runs.alln ?_
  refine Wp.j3 (fun p1 x9 r1=>impl_Disk__perform_j3 u p1 x9 r1=some r) (fun p1 x9 r1=>⟨[(3,.obj 3 0),(4,.obj 900 0)],[(3,((Put.enc p1).map .t)),(900,[.own 58982912,.own 58982913,.i r1.2.fR.fGen,.i r1.2.fR.fSlot,.i r1.2.fR.fLen,.own 58982917])],[(58982912,.live 5 1 (x9.map (eInt .u8))),(58982913,.live 5 1 (r1.2.fB.map (eInt .u8))),(58982917,.live 80 6 (r1.2.fP.map Put.enc))]⟩) (fun p1 x9 r1 h=>?_) ?_
  ·refine Wp.regionA (pOf []) (rhoOf [(3,.obj 3),(4,.obj 900),(35,.obj 900),(36,.obj 900),(37,.own 900),(38,.obj 3),(39,.frz),(40,.win 900),(41,.obj 3),(42,.frz)]) kr kr ?_
   refine Runs.batch 5 kr ?_
   obtain ⟨_,e_10,h⟩:=bind_some h
   refine Runs.subO (e:=5) (e':=5) (alo:=(some (.i p1.fAt))) (eInt .u8) x9 58982912 1 p1.fAt rfl kr kr kr kr kr kr kr kr kr (chk_some e_10) ?_
   refine Runs.batch 2 kr ?_
   refine Runs.copyO (y:=.s p1.fB) (e:=5) (e':=5) (eInt .u8) x9 p1.fB 58982912 (Int.toNat p1.fAt) 1 rfl rfl rfl kr kr kr kr kr (.inl rfl) kr kr kr (sub_le (chk_some e_10)) ?_
   refine Runs.all kr ?_
   obtain rfl:=oi h
   exact RetBn
  refine Wp.block ?_
  refine Wp.l3 (fun k_impl_Disk__perform_l4 p1 x7 r1=>impl_Disk__perform_l4 u k_impl_Disk__perform_l4 p1 x7 r1=some r) (fun p1 x7 r1=>⟨[(3,.obj 3 0),(4,.obj 900 0)],[(3,((Put.enc p1).map .t)),(900,[.own 58982912,.own 58982913,.i r1.2.fR.fGen,.i r1.2.fR.fSlot,.i r1.2.fR.fLen,.own 58982917])],[(58982912,.live 5 1 (x7.map (eInt .u8))),(58982913,.live 5 1 (r1.2.fB.map (eInt .u8))),(58982917,.live 80 6 (r1.2.fP.map Put.enc))]⟩) (fun k_impl_Disk__perform_l4 p1 x7 r1 h=>?_) h (lo [(58982912,1107200),(58982913,1107201),(58982917,1107205)]) (fun _ _ _  h=>nomatch h)
  rw [impl_Disk__perform_l4] at h
  refine Wp.seq ?_
  refine Wp.seq ?_
  refine Wp.regionA (pOf []) (rhoOf [(3,.obj 3),(4,.obj 900),(17,.obj 900),(18,.obj 900),(19,.own 900),(20,.frz),(21,.obj 3),(22,.frz),(23,.obj 3),(24,.frz),(25,.frz),(26,.frz)]) kr kr ?_
  refine Runs.ln 3 5 (eInt .u8) x7 ?_
  refine Runs.ln 4 5 (eInt .u8) p1.fB ?_
  refine Runs.alln ?_
  refine Wp.c2 h (fun h=>?_) (fun h=>?_)
  ·refine Wp.sk ?_
   refine Wp.block ?_
   refine Wp.rg [] [] ?_
   refine Runs.ap 5 33 5 1 58982912 (eInt .u8) h (fun h=>?_)
   refine Runs.all kr ?_
   refine blkN ?_
   refine thenN ?_
   exact ⟨_,_,_,h,lo [(58982912,2162688)]⟩
  refine Wp.exit ?_
  refine thenE ?_
  refine thenE ?_
  refine blkE ?_
  refine thenN ?_
  exact ⟨_,_,_,h,lo []⟩
 have h:=cond_f h hc_r1
 rcases tf (Nat.beq r1.1 1) with hc_r1 | hc_r1
 ·have h:=cond_t h hc_r1
  refine Runs.callIK true 16 68 [] [.obj 900 0,.i p1.fWhat] [.ptr [.ow 5 1 (p0.fA.map (eInt .u8)),.ow 5 1 (p0.fB.map (eInt .u8)),.i p0.fR.fGen,.i p0.fR.fSlot,.i p0.fR.fLen,.ow 80 6 (p0.fP.map Put.enc)],.one (.i p1.fWhat)] 900 1 ([cw [5,5,0,0,0,80] (Disk.enc r1.2)]) rfl rfl kr kr kr kr kr (IntoOK.to hc_r1 (impl_Disk__slot__own_p0_fA_p0_fB_p0_fP_ok e_r1)) kr kr ?_
  refine Runs.alln ?_
  refine Wp.j3 (fun p1 r1 x5=>impl_Disk__perform_j1 u p1 r1 x5=some r) (fun p1 r1 x5=>⟨[(3,.obj 3 0),(4,.obj 900 1)],[(3,((Put.enc p1).map .t)),(900,[.own 58982912,.own 58982913,.i r1.2.fR.fGen,.i r1.2.fR.fSlot,.i r1.2.fR.fLen,.own 58982917])],[(58982912,.live 5 1 (r1.2.fA.map (eInt .u8))),(58982913,.live 5 1 (x5.map (eInt .u8))),(58982917,.live 80 6 (r1.2.fP.map Put.enc))]⟩) (fun p1 r1 x5 h=>?_) ?_
  ·refine Wp.regionA (pOf []) (rhoOf [(3,.obj 3),(4,.obj 900),(35,.obj 900),(36,.obj 900),(37,.own 900),(38,.obj 3),(39,.frz),(40,.win 900),(41,.obj 3),(42,.frz)]) kr kr ?_
   refine Runs.batch 5 kr ?_
   obtain ⟨_,e_6,h⟩:=bind_some h
   refine Runs.subO (e:=5) (e':=5) (alo:=(some (.i p1.fAt))) (eInt .u8) x5 58982913 1 p1.fAt rfl kr kr kr kr kr kr kr kr kr (chk_some e_6) ?_
   refine Runs.batch 2 kr ?_
   refine Runs.copyO (y:=.s p1.fB) (e:=5) (e':=5) (eInt .u8) x5 p1.fB 58982913 (Int.toNat p1.fAt) 1 rfl rfl rfl kr kr kr kr kr (.inl rfl) kr kr kr (sub_le (chk_some e_6)) ?_
   refine Runs.all kr ?_
   obtain rfl:=oi h
   exact RetBn
  refine Wp.block ?_
  refine Wp.l3 (fun k_impl_Disk__perform_l2 p1 r1 x3=>impl_Disk__perform_l2 u k_impl_Disk__perform_l2 p1 r1 x3=some r) (fun p1 r1 x3=>⟨[(3,.obj 3 0),(4,.obj 900 1)],[(3,((Put.enc p1).map .t)),(900,[.own 58982912,.own 58982913,.i r1.2.fR.fGen,.i r1.2.fR.fSlot,.i r1.2.fR.fLen,.own 58982917])],[(58982912,.live 5 1 (r1.2.fA.map (eInt .u8))),(58982913,.live 5 1 (x3.map (eInt .u8))),(58982917,.live 80 6 (r1.2.fP.map Put.enc))]⟩) (fun k_impl_Disk__perform_l2 p1 r1 x3 h=>?_) h (lo [(58982912,1107200),(58982913,1107201),(58982917,1107205)]) (fun _ _ _  h=>nomatch h)
  rw [impl_Disk__perform_l2] at h
  refine Wp.seq ?_
  refine Wp.seq ?_
  refine Wp.regionA (pOf []) (rhoOf [(3,.obj 3),(4,.obj 900),(17,.obj 900),(18,.obj 900),(19,.own 900),(20,.frz),(21,.obj 3),(22,.frz),(23,.obj 3),(24,.frz),(25,.frz),(26,.frz)]) kr kr ?_
  refine Runs.ln 3 5 (eInt .u8) x3 ?_
  refine Runs.ln 4 5 (eInt .u8) p1.fB ?_
  refine Runs.alln ?_
  refine Wp.c2 h (fun h=>?_) (fun h=>?_)
  ·refine Wp.sk ?_
   refine Wp.block ?_
   refine Wp.rg [] [] ?_
   refine Runs.ap 5 33 5 1 58982913 (eInt .u8) h (fun h=>?_)
   refine Runs.all kr ?_
   refine blkN ?_
   refine thenN ?_
   exact ⟨_,_,_,h,lo [(58982913,2162688)]⟩
  refine Wp.exit ?_
  refine thenE ?_
  refine thenE ?_
  refine blkE ?_
  refine thenN ?_
  exact ⟨_,_,_,h,lo []⟩
 have h:=cond_f h hc_r1
 cases h
theorem impl_Disk__settled__impl_Fall_1_ok {u p0 p1_0 r} (h:impl_Disk__settled__impl_Fall_1 u p0 p1_0=some r):CallOK Try.prog 44 [V.g (Disk.enc p0),.clo 45 [.fptr [.int .i64 p1_0]]] (V.w [5,5,0,0,0,80] (Disk.enc r)) []:=by
 unfold impl_Disk__settled__impl_Fall_1 at h
 refine ofb Try.f44 true ?_
 refine Wp.sa ?_
 refine Wp.cl false 1 9 [.agg ((Disk.enc p0).map .t)] h (fun _=>impl_copyDisk_ok) (fun r1 h=>?_)
 refine Wp.seq ?_
 refine Wp.cl false 1 11 [.agg ((Disk.enc p0).map .t)] h (fun _=>impl_DiskOk_ok) (fun r2 h=>?_)
 refine Wp.c2 h (fun h=>?_) (fun h=>?_)
 ·refine Wp.sa ?_
  obtain rfl:=oi h
  exact Wp.ret RetB
 refine Wp.sk ?_
 refine Wp.j6 (fun x33 x34 x35 x36 x37 x38=>impl_Disk__settled__impl_Fall_1_j1 u x33 x34 x35 x36 x37 x38=some r) (fun x33 x34 x35 x36 x37 x38=>⟨[(4,.obj 4 0),(5,.obj 5 0)],[(4,[.nil,.nil,.i 0,.i 0,.i 0,.nil]),(5,[.own 328192,.own 328193,.i x35,.i x36,.i x37,.own 328197])],[(328192,.live 5 1 (x33.map (eInt .u8))),(328193,.live 5 1 (x34.map (eInt .u8))),(328197,.live 80 6 (x38.map Put.enc))]⟩) (fun x33 x34 x35 x36 x37 x38 h=>?_) ?_
 ·refine Wp.sa ?_
  refine Wp.sa ?_
  obtain rfl:=oi h
  exact Wp.ret RetB
 refine Wp.sr ?_
 refine Runs.ln 2 80 Put.enc p0.fP ?_
 refine Runs.alln ?_
 refine Wp.block ?_
 refine Wp.l9 (fun k_impl_Disk__settled__impl_Fall_1_l2 p1_0 p0 x10 x11 x12 x13 x14 x15 x16=>impl_Disk__settled__impl_Fall_1_l2 u k_impl_Disk__settled__impl_Fall_1_l2 p1_0 p0 x10 x11 x12 x13 x14 x15 x16=some r) (fun p1_0 p0 x10 x11 x12 x13 x14 x15 x16=>⟨[(1,.clo 45 [.fadr [.int .i64 p1_0]]),(4,.obj 4 0),(5,.obj 5 0),(15,.t (.sl 6 (p0.fP.map Put.enc))),(16,.i ((p0.fP.length:Int))),(17,.i x10)],[(4,[.nil,.nil,.i 0,.i 0,.i 0,.nil]),(5,[.own 328192,.own 328193,.i x13,.i x14,.i x15,.own 328197])],[(328192,.live 5 1 (x11.map (eInt .u8))),(328193,.live 5 1 (x12.map (eInt .u8))),(328197,.live 80 6 (x16.map Put.enc))]⟩) (fun k_impl_Disk__settled__impl_Fall_1_l2 p1_0 p0 x10 x11 x12 x13 x14 x15 x16 h=>?_) h (lo [(328192,589824),(328193,589825),(328197,589829)]) (fun _ _ _ _ _ _ _ _ _  h=>nomatch h)
 rw [impl_Disk__settled__impl_Fall_1_l2] at h
 refine Wp.sa ?_
 refine Wp.seq ?_
 refine Wp.c2 h (fun h=>?_) (fun h=>?_)
 ·refine Wp.sk ?_
  refine Wp.j9 (fun p1_0 p0 x10 x27 x28 x29 x30 x31 x32=>impl_Disk__settled__impl_Fall_1_j3 u (fun z0 z1 z2 z3 z4 z5 z6 z7 z8=>impl_Disk__settled__impl_Fall_1_l2 u k_impl_Disk__settled__impl_Fall_1_l2 z0 z1 z2 z3 z4 z5 z6 z7 z8) p1_0 p0 x10 x27 x28 x29 x30 x31 x32=some r) (fun p1_0 p0 x10 x27 x28 x29 x30 x31 x32=>⟨[(1,.clo 45 [.fadr [.int .i64 p1_0]]),(4,.obj 4 0),(5,.obj 5 0),(15,.t (.sl 6 (p0.fP.map Put.enc))),(16,.i ((p0.fP.length:Int))),(17,.i x10)],[(4,[.nil,.nil,.i 0,.i 0,.i 0,.nil]),(5,[.own 328192,.own 328193,.i x29,.i x30,.i x31,.own 328197])],[(328192,.live 5 1 (x27.map (eInt .u8))),(328193,.live 5 1 (x28.map (eInt .u8))),(328197,.live 80 6 (x32.map Put.enc))]⟩) (fun p1_0 p0 x10 x27 x28 x29 x30 x31 x32 h=>?_) ?_
  ·refine Wp.rg [] [] ?_
   refine Runs.alln ?_
   exact ⟨_,_,_,_,_,_,_,_,_,h,lo []⟩
  refine Wp.block ?_
  refine Wp.sr ?_
  refine Runs.ix 1 80 6 Put.enc h (fun y24 h _=>?_)
  refine Runs.alln ?_
  refine Wp.cl false 2 24 [.i x10,.fadr [.int .i64 p1_0]] h (fun _=>impl_Fall_1_ok) (fun r25 h=>?_)
  refine Wp.c2 h (fun h=>?_) (fun h=>?_)
  ·refine Wp.rg [] [] ?_
   refine Runs.cl true 1 26 [.obj 5 0,.agg ((Put.enc y24).map .t)] h (fun _=>impl_Disk__perform__own_p0_fP_ok) (fun r26 h=>?_)
   refine Runs.all kr ?_
   refine blkN ?_
   refine thenN ?_
   exact ⟨_,_,_,_,_,_,_,_,_,h,lo [(328192,1705280),(328193,1705281),(328197,1705285)]⟩
  refine Wp.skip ?_
  refine blkN ?_
  refine thenN ?_
  exact ⟨_,_,_,_,_,_,_,_,_,h,lo []⟩
 refine Wp.exit ?_
 refine thenE ?_
 refine thenE ?_
 refine blkE ?_
 refine thenN ?_
 exact ⟨_,_,_,_,_,_,h,lo []⟩
theorem impl_Fall_ok {u p0 p1 r} (h:impl_Fall u p0 p1=some r):CallOK Try.prog 13 [V.g (Disk.enc p0),V.i p1] (V.w [5,5,0,0,0,80] (Disk.enc r)) []:=by
 unfold impl_Fall at h
 refine ofb Try.f13 true ?_
 refine Wp.sa ?_
 refine Wp.seq ?_
 refine Wp.le (Le.frzOb 3 [.int .i64 p1] kr kr) ?_
 refine Wp.rg [] [] ?_
 refine Runs.cl false 2 7 [.agg ((Disk.enc p0).map .t),.clo 45 [.fadr [.int .i64 p1]]] h (fun _=>impl_Disk__settled__impl_Fall_1_ok) (fun r1 h=>?_)
 refine Runs.alln ?_
 obtain rfl:=oi h
 exact Wp.ret RetB
theorem impl_AllFalls_ok {u p0 r} (h:impl_AllFalls u p0=some r):CallOK Try.prog 34 [V.g (Disk.enc p0)] (.one (.ow 37 6 (r.map Disk.enc))) []:=by
 unfold impl_AllFalls at h
 refine ofb Try.f34 true ?_
 refine Wp.sa ?_
 refine Wp.sa ?_
 refine Wp.j1 (fun x9=>impl_AllFalls_j1 u x9=some r) (fun x9=>⟨[(2,.nil),(3,.own 196609)],[],[(196609,.live 37 6 (x9.map Disk.enc))]⟩) (fun x9 h=>?_) ?_
 ·refine Wp.sa ?_
  obtain rfl:=oi h
  exact Wp.ret RetB
 refine Wp.sr ?_
 refine Runs.ln 2 80 Put.enc p0.fP ?_
 refine Runs.batch 1 kr ?_
 obtain ⟨_,e_1,h⟩:=bind_some h
 refine Runs.num .shl (.int .i64 1) (.int .i64 (if ((p0.fP.length:Int)) < 6 then ((p0.fP.length:Int)) else 6)) (.int .i64 (bShl .i64 1 (if ((p0.fP.length:Int)) < 6 then ((p0.fP.length:Int)) else 6))) rfl kr kr kr kr (bin_shl _ _ _ _ _ (chk_some e_1)) ?_
 refine Runs.alln ?_
 refine Wp.block ?_
 refine Wp.l3 (fun k_impl_AllFalls_l2 x4 p0 x5=>impl_AllFalls_l2 u k_impl_AllFalls_l2 x4 p0 x5=some r) (fun x4 p0 x5=>⟨[(1,.obj 1 0),(2,.nil),(3,.own 196609),(10,.i (bShl .i64 1 (if ((p0.fP.length:Int)) < 6 then ((p0.fP.length:Int)) else 6))),(11,.i x5)],[(1,((Disk.enc p0).map .t))],[(196609,.live 37 6 (x4.map Disk.enc))]⟩) (fun k_impl_AllFalls_l2 x4 p0 x5 h=>?_) h (lo [(196609,327680)]) (fun _ _ _  h=>nomatch h)
 rw [impl_AllFalls_l2] at h
 refine Wp.sa ?_
 refine Wp.seq ?_
 refine Wp.c2 h (fun h=>?_) (fun h=>?_)
 ·refine Wp.sk ?_
  refine Wp.seq ?_
  refine Wp.block ?_
  refine Wp.sa ?_
  refine Wp.rg [] [] ?_
  refine Runs.cl false 3 17 [.agg ((Disk.enc p0).map .t),.i x5] h (fun _=>impl_Fall_ok) (fun r8 h=>?_)
  refine Runs.ap (ys:=[r8]) 1 19 37 6 196609 Disk.enc h (fun h=>?_)
  refine Runs.all kr ?_
  refine blkN ?_
  refine thenN ?_
  refine Wp.rg [] [] ?_
  refine Runs.alln ?_
  exact ⟨_,_,_,h,lo [(196609,1245184)]⟩
 refine Wp.exit ?_
 refine thenE ?_
 refine thenE ?_
 refine blkE ?_
 refine thenN ?_
 exact ⟨_,h,lo []⟩
theorem impl_SafeFall_1_ok {u p0 q0 q1 q2 r} (h:impl_SafeFall_1 u p0 q0 q1 q2=some r):CallOK Try.prog 35 [V.g (Disk.enc p0),.fptr [.sl 1 (q0.map (eInt .u8))],.fptr [.int .i64 q1],.fptr [.sl 1 (q2.map (eInt .u8))]] (V.b r) []:=by
 unfold impl_SafeFall_1 at h
 refine ofb Try.f35 false ?_
 refine Wp.sa ?_
 refine Wp.cl false 4 10 [.agg ((Disk.enc p0).map .t),.s q0,.i q1,.s q2] h (fun _=>impl_HoldsAny_ok) (fun r1 h=>?_)
 obtain rfl:=oi h
 exact Wp.ret RetB
theorem slices_IndexFunc___impl_Disk_impl_Disk__impl_SafeFall_1_ok {u p0 p1_0 p1_1 p1_2 r} (h:slices_IndexFunc___impl_Disk_impl_Disk__impl_SafeFall_1 u p0 p1_0 p1_1 p1_2=some r):CallOK Try.prog 60 [.one (.t (.sl 6 (p0.map Disk.enc))),.clo 35 [.fptr [.sl 1 (p1_0.map (eInt .u8))],.fptr [.int .i64 p1_1],.fptr [.sl 1 (p1_2.map (eInt .u8))]]] (V.i r) []:=by
 unfold slices_IndexFunc___impl_Disk_impl_Disk__impl_SafeFall_1 at h
 refine ofb Try.f60 false ?_
 refine Wp.sa ?_
 refine Wp.j0 (slices_IndexFunc___impl_Disk_impl_Disk__impl_SafeFall_1_j1 u=some r) ⟨[(4,.i 0)],[],[]⟩ (fun h=>?_) ?_
 ·refine Wp.sa ?_
  obtain rfl:=oi h
  exact Wp.ret RetB
 refine Wp.sr ?_
 refine Runs.ln 1 37 Disk.enc p0 ?_
 refine Runs.alln ?_
 refine Wp.block ?_
 refine Wp.l5 (fun k_slices_IndexFunc___impl_Disk_impl_Disk__impl_SafeFall_1_l2 p0 p1_0 p1_1 p1_2 x2=>slices_IndexFunc___impl_Disk_impl_Disk__impl_SafeFall_1_l2 u k_slices_IndexFunc___impl_Disk_impl_Disk__impl_SafeFall_1_l2 p0 p1_0 p1_1 p1_2 x2=some r) (fun p0 p1_0 p1_1 p1_2 x2=>⟨[(0,.t (.sl 6 (p0.map Disk.enc))),(1,.clo 35 [.fadr [.sl 1 (p1_0.map (eInt .u8))],.fadr [.int .i64 p1_1],.fadr [.sl 1 (p1_2.map (eInt .u8))]]),(4,.i 0),(7,.i ((p0.length:Int))),(8,.i x2)],[],[]⟩) (fun k_slices_IndexFunc___impl_Disk_impl_Disk__impl_SafeFall_1_l2 p0 p1_0 p1_1 p1_2 x2 h=>?_) h (lo []) (fun _ _ _ _ _  h=>nomatch h)
 rw [slices_IndexFunc___impl_Disk_impl_Disk__impl_SafeFall_1_l2] at h
 refine Wp.sa ?_
 refine Wp.seq ?_
 refine Wp.c2 h (fun h=>?_) (fun h=>?_)
 ·refine Wp.sk ?_
  refine Wp.seq ?_
  refine Wp.block ?_
  refine Wp.sa ?_
  refine Wp.sr ?_
  refine Runs.ix 3 37 6 Disk.enc h (fun y4 h _=>?_)
  refine Runs.cl false 1 16 [.agg ((Disk.enc y4).map .t),.fadr [.sl 1 (p1_0.map (eInt .u8))],.fadr [.int .i64 p1_1],.fadr [.sl 1 (p1_2.map (eInt .u8))]] h (fun _=>impl_SafeFall_1_ok) (fun r5 h=>?_)
  refine Runs.alln ?_
  refine Wp.c2 h (fun h=>?_) (fun h=>?_)
  ·refine Wp.sa ?_
   obtain rfl:=oi h
   exact Wp.ret RetB
  refine Wp.skip ?_
  refine blkN ?_
  refine thenN ?_
  refine Wp.rg [] [] ?_
  refine Runs.alln ?_
  exact ⟨_,_,_,_,_,h,lo []⟩
 refine Wp.exit ?_
 refine thenE ?_
 refine thenE ?_
 refine blkE ?_
 refine thenN ?_
 exact ⟨h,lo []⟩
theorem slices_ContainsFunc___impl_Disk_impl_Disk__impl_SafeFall_1_ok {u p0 p1_0 p1_1 p1_2 r} (h:slices_ContainsFunc___impl_Disk_impl_Disk__impl_SafeFall_1 u p0 p1_0 p1_1 p1_2=some r):CallOK Try.prog 33 [.one (.t (.sl 6 (p0.map Disk.enc))),.clo 35 [.fptr [.sl 1 (p1_0.map (eInt .u8))],.fptr [.int .i64 p1_1],.fptr [.sl 1 (p1_2.map (eInt .u8))]]] (V.b r) []:=by
 unfold slices_ContainsFunc___impl_Disk_impl_Disk__impl_SafeFall_1 at h
 refine ofb Try.f33 false ?_
 refine Wp.sa ?_
 refine Wp.cl false 2 7 [.t (.sl 6 (p0.map Disk.enc)),.clo 35 [.fadr [.sl 1 (p1_0.map (eInt .u8))],.fadr [.int .i64 p1_1],.fadr [.sl 1 (p1_2.map (eInt .u8))]]] h (fun _=>slices_IndexFunc___impl_Disk_impl_Disk__impl_SafeFall_1_ok) (fun r1 h=>?_)
 obtain rfl:=oi h
 exact Wp.ret RetB
theorem impl_SafeFall_ok {u p0 p1 p2 p3 r} (h:impl_SafeFall u p0 p1 p2 p3=some r):CallOK Try.prog 9 [V.g (Disk.enc p0),.one (.s p1),V.i p2,.one (.s p3)] (V.b r) []:=by
 unfold impl_SafeFall at h
 refine ofb Try.f9 false ?_
 refine Wp.sa ?_
 refine Wp.seq ?_
 refine Wp.le (Le.trans (Le.frzOb 5 [.sl 1 (p1.map (eInt .u8))] kr kr) (Le.trans (Le.frzOb 6 [.int .i64 p2] kr kr) (Le.frzOb 7 [.sl 1 (p3.map (eInt .u8))] kr kr))) ?_
 refine Wp.rg [] [] ?_
 refine Runs.cl false 4 13 [.agg ((Disk.enc p0).map .t),.s p1,.i p2,.s p3] h (fun _=>impl_HoldsAny_ok) (fun r1 h=>?_)
 refine Runs.c2 1 14 h (fun h=>?_) (fun h=>?_)
 ·refine Runs.cl false 1 16 [.agg ((Disk.enc p0).map .t)] h (fun _=>impl_AllFalls_ok) (fun r2 h=>?_)
  refine Runs.cb 1 18 [.own 1048576,.clo 35 [.fadr [.sl 1 (p1.map (eInt .u8))],.fadr [.int .i64 p2],.fadr [.sl 1 (p3.map (eInt .u8))]]] h (fun _=>slices_ContainsFunc___impl_Disk_impl_Disk__impl_SafeFall_1_ok) (fun r3 h=>?_)
  refine Runs.alln ?_
  obtain rfl:=oi h
  exact Wp.ret RetB
 refine Runs.alln ?_
 obtain rfl:=oi h
 exact Wp.ret RetB
theorem impl_StepsLeft_ok {u p0 r} (h:impl_StepsLeft u p0=some r):CallOK Try.prog 10 [V.i p0] (V.i r) []:=by
 unfold impl_StepsLeft at h
 refine ofb Try.f10 false ?_
 refine Wp.sa ?_
 refine Wp.seq ?_
 refine Wp.cl false 1 4 [.i p0,.i 1,.i 4] h (fun _=>impl_within_ok) (fun r1 h=>?_)
 refine Wp.c2 h (fun h=>?_) (fun h=>?_)
 ·refine Wp.sa ?_
  obtain rfl:=oi h
  exact Wp.ret RetB
 refine Wp.sk ?_
 refine Wp.sa ?_
 obtain rfl:=oi h
 exact Wp.ret RetB
theorem impl_FullSet_ok {u p0 r} (h:impl_FullSet u p0=some r):CallOK Try.prog 14 [V.i p0] (V.i r) []:=by
 unfold impl_FullSet at h
 refine ofb Try.f14 false ?_
 refine Wp.sa ?_
 refine Wp.seq ?_
 refine Wp.cl false 1 4 [.i p0,.i 0,.i 40] h (fun _=>impl_within_ok) (fun r1 h=>?_)
 refine Wp.c2 h (fun h=>?_) (fun h=>?_)
 ·refine Wp.sa ?_
  obtain rfl:=oi h
  exact Wp.ret RetB
 refine Wp.sk ?_
 refine Wp.sr ?_
 refine Runs.batch 1 kr ?_
 obtain ⟨_,e_2,h⟩:=bind_some h
 refine Runs.num .shl (.int .i64 1) (.int .i64 p0) (.int .i64 (bShl .i64 1 p0)) rfl kr kr kr kr (bin_shl _ _ _ _ _ (chk_some e_2)) ?_
 refine Runs.alln ?_
 obtain rfl:=oi h
 exact Wp.ret RetB
theorem impl_AllParts_ok {u p0 r} (h:impl_AllParts u p0=some r):CallOK Try.prog 78 [V.g (Manifest.enc p0)] (V.i r) []:=by
 unfold impl_AllParts at h
 refine ofb Try.f78 false ?_
 refine Wp.sa ?_
 refine Wp.sr ?_
 refine Runs.ln 2 89 Sum.enc p0.fSums ?_
 refine Runs.cl false 0 6 [.i ((p0.fSums.length:Int))] h (fun _=>impl_FullSet_ok) (fun r1 h=>?_)
 refine Runs.alln ?_
 obtain rfl:=oi h
 exact Wp.ret RetB
theorem impl_Build__block_ok {u p0 p1 p2 r} (h:impl_Build__block u p0 p1 p2=some r):CallOK Try.prog 59 [V.g (Build.enc p0),V.g (Manifest.enc p1),V.i p2] (.one (.s r)) []:=by
 unfold impl_Build__block at h
 refine ofb Try.f59 false ?_
 refine Wp.sa ?_
 refine Wp.cl false 5 15 [.i p1.fSize,.i p1.fLen,.i p2] h (fun _=>impl_SpanOf_ok) (fun r1 h=>?_)
 refine Wp.sr ?_
 refine Runs.batch 6 kr ?_
 obtain ⟨_,e_2,h⟩:=bind_some h
 refine Runs.subsl (e:=5) (ax:=.s p0.fBuf) (alo:=(some (.i r1.1))) (ahi:=(some (.i (bAdd .i64 r1.1 r1.2)))) (eInt .u8) p0.fBuf 1 r1.1 (bAdd .i64 r1.1 r1.2) rfl kr kr kr kr kr kr kr kr kr kr kr (chk_some e_2) ?_
 refine Runs.alln ?_
 obtain rfl:=oi h
 exact Wp.ret RetB
theorem impl_BuildOk_1_ok {u p0 r} (h:impl_BuildOk_1 u p0=some r):CallOK Try.prog 80 [.one (.t (.int .u8 p0))] (V.b r) []:=by
 unfold impl_BuildOk_1 at h
 refine ofb Try.f80 false ?_
 refine Wp.sa ?_
 refine Wp.sa ?_
 obtain rfl:=oi h
 exact Wp.ret RetB
theorem slices_IndexFunc___byte_byte__impl_BuildOk_1_ok {u p0 r} (h:slices_IndexFunc___byte_byte__impl_BuildOk_1 u p0=some r):CallOK Try.prog 88 [.one (.s p0),.clo 80 []] (V.i r) []:=by
 unfold slices_IndexFunc___byte_byte__impl_BuildOk_1 at h
 refine ofb Try.f88 false ?_
 refine Wp.sa ?_
 refine Wp.j0 (slices_IndexFunc___byte_byte__impl_BuildOk_1_j1 u=some r) ⟨[(4,.i 0)],[],[]⟩ (fun h=>?_) ?_
 ·refine Wp.sa ?_
  obtain rfl:=oi h
  exact Wp.ret RetB
 refine Wp.sr ?_
 refine Runs.ln 1 5 (eInt .u8) p0 ?_
 refine Runs.alln ?_
 refine Wp.block ?_
 refine Wp.l2 (fun k_slices_IndexFunc___byte_byte__impl_BuildOk_1_l2 p0 x2=>slices_IndexFunc___byte_byte__impl_BuildOk_1_l2 u k_slices_IndexFunc___byte_byte__impl_BuildOk_1_l2 p0 x2=some r) (fun p0 x2=>⟨[(0,.s p0),(1,.clo 80 []),(4,.i 0),(7,.i ((p0.length:Int))),(8,.i x2)],[],[]⟩) (fun k_slices_IndexFunc___byte_byte__impl_BuildOk_1_l2 p0 x2 h=>?_) h (lo []) (fun _ _  h=>nomatch h)
 rw [slices_IndexFunc___byte_byte__impl_BuildOk_1_l2] at h
 refine Wp.sa ?_
 refine Wp.seq ?_
 refine Wp.c2 h (fun h=>?_) (fun h=>?_)
 ·refine Wp.sk ?_
  refine Wp.seq ?_
  refine Wp.block ?_
  refine Wp.sa ?_
  refine Wp.sr ?_
  refine Runs.ix 3 5 1 (eInt .u8) h (fun y4 h _=>?_)
  refine Runs.cl false 1 16 [.t (.int .u8 y4)] h (fun _=>impl_BuildOk_1_ok) (fun r5 h=>?_)
  refine Runs.alln ?_
  refine Wp.c2 h (fun h=>?_) (fun h=>?_)
  ·refine Wp.sa ?_
   obtain rfl:=oi h
   exact Wp.ret RetB
  refine Wp.skip ?_
  refine blkN ?_
  refine thenN ?_
  refine Wp.rg [] [] ?_
  refine Runs.alln ?_
  exact ⟨_,_,h,lo []⟩
 refine Wp.exit ?_
 refine thenE ?_
 refine thenE ?_
 refine blkE ?_
 refine thenN ?_
 exact ⟨h,lo []⟩
theorem slices_ContainsFunc___byte_byte__impl_BuildOk_1_ok {u p0 r} (h:slices_ContainsFunc___byte_byte__impl_BuildOk_1 u p0=some r):CallOK Try.prog 79 [.one (.s p0),.clo 80 []] (V.b r) []:=by
 unfold slices_ContainsFunc___byte_byte__impl_BuildOk_1 at h
 refine ofb Try.f79 false ?_
 refine Wp.sa ?_
 refine Wp.cl false 2 7 [.s p0,.clo 80 []] h (fun _=>slices_IndexFunc___byte_byte__impl_BuildOk_1_ok) (fun r1 h=>?_)
 obtain rfl:=oi h
 exact Wp.ret RetB
theorem impl_BuildOk_ok {u p0 p1 r} (h:impl_BuildOk u p0 p1=some r):CallOK Try.prog 61 [V.g (Manifest.enc p0),V.g (Build.enc p1)] (V.b r) []:=by
 unfold impl_BuildOk at h
 refine ofb Try.f61 false ?_
 refine Wp.sa ?_
 refine Wp.seq ?_
 refine Wp.j3 (fun x4 p0 p1=>impl_BuildOk_j1 u x4 p0 p1=some r) (fun x4 p0 p1=>⟨[(2,.obj 2 0),(3,.obj 3 0),(4,.b false),(32,.b x4)],[(2,((Manifest.enc p0).map .t)),(3,[.i p1.fHave,.s p1.fBuf])],[]⟩) (fun x4 p0 p1 h=>?_) ?_
 ·refine Wp.c2 h (fun h=>?_) (fun h=>?_)
  ·refine Wp.sa ?_
   obtain rfl:=oi h
   exact Wp.ret RetB
  refine Wp.sk ?_
  refine Wp.j0 (impl_BuildOk_j2 u=some r) ⟨[(4,.b false)],[],[]⟩ (fun h=>?_) ?_
  ·refine Wp.sa ?_
   obtain rfl:=oi h
   exact Wp.ret RetB
  refine Wp.sr ?_
  refine Runs.ln 2 89 Sum.enc p0.fSums ?_
  refine Runs.alln ?_
  refine Wp.block ?_
  refine Wp.l3 (fun k_impl_BuildOk_l3 p0 x6 p1=>impl_BuildOk_l3 u k_impl_BuildOk_l3 p0 x6 p1=some r) (fun p0 x6 p1=>⟨[(2,.obj 2 0),(3,.obj 3 0),(4,.b false),(34,.t (.sl 2 (p0.fSums.map Sum.enc))),(35,.i ((p0.fSums.length:Int))),(36,.i x6)],[(2,((Manifest.enc p0).map .t)),(3,[.i p1.fHave,.s p1.fBuf])],[]⟩) (fun k_impl_BuildOk_l3 p0 x6 p1 h=>?_) h (lo []) (fun _ _ _  h=>nomatch h)
  rw [impl_BuildOk_l3] at h
  refine Wp.sa ?_
  refine Wp.seq ?_
  refine Wp.c2 h (fun h=>?_) (fun h=>?_)
  ·refine Wp.sk ?_
   refine Wp.seq ?_
   refine Wp.block ?_
   refine Wp.sr ?_
   refine Runs.ix 1 89 2 Sum.enc h (fun y8 h _=>?_)
   refine Runs.alln ?_
   refine Wp.cl false 3 44 [.agg [.i p1.fHave,.s p1.fBuf],.agg ((Manifest.enc p0).map .t),.i x6] h (fun _=>impl_Build__block_ok) (fun r9 h=>?_)
   refine Wp.j4 (fun p0 x6 x16 p1=>impl_BuildOk_j4 u (fun z0 z1 z2=>impl_BuildOk_l3 u k_impl_BuildOk_l3 z0 z1 z2) p0 x6 x16 p1=some r) (fun p0 x6 x16 p1=>⟨[(2,.obj 2 0),(3,.obj 3 0),(4,.b false),(34,.t (.sl 2 (p0.fSums.map Sum.enc))),(35,.i ((p0.fSums.length:Int))),(36,.i x6),(65,.b x16)],[(2,((Manifest.enc p0).map .t)),(3,[.i p1.fHave,.s p1.fBuf])],[]⟩) (fun p0 x6 x16 p1 h=>?_) ?_
   ·refine Wp.c2 h (fun h=>?_) (fun h=>?_)
    ·refine Wp.sa ?_
     obtain rfl:=oi h
     exact Wp.ret RetB
    refine Wp.skip ?_
    refine blkN ?_
    refine thenN ?_
    refine Wp.rg [] [] ?_
    refine Runs.alln ?_
    exact ⟨_,_,_,h,lo []⟩
   refine Wp.regionA (pOf []) (rhoOf [(3,.obj 3),(5,.frz),(6,.obj 6),(7,.frz),(45,.obj 3),(46,.frz),(47,.frz),(48,.frz),(49,.frz),(50,.frz),(51,.frz),(52,.frz),(54,.frz),(55,.frz),(56,.obj 3),(57,.frz),(58,.frz),(59,.frz),(60,.frz),(61,.frz),(62,.frz)]) kr kr ?_
   refine Runs.cl false 3 48 [.i p1.fHave,.i x6] h (fun _=>impl_InSet_ok) (fun r10 h=>?_)
   refine Runs.c2 1 49 h (fun h=>?_) (fun h=>?_)
   ·refine Runs.cl false 1 51 [.s r9] h (fun _=>impl_SumOf_ok) (fun r11 h=>?_)
    refine Runs.c2 4 55 h (fun h=>?_) (fun h=>?_)
    ·refine Runs.alln ?_
     exact ⟨_,_,_,_,h,lo []⟩
    refine Runs.cl false 3 59 [.i p1.fHave,.i x6] h (fun _=>impl_InSet_ok) (fun r12 h=>?_)
    refine Runs.c2 2 61 h (fun h=>?_) (fun h=>?_)
    ·refine Runs.cl false 1 63 [.s r9,.clo 80 []] h (fun _=>slices_ContainsFunc___byte_byte__impl_BuildOk_1_ok) (fun r13 h=>?_)
     refine Runs.alln ?_
     exact ⟨_,_,_,_,h,lo []⟩
    refine Runs.alln ?_
    exact ⟨_,_,_,_,h,lo []⟩
   refine Runs.cl false 9 59 [.i p1.fHave,.i x6] h (fun _=>impl_InSet_ok) (fun r14 h=>?_)
   refine Runs.c2 2 61 h (fun h=>?_) (fun h=>?_)
   ·refine Runs.cl false 1 63 [.s r9,.clo 80 []] h (fun _=>slices_ContainsFunc___byte_byte__impl_BuildOk_1_ok) (fun r15 h=>?_)
    refine Runs.alln ?_
    exact ⟨_,_,_,_,h,lo []⟩
   refine Runs.alln ?_
   exact ⟨_,_,_,_,h,lo []⟩
  refine Wp.exit ?_
  refine thenE ?_
  refine thenE ?_
  refine blkE ?_
  refine thenN ?_
  exact ⟨h,lo []⟩
 refine Wp.regionA (pOf []) (rhoOf [(2,.obj 2),(3,.obj 3),(8,.frz),(9,.frz),(10,.frz),(11,.frz),(12,.obj 3),(13,.frz),(14,.frz),(16,.frz),(17,.frz),(18,.obj 3),(19,.frz),(20,.frz),(21,.frz),(22,.frz),(24,.frz),(25,.frz),(26,.obj 3),(27,.frz),(28,.frz),(29,.obj 2),(30,.frz)]) kr kr ?_
 refine Runs.cl false 1 9 [.agg ((Manifest.enc p0).map .t)] h (fun _=>impl_ManOk_ok) (fun r1 h=>?_)
 refine Runs.c2 2 11 h (fun h=>?_) (fun h=>?_)
 ·refine Runs.alln ?_
  exact ⟨_,_,_,h,lo []⟩
 refine Runs.cl false 2 14 [.i p1.fHave] h (fun _=>impl_SetOk_ok) (fun r2 h=>?_)
 refine Runs.c2 3 17 h (fun h=>?_) (fun h=>?_)
 ·refine Runs.alln ?_
  exact ⟨_,_,_,h,lo []⟩
 refine Runs.cl false 3 21 [.agg ((Manifest.enc p0).map .t)] h (fun _=>impl_AllParts_ok) (fun r3 h=>?_)
 refine Runs.c2 4 25 h (fun h=>?_) (fun h=>?_)
 ·refine Runs.alln ?_
  exact ⟨_,_,_,h,lo []⟩
 refine Runs.ln 2 5 (eInt .u8) p1.fBuf ?_
 refine Runs.alln ?_
 exact ⟨_,_,_,h,lo []⟩
theorem impl_Without_ok {u p0 p1 r} (h:impl_Without u p0 p1=some r):CallOK Try.prog 81 [V.i p0,V.i p1] (V.i r) []:=by
 unfold impl_Without at h
 refine ofb Try.f81 false ?_
 refine Wp.sa ?_
 refine Wp.seq ?_
 refine Wp.j3 (fun p0 p1 x3=>impl_Without_j1 u p0 p1 x3=some r) (fun p0 p1 x3=>⟨[(0,.i p0),(1,.i p1),(4,.i 0),(12,.b x3)],[],[]⟩) (fun p0 p1 x3 h=>?_) ?_
 ·refine Wp.c2 h (fun h=>?_) (fun h=>?_)
  ·refine Wp.sa ?_
   obtain rfl:=oi h
   exact Wp.ret RetB
  refine Wp.sk ?_
  refine Wp.sa ?_
  obtain rfl:=oi h
  exact Wp.ret RetB
 refine Wp.rg [] [] ?_
 refine Runs.cl false 1 6 [.i p0] h (fun _=>impl_SetOk_ok) (fun r1 h=>?_)
 refine Runs.c2 2 8 h (fun h=>?_) (fun h=>?_)
 ·refine Runs.alln ?_
  exact ⟨_,_,_,h,lo []⟩
 refine Runs.cl false 1 10 [.i p1] h (fun _=>impl_SetOk_ok) (fun r2 h=>?_)
 refine Runs.alln ?_
 exact ⟨_,_,_,h,lo []⟩
theorem impl_Missing_ok {u p0 p1 r} (h:impl_Missing u p0 p1=some r):CallOK Try.prog 62 [V.g (Manifest.enc p0),V.g (Build.enc p1)] (V.i r) []:=by
 unfold impl_Missing at h
 refine ofb Try.f62 false ?_
 refine Wp.sa ?_
 refine Wp.seq ?_
 refine Wp.regionA (pOf []) (rhoOf [(2,.obj 2),(3,.obj 3),(5,.frz),(6,.frz),(7,.obj 3),(8,.frz),(9,.frz)]) kr kr ?_
 refine Runs.cl false 1 6 [.agg ((Manifest.enc p0).map .t)] h (fun _=>impl_AllParts_ok) (fun r1 h=>?_)
 refine Runs.cl false 2 9 [.i r1,.i p1.fHave] h (fun _=>impl_Without_ok) (fun r2 h=>?_)
 refine Runs.alln ?_
 obtain rfl:=oi h
 exact Wp.ret RetB
theorem impl_Whole_ok {u p0 p1 r} (h:impl_Whole u p0 p1=some r):CallOK Try.prog 36 [V.g (Manifest.enc p0),V.g (Build.enc p1)] (V.b r) []:=by
 unfold impl_Whole at h
 refine ofb Try.f36 false ?_
 refine Wp.sa ?_
 refine Wp.sr ?_
 refine Runs.c2 4 8 h (fun h=>?_) (fun h=>?_)
 ·refine Runs.cl false 2 11 [.agg ((Manifest.enc p0).map .t),.agg [.i p1.fHave,.s p1.fBuf]] h (fun _=>impl_BuildOk_ok) (fun r1 h=>?_)
  refine Runs.c2 2 13 h (fun h=>?_) (fun h=>?_)
  ·refine Runs.cl false 2 16 [.agg ((Manifest.enc p0).map .t),.agg [.i p1.fHave,.s p1.fBuf]] h (fun _=>impl_Missing_ok) (fun r2 h=>?_)
   refine Runs.alln ?_
   obtain rfl:=oi h
   exact Wp.ret RetB
  refine Runs.alln ?_
  obtain rfl:=oi h
  exact Wp.ret RetB
 refine Runs.alln ?_
 obtain rfl:=oi h
 exact Wp.ret RetB
theorem impl_copyPut_okd {u p0 r} (h:impl_copyPut u p0=some r):DOK Try.prog 67 [V.g (Put.enc p0)] (V.w [0,0,5,0,0,0] (Put.enc r)):=by
 unfold impl_copyPut at h
 refine DOK.of_bodyK (fn:=Try.f67) (m:=true) kr rfl kr kr kr ?_
 refine Wp.sa ?_
 refine Wp.sr ?_
 refine Runs.batch 2 kr ?_
 obtain ⟨r1,e_r1,h⟩:=bind_some h
 refine Runs.callDK 5 31 [] [.ext false (.sl 1 (p0.fB.map (eInt .u8)))] [.one (.s p0.fB)] (.one (.ow 5 1 (r1.map (eInt .u8)))) rfl rfl kr kr kr kr kr (impl_cloned_okd e_r1) kr ?_
 refine Runs.alln ?_
 refine Wp.sa ?_
 obtain rfl:=oi h
 exact Wp.ret RetB
theorem impl_copyDisk_okd {u p0 r} (h:impl_copyDisk u p0=some r):DOK Try.prog 41 [V.g (Disk.enc p0)] (V.w [5,5,0,0,0,80] (Disk.enc r)):=by
 unfold impl_copyDisk at h
 refine DOK.of_bodyK (fn:=Try.f41) (m:=true) kr rfl kr kr kr ?_
 refine Wp.sa ?_
 refine Wp.seq ?_
 refine Wp.regionA (pOf []) (rhoOf [(1,.obj 1),(3,.obj 3),(6,.obj 1),(7,.frz),(8,.own 8),(9,.obj 1),(10,.frz),(11,.own 11),(12,.obj 1),(13,.frz)]) kr kr ?_
 refine Runs.batch 2 kr ?_
 obtain ⟨r1,e_r1,h⟩:=bind_some h
 refine Runs.callDK 8 31 [] [.ext false (.sl 1 (p0.fA.map (eInt .u8)))] [.one (.s p0.fA)] (.one (.ow 5 1 (r1.map (eInt .u8)))) rfl rfl kr kr kr kr kr (impl_cloned_okd e_r1) kr ?_
 refine Runs.batch 2 kr ?_
 obtain ⟨r2,e_r2,h⟩:=bind_some h
 refine Runs.callDK 11 31 [] [.ext false (.sl 1 (p0.fB.map (eInt .u8)))] [.one (.s p0.fB)] (.one (.ow 5 1 (r2.map (eInt .u8)))) rfl rfl kr kr kr kr kr (impl_cloned_okd e_r2) kr ?_
 refine Runs.alln ?_
 refine Wp.j4 (fun r1 r2 p0 x11=>impl_copyDisk_j1 u r1 r2 p0 x11=some r) (fun r1 r2 p0 x11=>⟨[(2,.obj 2 0),(3,.obj 3 0)],[(2,[.nil,.nil,.i 0,.i 0,.i 0,.nil]),(3,[.own 197120,.own 197121,.i p0.fR.fGen,.i p0.fR.fSlot,.i p0.fR.fLen,.own 197125])],[(197120,.live 5 1 (r1.map (eInt .u8))),(197121,.live 5 1 (r2.map (eInt .u8))),(197125,.live 80 6 (x11.map Put.enc))]⟩) (fun r1 r2 p0 x11 h=>?_) ?_
 ·refine Wp.sa ?_
  obtain rfl:=oi h
  exact Wp.ret RetB
 refine Wp.sr ?_
 refine Runs.batch 2 kr ?_
 refine Runs.lenX (e:=80) Put.enc p0.fP false 6 rfl rfl rfl kr kr kr kr ?_
 refine Runs.alln ?_
 refine Wp.block ?_
 refine Wp.l5 (fun k_impl_copyDisk_l2 p0 x5 r1 r2 x6=>impl_copyDisk_l2 u k_impl_copyDisk_l2 p0 x5 r1 r2 x6=some r) (fun p0 x5 r1 r2 x6=>⟨[(2,.obj 2 0),(3,.obj 3 0),(16,.ext false (.sl 6 (p0.fP.map Put.enc))),(17,.i ((p0.fP.length:Int))),(18,.i x5)],[(2,[.nil,.nil,.i 0,.i 0,.i 0,.nil]),(3,[.own 197120,.own 197121,.i p0.fR.fGen,.i p0.fR.fSlot,.i p0.fR.fLen,.own 197125])],[(197120,.live 5 1 (r1.map (eInt .u8))),(197121,.live 5 1 (r2.map (eInt .u8))),(197125,.live 80 6 (x6.map Put.enc))]⟩) (fun k_impl_copyDisk_l2 p0 x5 r1 r2 x6 h=>?_) h (Le.trans (Le.emptyO 3 5 197125 80 6 [.own 524288,.own 720896,.i p0.fR.fGen,.i p0.fR.fSlot,.i p0.fR.fLen,.nil] kr kr kr) (lo [(197120,524288),(197121,720896)])) (fun _ _ _ _ _  h=>nomatch h)
 rw [impl_copyDisk_l2] at h
 refine Wp.sa ?_
 refine Wp.seq ?_
 refine Wp.c2 h (fun h=>?_) (fun h=>?_)
 ·refine Wp.sk ?_
  refine Wp.seq ?_
  refine Wp.block ?_
  refine Wp.sr ?_
  obtain ⟨y9,e_y9,h⟩:=bind_some h
  refine Runs.idxX (e:=80) (kk:=.i64) (sz:=6) Put.enc p0.fP x5 false rfl kr kr kr kr kr kr e_y9 ?_
  refine Runs.alln ?_
  refine Wp.regionA (pOf []) (rhoOf [(3,.obj 3),(5,.obj 5),(22,.obj 3),(23,.own 3),(24,.frz),(25,.own 25),(26,.own 26),(27,.own 27),(28,.obj 3)]) kr kr ?_
  refine Runs.batch 3 kr ?_
  obtain ⟨r10,e_r10,h⟩:=bind_some h
  refine Runs.callDK 25 67 [] [.agg [.i y9.fWhat,.i y9.fAt,.ext false (.sl 1 (y9.fB.map (eInt .u8))),.i y9.fR.fGen,.i y9.fR.fSlot,.i y9.fR.fLen]] [.agg ((Put.enc y9).map .t)] (V.w [0,0,5,0,0,0] (Put.enc r10)) rfl rfl kr kr kr kr kr (impl_copyPut_okd e_r10) kr ?_
  refine Runs.ap (ys:=[r10]) 1 27 80 6 197125 Put.enc h (fun h=>?_)
  refine Runs.all kr ?_
  refine blkN ?_
  refine thenN ?_
  refine Wp.rg [] [] ?_
  refine Runs.alln ?_
  exact ⟨_,_,_,_,_,h,lo [(197125,1769472)]⟩
 refine Wp.exit ?_
 refine thenE ?_
 refine thenE ?_
 refine blkE ?_
 refine thenN ?_
 exact ⟨_,_,_,_,h,lo []⟩
theorem impl_Spare_ok {u p0 r} (h:impl_Spare u p0=some r):CallOK Try.prog 40 [V.g (Disk.enc p0)] (V.i r) []:=by
 unfold impl_Spare at h
 refine ofb Try.f40 false ?_
 refine Wp.sa ?_
 refine Wp.sa ?_
 obtain rfl:=oi h
 exact Wp.ret RetB
theorem impl_Disk__with_okd {u p0 p1 r} (h:impl_Disk__with u p0 p1=some r):DOK Try.prog 66 [V.g (Disk.enc p0),V.g (Put.enc p1)] (.tup [V.w [5,5,0,0,0,80] (Disk.enc r.1),V.b r.2]):=by
 unfold impl_Disk__with at h
 refine DOK.of_bodyK (fn:=Try.f66) (m:=true) kr rfl kr kr kr ?_
 refine Wp.sa ?_
 refine Wp.sr ?_
 refine Runs.batch 1 kr ?_
 obtain ⟨r1,e_r1,h⟩:=bind_some h
 refine Runs.callDK 8 41 [] [.agg [.ext false (.sl 1 (p0.fA.map (eInt .u8))),.ext false (.sl 1 (p0.fB.map (eInt .u8))),.i p0.fR.fGen,.i p0.fR.fSlot,.i p0.fR.fLen,.ext false (.sl 6 (p0.fP.map Put.enc))]] [.agg ((Disk.enc p0).map .t)] (V.w [5,5,0,0,0,80] (Disk.enc r1)) rfl rfl kr kr kr kr kr (impl_copyDisk_okd e_r1) kr ?_
 refine Runs.alln ?_
 refine Wp.seq ?_
 refine Wp.regionA (pOf []) (rhoOf [(3,.obj 3),(6,.obj 6),(9,.obj 6),(10,.own 8),(11,.frz),(12,.own 12),(13,.own 13),(14,.own 14),(15,.obj 6)]) kr kr ?_
 refine Runs.batch 3 kr ?_
 obtain ⟨r2,e_r2,h⟩:=bind_some h
 refine Runs.callDK 12 67 [] [.agg [.i p1.fWhat,.i p1.fAt,.ext false (.sl 1 (p1.fB.map (eInt .u8))),.i p1.fR.fGen,.i p1.fR.fSlot,.i p1.fR.fLen]] [.agg ((Put.enc p1).map .t)] (V.w [0,0,5,0,0,0] (Put.enc r2)) rfl rfl kr kr kr kr kr (impl_copyPut_okd e_r2) kr ?_
 refine Runs.ap (ys:=[r2]) 1 14 80 6 524293 Put.enc h (fun h=>?_)
 refine Runs.alln ?_
 refine Wp.seq ?_
 refine Wp.sr ?_
 refine Runs.cb 1 17 [.agg [.own 524288,.own 524289,.i r1.fR.fGen,.i r1.fR.fSlot,.i r1.fR.fLen,.own 917504]] h (fun _=>impl_DiskOk_ok) (fun r4 h=>?_)
 refine Runs.alln ?_
 refine Wp.c2 h (fun h=>?_) (fun h=>?_)
 ·refine Wp.sr ?_
  refine Runs.batch 1 kr ?_
  obtain ⟨r5,e_r5,h⟩:=bind_some h
  refine Runs.callDK 20 41 [] [.agg [.ext false (.sl 1 (p0.fA.map (eInt .u8))),.ext false (.sl 1 (p0.fB.map (eInt .u8))),.i p0.fR.fGen,.i p0.fR.fSlot,.i p0.fR.fLen,.ext false (.sl 6 (p0.fP.map Put.enc))]] [.agg ((Disk.enc p0).map .t)] (V.w [5,5,0,0,0,80] (Disk.enc r5)) rfl rfl kr kr kr kr kr (impl_copyDisk_okd e_r5) kr ?_
  refine Runs.alln ?_
  obtain rfl:=oi h
  exact Wp.ret RetB
 refine Wp.sk ?_
 refine Wp.sa ?_
 obtain rfl:=oi h
 exact Wp.ret RetB
theorem impl_PutBytes_okd {u p0 p1 p2 p3 r} (h:impl_PutBytes u p0 p1 p2 p3=some r):DOK Try.prog 64 [V.g (Disk.enc p0),V.i p1,V.i p2,.one (.s p3)] (.tup [V.w [5,5,0,0,0,80] (Disk.enc r.1),V.b r.2]):=by
 unfold impl_PutBytes at h
 refine DOK.of_bodyK (fn:=Try.f64) (m:=true) kr rfl kr kr kr ?_
 refine Wp.sa ?_
 refine Wp.seq ?_
 refine Wp.cl false 1 11 [.i p1] h (fun _=>impl_isSlot_ok) (fun r1 h=>?_)
 refine Wp.c2 h (fun h=>?_) (fun h=>?_)
 ·refine Wp.sr ?_
  refine Runs.batch 1 kr ?_
  obtain ⟨r2,e_r2,h⟩:=bind_some h
  refine Runs.callDK 14 41 [] [.agg [.ext false (.sl 1 (p0.fA.map (eInt .u8))),.ext false (.sl 1 (p0.fB.map (eInt .u8))),.i p0.fR.fGen,.i p0.fR.fSlot,.i p0.fR.fLen,.ext false (.sl 6 (p0.fP.map Put.enc))]] [.agg ((Disk.enc p0).map .t)] (V.w [5,5,0,0,0,80] (Disk.enc r2)) rfl rfl kr kr kr kr kr (impl_copyDisk_okd e_r2) kr ?_
  refine Runs.alln ?_
  obtain rfl:=oi h
  exact Wp.ret RetB
 refine Wp.sk ?_
 refine Wp.sr ?_
 refine Runs.batch 5 kr ?_
 obtain ⟨r3,e_r3,h⟩:=bind_some h
 refine Runs.callDK 20 66 [] [.agg [.ext false (.sl 1 (p0.fA.map (eInt .u8))),.ext false (.sl 1 (p0.fB.map (eInt .u8))),.i p0.fR.fGen,.i p0.fR.fSlot,.i p0.fR.fLen,.ext false (.sl 6 (p0.fP.map Put.enc))],.agg [.i p1,.i p2,.ext false (.sl 1 (p3.map (eInt .u8))),.i 0,.i 0,.i 0]] [.agg ((Disk.enc p0).map .t),.agg [.i p1,.i p2,.s p3,.i 0,.i 0,.i 0]] (.tup [V.w [5,5,0,0,0,80] (Disk.enc r3.1),V.b r3.2]) rfl rfl kr kr kr kr kr (impl_Disk__with_okd e_r3) kr ?_
 refine Runs.alln ?_
 obtain rfl:=oi h
 exact Wp.ret RetB
theorem impl_Sure_1_ok {u p0 r} (h:impl_Sure_1 u p0=some r):CallOK Try.prog 65 [V.i p0] (V.b r) []:=by
 unfold impl_Sure_1 at h
 refine ofb Try.f65 false ?_
 refine Wp.sa ?_
 refine Wp.sa ?_
 obtain rfl:=oi h
 exact Wp.ret RetB
theorem impl_Disk__settled__impl_Sure_1_ok {u p0 r} (h:impl_Disk__settled__impl_Sure_1 u p0=some r):CallOK Try.prog 44 [V.g (Disk.enc p0),.clo 65 []] (V.w [5,5,0,0,0,80] (Disk.enc r)) []:=by
 unfold impl_Disk__settled__impl_Sure_1 at h
 refine ofb Try.f44 true ?_
 refine Wp.sa ?_
 refine Wp.cl false 1 9 [.agg ((Disk.enc p0).map .t)] h (fun _=>impl_copyDisk_ok) (fun r1 h=>?_)
 refine Wp.seq ?_
 refine Wp.cl false 1 11 [.agg ((Disk.enc p0).map .t)] h (fun _=>impl_DiskOk_ok) (fun r2 h=>?_)
 refine Wp.c2 h (fun h=>?_) (fun h=>?_)
 ·refine Wp.sa ?_
  obtain rfl:=oi h
  exact Wp.ret RetB
 refine Wp.sk ?_
 refine Wp.j6 (fun x33 x34 x35 x36 x37 x38=>impl_Disk__settled__impl_Sure_1_j1 u x33 x34 x35 x36 x37 x38=some r) (fun x33 x34 x35 x36 x37 x38=>⟨[(4,.obj 4 0),(5,.obj 5 0)],[(4,[.nil,.nil,.i 0,.i 0,.i 0,.nil]),(5,[.own 328192,.own 328193,.i x35,.i x36,.i x37,.own 328197])],[(328192,.live 5 1 (x33.map (eInt .u8))),(328193,.live 5 1 (x34.map (eInt .u8))),(328197,.live 80 6 (x38.map Put.enc))]⟩) (fun x33 x34 x35 x36 x37 x38 h=>?_) ?_
 ·refine Wp.sa ?_
  refine Wp.sa ?_
  obtain rfl:=oi h
  exact Wp.ret RetB
 refine Wp.sr ?_
 refine Runs.ln 2 80 Put.enc p0.fP ?_
 refine Runs.alln ?_
 refine Wp.block ?_
 refine Wp.l8 (fun k_impl_Disk__settled__impl_Sure_1_l2 p0 x10 x11 x12 x13 x14 x15 x16=>impl_Disk__settled__impl_Sure_1_l2 u k_impl_Disk__settled__impl_Sure_1_l2 p0 x10 x11 x12 x13 x14 x15 x16=some r) (fun p0 x10 x11 x12 x13 x14 x15 x16=>⟨[(1,.clo 65 []),(4,.obj 4 0),(5,.obj 5 0),(15,.t (.sl 6 (p0.fP.map Put.enc))),(16,.i ((p0.fP.length:Int))),(17,.i x10)],[(4,[.nil,.nil,.i 0,.i 0,.i 0,.nil]),(5,[.own 328192,.own 328193,.i x13,.i x14,.i x15,.own 328197])],[(328192,.live 5 1 (x11.map (eInt .u8))),(328193,.live 5 1 (x12.map (eInt .u8))),(328197,.live 80 6 (x16.map Put.enc))]⟩) (fun k_impl_Disk__settled__impl_Sure_1_l2 p0 x10 x11 x12 x13 x14 x15 x16 h=>?_) h (lo [(328192,589824),(328193,589825),(328197,589829)]) (fun _ _ _ _ _ _ _ _  h=>nomatch h)
 rw [impl_Disk__settled__impl_Sure_1_l2] at h
 refine Wp.sa ?_
 refine Wp.seq ?_
 refine Wp.c2 h (fun h=>?_) (fun h=>?_)
 ·refine Wp.sk ?_
  refine Wp.j8 (fun p0 x10 x27 x28 x29 x30 x31 x32=>impl_Disk__settled__impl_Sure_1_j3 u (fun z0 z1 z2 z3 z4 z5 z6 z7=>impl_Disk__settled__impl_Sure_1_l2 u k_impl_Disk__settled__impl_Sure_1_l2 z0 z1 z2 z3 z4 z5 z6 z7) p0 x10 x27 x28 x29 x30 x31 x32=some r) (fun p0 x10 x27 x28 x29 x30 x31 x32=>⟨[(1,.clo 65 []),(4,.obj 4 0),(5,.obj 5 0),(15,.t (.sl 6 (p0.fP.map Put.enc))),(16,.i ((p0.fP.length:Int))),(17,.i x10)],[(4,[.nil,.nil,.i 0,.i 0,.i 0,.nil]),(5,[.own 328192,.own 328193,.i x29,.i x30,.i x31,.own 328197])],[(328192,.live 5 1 (x27.map (eInt .u8))),(328193,.live 5 1 (x28.map (eInt .u8))),(328197,.live 80 6 (x32.map Put.enc))]⟩) (fun p0 x10 x27 x28 x29 x30 x31 x32 h=>?_) ?_
  ·refine Wp.rg [] [] ?_
   refine Runs.alln ?_
   exact ⟨_,_,_,_,_,_,_,_,h,lo []⟩
  refine Wp.block ?_
  refine Wp.sr ?_
  refine Runs.ix 1 80 6 Put.enc h (fun y24 h _=>?_)
  refine Runs.alln ?_
  refine Wp.cl false 2 24 [.i x10] h (fun _=>impl_Sure_1_ok) (fun r25 h=>?_)
  refine Wp.c2 h (fun h=>?_) (fun h=>?_)
  ·refine Wp.rg [] [] ?_
   refine Runs.cl true 1 26 [.obj 5 0,.agg ((Put.enc y24).map .t)] h (fun _=>impl_Disk__perform__own_p0_fP_ok) (fun r26 h=>?_)
   refine Runs.all kr ?_
   refine blkN ?_
   refine thenN ?_
   exact ⟨_,_,_,_,_,_,_,_,h,lo [(328192,1705280),(328193,1705281),(328197,1705285)]⟩
  refine Wp.skip ?_
  refine blkN ?_
  refine thenN ?_
  exact ⟨_,_,_,_,_,_,_,_,h,lo []⟩
 refine Wp.exit ?_
 refine thenE ?_
 refine thenE ?_
 refine blkE ?_
 refine thenN ?_
 exact ⟨_,_,_,_,_,_,h,lo []⟩
theorem impl_Slice_ok {u p0 p1 p2 r} (h:impl_Slice u p0 p1 p2=some r):CallOK Try.prog 76 [.one (.s p0),V.i p1,V.i p2] (.tup [.one (.ow 5 1 (r.1.map (eInt .u8))),V.b r.2]) []:=by
 unfold impl_Slice at h
 refine ofb Try.f76 true ?_
 refine Wp.sa ?_
 refine Wp.seq ?_
 refine Wp.j4 (fun p0 p1 p2 x3=>impl_Slice_j1 u p0 p1 p2 x3=some r) (fun p0 p1 p2 x3=>⟨[(0,.s p0),(1,.i p1),(2,.i p2),(6,.nil),(7,.b false),(21,.b x3)],[],[]⟩) (fun p0 p1 p2 x3 h=>?_) ?_
 ·refine Wp.c2 h (fun h=>?_) (fun h=>?_)
  ·refine Wp.sa ?_
   obtain rfl:=oi h
   exact Wp.ret RetB
  refine Wp.sk ?_
  refine Wp.sr ?_
  refine Runs.batch 5 kr ?_
  obtain ⟨_,e_4,h⟩:=bind_some h
  refine Runs.subsl (e:=5) (ax:=.s p0) (alo:=(some (.i p1))) (ahi:=(some (.i (bAdd .i64 p1 p2)))) (eInt .u8) p0 1 p1 (bAdd .i64 p1 p2) rfl kr kr kr kr kr kr kr kr kr kr kr (chk_some e_4) ?_
  refine Runs.cl false 0 28 [.t (.sl 1 (((p0.take (Int.toNat (bAdd .i64 p1 p2))).drop (Int.toNat p1)).map (eInt .u8)))] h (fun _=>impl_cloned_ok) (fun r5 h=>?_)
  refine Runs.alln ?_
  obtain rfl:=oi h
  exact Wp.ret RetB
 refine Wp.rg [] [] ?_
 refine Runs.ln 2 5 (eInt .u8) p0 ?_
 refine Runs.cl false 0 11 [.i p1,.i 0,.i ((p0.length:Int))] h (fun _=>impl_within_ok) (fun r1 h=>?_)
 refine Runs.c2 2 13 h (fun h=>?_) (fun h=>?_)
 ·refine Runs.alln ?_
  exact ⟨_,_,_,_,h,lo []⟩
 refine Runs.ln 2 5 (eInt .u8) p0 ?_
 refine Runs.cl false 2 19 [.i p2,.i 0,.i (bSub .i64 ((p0.length:Int)) p1)] h (fun _=>impl_within_ok) (fun r2 h=>?_)
 refine Runs.alln ?_
 exact ⟨_,_,_,_,h,lo []⟩
theorem impl_BlockAt_ok {u p0 p1 p2 r} (h:impl_BlockAt u p0 p1 p2=some r):CallOK Try.prog 53 [.one (.s p0),V.i p1,V.i p2] (.tup [.one (.ow 5 1 (r.1.map (eInt .u8))),V.b r.2]) []:=by
 unfold impl_BlockAt at h
 refine ofb Try.f53 true ?_
 refine Wp.sa ?_
 refine Wp.sr ?_
 refine Runs.ln 2 5 (eInt .u8) p0 ?_
 refine Runs.cl false 1 15 [.i p1,.i ((p0.length:Int)),.i p2] h (fun _=>impl_SpanOf_ok) (fun r1 h=>?_)
 refine Runs.alln ?_
 refine Wp.seq ?_
 refine Wp.sa ?_
 refine Wp.c2 h (fun h=>?_) (fun h=>?_)
 ·refine Wp.sa ?_
  obtain rfl:=oi h
  exact Wp.ret RetB
 refine Wp.sk ?_
 refine Wp.cl false 3 23 [.s p0,.i r1.1,.i r1.2] h (fun _=>impl_Slice_ok) (fun r2 h=>?_)
 obtain rfl:=oi h
 exact Wp.ret RetB
theorem impl_StageAll_ok {u p0 p1 p2 r} (h:impl_StageAll u p0 p1 p2=some r):CallOK Try.prog 37 [V.g (Disk.enc p0),.one (.s p1),V.i p2] (.tup [V.w [5,5,0,0,0,80] (Disk.enc r.1),V.b r.2]) []:=by
 unfold impl_StageAll at h
 refine ofb Try.f37 true ?_
 refine Wp.sa ?_
 refine Wp.seq ?_
 refine Wp.j4 (fun p1 p2 x3 p0=>impl_StageAll_j1 u p1 p2 x3 p0=some r) (fun p1 p2 x3 p0=>⟨[(1,.s p1),(2,.i p2),(3,.obj 3 0),(6,.obj 6 0),(7,.b false),(29,.b x3)],[(3,((Disk.enc p0).map .t)),(6,[.nil,.nil,.i 0,.i 0,.i 0,.nil])],[]⟩) (fun p1 p2 x3 p0 h=>?_) ?_
 ·refine Wp.c2 h (fun h=>?_) (fun h=>?_)
  ·refine Wp.cl false 1 31 [.agg ((Disk.enc p0).map .t)] h (fun _=>impl_copyDisk_ok) (fun r4 h=>?_)
   obtain rfl:=oi h
   exact Wp.ret RetB
  refine Wp.sk ?_
  refine Wp.cl false 1 33 [.agg ((Disk.enc p0).map .t)] h (fun _=>impl_copyDisk_ok) (fun r5 h=>?_)
  refine Wp.j6 (fun x32 x33 x34 x35 x36 x37=>impl_StageAll_j2 u x32 x33 x34 x35 x36 x37=some r) (fun x32 x33 x34 x35 x36 x37=>⟨[(6,.obj 6 0),(7,.b false),(8,.obj 8 0)],[(6,[.nil,.nil,.i 0,.i 0,.i 0,.nil]),(8,[.own 524800,.own 524801,.i x34,.i x35,.i x36,.own 524805])],[(524800,.live 5 1 (x32.map (eInt .u8))),(524801,.live 5 1 (x33.map (eInt .u8))),(524805,.live 80 6 (x37.map Put.enc))]⟩) (fun x32 x33 x34 x35 x36 x37 h=>?_) ?_
  ·refine Wp.sa ?_
   obtain rfl:=oi h
   exact Wp.ret RetB
  refine Wp.sr ?_
  refine Runs.ln 2 5 (eInt .u8) p1 ?_
  refine Runs.cl false 0 37 [.i p2,.i ((p1.length:Int))] h (fun _=>impl_Blocks_ok) (fun r6 h=>?_)
  refine Runs.alln ?_
  refine Wp.block ?_
  refine Wp.l11 (fun k_impl_StageAll_l3 p1 p2 r6 x14 x15 x16 x17 x18 x19 x20 p0=>impl_StageAll_l3 u k_impl_StageAll_l3 p1 p2 r6 x14 x15 x16 x17 x18 x19 x20 p0=some r) (fun p1 p2 r6 x14 x15 x16 x17 x18 x19 x20 p0=>⟨[(1,.s p1),(2,.i p2),(3,.obj 3 0),(6,.obj 6 0),(7,.b false),(8,.obj 8 0),(37,.i r6),(38,.i x14)],[(3,((Disk.enc p0).map .t)),(6,[.nil,.nil,.i 0,.i 0,.i 0,.nil]),(8,[.own 524800,.own 524801,.i x17,.i x18,.i x19,.own 524805])],[(524800,.live 5 1 (x15.map (eInt .u8))),(524801,.live 5 1 (x16.map (eInt .u8))),(524805,.live 80 6 (x20.map Put.enc))]⟩) (fun k_impl_StageAll_l3 p1 p2 r6 x14 x15 x16 x17 x18 x19 x20 p0 h=>?_) h (lo [(524800,2162688),(524801,2162689),(524805,2162693)]) (fun _ _ _ _ _ _ _ _ _ _ _  h=>nomatch h)
  rw [impl_StageAll_l3] at h
  refine Wp.sa ?_
  refine Wp.seq ?_
  refine Wp.c2 h (fun h=>?_) (fun h=>?_)
  ·refine Wp.sk ?_
   refine Wp.seq ?_
   refine Wp.block ?_
   refine Wp.sa ?_
   refine Wp.cl false 3 45 [.s p1,.i p2,.i x14] h (fun _=>impl_BlockAt_ok) (fun r28 h=>?_)
   refine Wp.seq ?_
   refine Wp.le (Le.trans (Le.frzO 8 0 524800 5 1 [.own 524800,.own 524801,.i x17,.i x18,.i x19,.own 524805] (x15.map (eInt .u8)) kr kr kr) (Le.trans (Le.frzO 8 1 524801 5 1 [.s x15,.own 524801,.i x17,.i x18,.i x19,.own 524805] (x16.map (eInt .u8)) kr kr kr) (Le.frzO 8 5 524805 80 6 [.s x15,.s x16,.i x17,.i x18,.i x19,.own 524805] (x20.map Put.enc) kr kr kr))) ?_
   refine Wp.regionA (pOf []) (rhoOf [(2,.frz),(3,.obj 3),(8,.obj 8),(9,.frz),(10,.own 45),(12,.obj 12),(49,.frz),(50,.frz),(51,.frz),(52,.frz),(53,.frz),(54,.frz),(55,.own 45),(57,.own 56),(58,.frz)]) kr kr ?_
   refine Runs.cl false 2 51 [.agg ((Disk.enc p0).map .t)] h (fun _=>impl_Spare_ok) (fun r29 h=>?_)
   refine Runs.batch 4 kr ?_
   obtain ⟨r30,e_r30,h⟩:=bind_some h
   refine Runs.callDK 56 64 [] [.agg [.s x15,.s x16,.i x17,.i x18,.i x19,.t (.sl 6 (x20.map Put.enc))],.i r29,.i (bMul .i64 x14 p2),.own 2949120] [.agg [.s x15,.s x16,.i x17,.i x18,.i x19,.t (.sl 6 (x20.map Put.enc))],.one (.i r29),.one (.i (bMul .i64 x14 p2)),.one (.s r28.1)] (.tup [V.w [5,5,0,0,0,80] (Disk.enc r30.1),V.b r30.2]) rfl rfl kr kr kr kr kr (impl_PutBytes_okd e_r30) kr ?_
   refine Runs.alln ?_
   refine Wp.seq ?_
   refine Wp.sa ?_
   refine Wp.c2 h (fun h=>?_) (fun h=>?_)
   ·refine Wp.cl false 1 62 [.agg ((Disk.enc p0).map .t)] h (fun _=>impl_copyDisk_ok) (fun r31 h=>?_)
    obtain rfl:=oi h
    exact Wp.ret RetB
   refine Wp.sk ?_
   refine Wp.rg [] [] ?_
   refine Runs.all kr ?_
   refine blkN ?_
   refine thenN ?_
   refine Wp.rg [] [] ?_
   refine Runs.alln ?_
   exact ⟨_,_,_,_,_,_,_,_,_,_,_,h,lo [(524800,3670016),(524801,3670017),(524805,3670021)]⟩
  refine Wp.exit ?_
  refine thenE ?_
  refine thenE ?_
  refine blkE ?_
  refine thenN ?_
  exact ⟨_,_,_,_,_,_,h,lo []⟩
 refine Wp.rg [] [] ?_
 refine Runs.cl false 1 15 [.agg ((Disk.enc p0).map .t)] h (fun _=>impl_DiskOk_ok) (fun r1 h=>?_)
 refine Runs.c2 2 17 h (fun h=>?_) (fun h=>?_)
 ·refine Runs.alln ?_
  exact ⟨_,_,_,_,h,lo []⟩
 refine Runs.ln 2 80 Put.enc p0.fP ?_
 refine Runs.c2 3 23 h (fun h=>?_) (fun h=>?_)
 ·refine Runs.alln ?_
  exact ⟨_,_,_,_,h,lo []⟩
 refine Runs.ln 2 5 (eInt .u8) p1 ?_
 refine Runs.cl false 0 27 [.i p2,.i ((p1.length:Int))] h (fun _=>impl_SizeOk_ok) (fun r2 h=>?_)
 refine Runs.alln ?_
 exact ⟨_,_,_,_,h,lo []⟩
theorem impl_Sure_ok {u p0 r} (h:impl_Sure u p0=some r):CallOK Try.prog 38 [V.g (Disk.enc p0)] (V.w [5,5,0,0,0,80] (Disk.enc r)) []:=by
 unfold impl_Sure at h
 refine ofb Try.f38 true ?_
 refine Wp.sa ?_
 refine Wp.cl false 1 4 [.agg ((Disk.enc p0).map .t),.clo 65 []] h (fun _=>impl_Disk__settled__impl_Sure_1_ok) (fun r1 h=>?_)
 obtain rfl:=oi h
 exact Wp.ret RetB
theorem impl_Disk__with_ok {u p0 p1 r} (h:impl_Disk__with u p0 p1=some r):CallOK Try.prog 66 [V.g (Disk.enc p0),V.g (Put.enc p1)] (.tup [V.w [5,5,0,0,0,80] (Disk.enc r.1),V.b r.2]) []:=by
 unfold impl_Disk__with at h
 refine ofb Try.f66 true ?_
 refine Wp.sa ?_
 refine Wp.cl false 1 8 [.agg ((Disk.enc p0).map .t)] h (fun _=>impl_copyDisk_ok) (fun r1 h=>?_)
 refine Wp.seq ?_
 refine Wp.regionA (pOf []) (rhoOf [(3,.obj 3),(6,.obj 6),(9,.obj 6),(10,.own 8),(11,.frz),(12,.own 12),(13,.own 13),(14,.own 14),(15,.obj 6)]) kr kr ?_
 refine Runs.cl false 3 12 [.agg ((Put.enc p1).map .t)] h (fun _=>impl_copyPut_ok) (fun r2 h=>?_)
 refine Runs.ap (ys:=[r2]) 1 14 80 6 524293 Put.enc h (fun h=>?_)
 refine Runs.alln ?_
 refine Wp.seq ?_
 refine Wp.sr ?_
 refine Runs.cb 1 17 [.agg [.own 524288,.own 524289,.i r1.fR.fGen,.i r1.fR.fSlot,.i r1.fR.fLen,.own 917504]] h (fun _=>impl_DiskOk_ok) (fun r4 h=>?_)
 refine Runs.alln ?_
 refine Wp.c2 h (fun h=>?_) (fun h=>?_)
 ·refine Wp.cl false 1 20 [.agg ((Disk.enc p0).map .t)] h (fun _=>impl_copyDisk_ok) (fun r5 h=>?_)
  obtain rfl:=oi h
  exact Wp.ret RetB
 refine Wp.sk ?_
 refine Wp.sa ?_
 obtain rfl:=oi h
 exact Wp.ret RetB
theorem impl_PutRecord_ok {u p0 p1 r} (h:impl_PutRecord u p0 p1=some r):CallOK Try.prog 39 [V.g (Disk.enc p0),V.g (Record.enc p1)] (.tup [V.w [5,5,0,0,0,80] (Disk.enc r.1),V.b r.2]) []:=by
 unfold impl_PutRecord at h
 refine ofb Try.f39 true ?_
 refine Wp.sa ?_
 refine Wp.cl false 3 9 [.agg ((Disk.enc p0).map .t),.agg [.i 2,.i 0,.nil,.i p1.fGen,.i p1.fSlot,.i p1.fLen]] h (fun _=>impl_Disk__with_ok) (fun r1 h=>?_)
 obtain rfl:=oi h
 exact Wp.ret RetB
theorem impl_NextCommit_ok {u p0 p1 p2 p3 r} (h:impl_NextCommit u p0 p1 p2 p3=some r):CallOK Try.prog 11 [V.g (Disk.enc p0),V.g (Manifest.enc p1),V.g (Build.enc p2),V.i p3] (.tup [V.w [5,5,0,0,0,80] (Disk.enc r.1),V.i r.2]) []:=by
 unfold impl_NextCommit at h
 refine ofb Try.f11 true ?_
 refine Wp.sa ?_
 refine Wp.j2 (fun p3 p0=>impl_NextCommit_j1 u p3 p0=some r) (fun p3 p0=>⟨[(3,.i p3),(4,.obj 4 0),(8,.obj 8 0),(9,.i 0)],[(4,((Disk.enc p0).map .t)),(8,[.nil,.nil,.i 0,.i 0,.i 0,.nil])],[]⟩) (fun p3 p0 h=>?_) ?_
 ·refine Wp.cl false 1 57 [.agg ((Disk.enc p0).map .t)] h (fun _=>impl_copyDisk_ok) (fun r7 h=>?_)
  obtain rfl:=oi h
  exact Wp.ret RetB
 refine Wp.sa ?_
 refine Wp.block ?_
 refine Wp.sa ?_
 refine Wp.c2 h (fun h=>?_) (fun h=>?_)
 ·refine Wp.seq ?_
  refine Wp.cl false 2 19 [.agg ((Manifest.enc p1).map .t),.agg [.i p2.fHave,.s p2.fBuf]] h (fun _=>impl_Whole_ok) (fun r1 h=>?_)
  refine Wp.c2 h (fun h=>?_) (fun h=>?_)
  ·refine Wp.exit ?_
   refine thenE ?_
   refine blkE ?_
   refine thenN ?_
   exact ⟨_,_,h,lo []⟩
  refine Wp.sk ?_
  refine Wp.cl false 5 27 [.agg ((Disk.enc p0).map .t),.s p2.fBuf,.i p1.fSize] h (fun _=>impl_StageAll_ok) (fun r2 h=>?_)
  refine Wp.sa ?_
  refine Wp.c2 h (fun h=>?_) (fun h=>?_)
  ·refine Wp.sa ?_
   obtain rfl:=oi h
   exact Wp.ret RetB
  refine Wp.skip ?_
  refine blkN ?_
  refine thenN ?_
  exact ⟨_,_,h,lo []⟩
 refine Wp.sa ?_
 refine Wp.c2 h (fun h=>?_) (fun h=>?_)
 ·refine Wp.cl false 1 35 [.agg ((Disk.enc p0).map .t)] h (fun _=>impl_Sure_ok) (fun r3 h=>?_)
  obtain rfl:=oi h
  exact Wp.ret RetB
 refine Wp.sa ?_
 refine Wp.c2 h (fun h=>?_) (fun h=>?_)
 ·refine Wp.seq ?_
  refine Wp.regionA (pOf []) (rhoOf [(4,.obj 4),(5,.obj 5),(12,.obj 12),(39,.frz),(40,.obj 5),(41,.frz),(42,.frz),(43,.frz),(44,.obj 5),(45,.frz),(46,.frz),(48,.own 47),(49,.frz)]) kr kr ?_
  refine Runs.cl false 4 43 [.agg ((Disk.enc p0).map .t)] h (fun _=>impl_Spare_ok) (fun r4 h=>?_)
  refine Runs.cl false 3 47 [.agg ((Disk.enc p0).map .t),.agg [.i p1.fGen,.i r4,.i p1.fLen]] h (fun _=>impl_PutRecord_ok) (fun r5 h=>?_)
  refine Runs.alln ?_
  refine Wp.sa ?_
  refine Wp.c2 h (fun h=>?_) (fun h=>?_)
  ·refine Wp.sa ?_
   obtain rfl:=oi h
   exact Wp.ret RetB
  refine Wp.skip ?_
  refine blkN ?_
  refine thenN ?_
  exact ⟨_,_,h,lo []⟩
 refine Wp.sa ?_
 refine Wp.c2 h (fun h=>?_) (fun h=>?_)
 ·refine Wp.cl false 1 55 [.agg ((Disk.enc p0).map .t)] h (fun _=>impl_Sure_ok) (fun r6 h=>?_)
  obtain rfl:=oi h
  exact Wp.ret RetB
 refine Wp.skip ?_
 refine blkN ?_
 refine thenN ?_
 exact ⟨_,_,h,lo []⟩
theorem impl_SumsOf_ok {u p0 p1 r} (h:impl_SumsOf u p0 p1=some r):CallOK Try.prog 24 [.one (.s p0),V.i p1] (.one (.ow 89 2 (r.map Sum.enc))) []:=by
 unfold impl_SumsOf at h
 refine ofb Try.f24 true ?_
 refine Wp.sa ?_
 refine Wp.sa ?_
 refine Wp.j1 (fun x10=>impl_SumsOf_j1 u x10=some r) (fun x10=>⟨[(4,.nil),(5,.own 327681)],[],[(327681,.live 89 2 (x10.map Sum.enc))]⟩) (fun x10 h=>?_) ?_
 ·refine Wp.sa ?_
  obtain rfl:=oi h
  exact Wp.ret RetB
 refine Wp.sr ?_
 refine Runs.ln 2 5 (eInt .u8) p0 ?_
 refine Runs.cl false 0 13 [.i p1,.i ((p0.length:Int))] h (fun _=>impl_Blocks_ok) (fun r1 h=>?_)
 refine Runs.alln ?_
 refine Wp.block ?_
 refine Wp.l5 (fun k_impl_SumsOf_l2 p0 p1 x4 r1 x5=>impl_SumsOf_l2 u k_impl_SumsOf_l2 p0 p1 x4 r1 x5=some r) (fun p0 p1 x4 r1 x5=>⟨[(0,.s p0),(1,.i p1),(4,.nil),(5,.own 327681),(13,.i r1),(14,.i x5)],[],[(327681,.live 89 2 (x4.map Sum.enc))]⟩) (fun k_impl_SumsOf_l2 p0 p1 x4 r1 x5 h=>?_) h (lo [(327681,589824)]) (fun _ _ _ _ _  h=>nomatch h)
 rw [impl_SumsOf_l2] at h
 refine Wp.sa ?_
 refine Wp.seq ?_
 refine Wp.c2 h (fun h=>?_) (fun h=>?_)
 ·refine Wp.sk ?_
  refine Wp.seq ?_
  refine Wp.block ?_
  refine Wp.sa ?_
  refine Wp.cl false 3 21 [.s p0,.i p1,.i x5] h (fun _=>impl_BlockAt_ok) (fun r8 h=>?_)
  refine Wp.rg [] [] ?_
  refine Runs.cb 2 26 [.own 1376256] h (fun _=>impl_SumOf_ok) (fun r9 h=>?_)
  refine Runs.ap (ys:=[r9]) 1 28 89 2 327681 Sum.enc h (fun h=>?_)
  refine Runs.all kr ?_
  refine blkN ?_
  refine thenN ?_
  refine Wp.rg [] [] ?_
  refine Runs.alln ?_
  exact ⟨_,_,_,_,_,h,lo [(327681,1835008)]⟩
 refine Wp.exit ?_
 refine thenE ?_
 refine thenE ?_
 refine blkE ?_
 refine thenN ?_
 exact ⟨_,h,lo []⟩
theorem slices_Equal___impl_Sum_impl_Sum_ok {u p0 p1 r} (h:slices_Equal___impl_Sum_impl_Sum u p0 p1=some r):CallOK Try.prog 73 [.one (.t (.sl 2 (p0.map Sum.enc))),.one (.t (.sl 2 (p1.map Sum.enc)))] (V.b r) []:=by
 unfold slices_Equal___impl_Sum_impl_Sum at h
 refine ofb Try.f73 false ?_
 refine Wp.sa ?_
 refine Wp.seq ?_
 refine Wp.sr ?_
 refine Runs.ln 1 89 Sum.enc p0 ?_
 refine Runs.ln 1 89 Sum.enc p1 ?_
 refine Runs.alln ?_
 refine Wp.c2 h (fun h=>?_) (fun h=>?_)
 ·refine Wp.sa ?_
  obtain rfl:=oi h
  exact Wp.ret RetB
 refine Wp.sk ?_
 refine Wp.j0 (slices_Equal___impl_Sum_impl_Sum_j1 u=some r) ⟨[(4,.b false)],[],[]⟩ (fun h=>?_) ?_
 ·refine Wp.sa ?_
  obtain rfl:=oi h
  exact Wp.ret RetB
 refine Wp.sr ?_
 refine Runs.ln 1 89 Sum.enc p0 ?_
 refine Runs.alln ?_
 refine Wp.block ?_
 refine Wp.l3 (fun k_slices_Equal___impl_Sum_impl_Sum_l2 p0 p1 x2=>slices_Equal___impl_Sum_impl_Sum_l2 u k_slices_Equal___impl_Sum_impl_Sum_l2 p0 p1 x2=some r) (fun p0 p1 x2=>⟨[(0,.t (.sl 2 (p0.map Sum.enc))),(1,.t (.sl 2 (p1.map Sum.enc))),(4,.b false),(12,.i ((p0.length:Int))),(13,.i x2)],[],[]⟩) (fun k_slices_Equal___impl_Sum_impl_Sum_l2 p0 p1 x2 h=>?_) h (lo []) (fun _ _ _  h=>nomatch h)
 rw [slices_Equal___impl_Sum_impl_Sum_l2] at h
 refine Wp.sa ?_
 refine Wp.seq ?_
 refine Wp.c2 h (fun h=>?_) (fun h=>?_)
 ·refine Wp.sk ?_
  refine Wp.seq ?_
  refine Wp.block ?_
  refine Wp.sa ?_
  refine Wp.seq ?_
  refine Wp.regionA (pOf []) (rhoOf [(0,.frz),(1,.frz),(5,.frz),(16,.frz),(17,.frz),(18,.frz),(19,.frz),(20,.frz),(21,.frz),(22,.frz),(23,.frz)]) kr kr ?_
  refine Runs.ix 2 89 2 Sum.enc h (fun y4 h _=>?_)
  refine Runs.ix 3 89 2 Sum.enc h (fun y5 h _=>?_)
  refine Runs.alln ?_
  refine Wp.c2 h (fun h=>?_) (fun h=>?_)
  ·refine Wp.sa ?_
   obtain rfl:=oi h
   exact Wp.ret RetB
  refine Wp.skip ?_
  refine blkN ?_
  refine thenN ?_
  refine Wp.rg [] [] ?_
  refine Runs.alln ?_
  exact ⟨_,_,_,h,lo []⟩
 refine Wp.exit ?_
 refine thenE ?_
 refine thenE ?_
 refine blkE ?_
 refine thenN ?_
 exact ⟨h,lo []⟩
theorem impl_Tells_ok {u p0 p1 r} (h:impl_Tells u p0 p1=some r):CallOK Try.prog 47 [V.g (Manifest.enc p0),.one (.s p1)] (V.b r) []:=by
 unfold impl_Tells at h
 refine ofb Try.f47 false ?_
 refine Wp.sa ?_
 refine Wp.seq ?_
 refine Wp.regionA (pOf []) (rhoOf [(1,.frz),(2,.obj 2),(5,.frz),(6,.frz),(7,.obj 2),(8,.frz),(9,.frz),(10,.frz),(11,.frz),(12,.obj 2),(13,.frz),(14,.own 14),(15,.obj 2),(16,.frz),(18,.frz)]) kr kr ?_
 refine Runs.ln 1 5 (eInt .u8) p1 ?_
 refine Runs.c2 4 10 h (fun h=>?_) (fun h=>?_)
 ·refine Runs.cl false 3 14 [.s p1,.i p0.fSize] h (fun _=>impl_SumsOf_ok) (fun r1 h=>?_)
  refine Runs.cb 2 17 [.own 917504,.t (.sl 2 (p0.fSums.map Sum.enc))] h (fun _=>slices_Equal___impl_Sum_impl_Sum_ok) (fun r2 h=>?_)
  refine Runs.alln ?_
  obtain rfl:=oi h
  exact Wp.ret RetB
 refine Runs.alln ?_
 obtain rfl:=oi h
 exact Wp.ret RetB
theorem impl_Committed_ok {u p0 p1 p2 r} (h:impl_Committed u p0 p1 p2=some r):CallOK Try.prog 15 [V.g (Disk.enc p0),V.g (Manifest.enc p1),.one (.s p2)] (V.b r) []:=by
 unfold impl_Committed at h
 refine ofb Try.f15 false ?_
 refine Wp.sa ?_
 refine Wp.sr ?_
 refine Runs.cl false 4 11 [.agg ((Disk.enc p0).map .t),.i p1.fGen,.s p2] h (fun _=>impl_Holds_ok) (fun r1 h=>?_)
 refine Runs.c2 1 12 h (fun h=>?_) (fun h=>?_)
 ·refine Runs.cl false 2 15 [.agg ((Manifest.enc p1).map .t),.s p2] h (fun _=>impl_Tells_ok) (fun r2 h=>?_)
  refine Runs.alln ?_
  obtain rfl:=oi h
  exact Wp.ret RetB
 refine Runs.alln ?_
 obtain rfl:=oi h
 exact Wp.ret RetB
theorem impl_DiskNew_ok {u p0 p1 r} (h:impl_DiskNew u p0 p1=some r):CallOK Try.prog 8 [V.i p0,.one (.s p1)] (V.w [5,5,0,0,0,80] (Disk.enc r)) []:=by
 unfold impl_DiskNew at h
 refine ofb Try.f8 true ?_
 refine Wp.sa ?_
 refine Wp.seq ?_
 refine Wp.j3 (fun p0 p1 x2=>impl_DiskNew_j1 u p0 p1 x2=some r) (fun p0 p1 x2=>⟨[(0,.i p0),(1,.s p1),(4,.obj 4 0),(12,.b x2)],[(4,[.nil,.nil,.i 0,.i 0,.i 0,.nil])],[]⟩) (fun p0 p1 x2 h=>?_) ?_
 ·refine Wp.c2 h (fun h=>?_) (fun h=>?_)
  ·refine Wp.sa ?_
   obtain rfl:=oi h
   exact Wp.ret RetB
  refine Wp.sk ?_
  refine Wp.sr ?_
  refine Runs.cl false 1 15 [.s p1] h (fun _=>impl_cloned_ok) (fun r3 h=>?_)
  refine Runs.ln 2 5 (eInt .u8) p1 ?_
  refine Runs.alln ?_
  obtain rfl:=oi h
  exact Wp.ret RetB
 refine Wp.rg [] [] ?_
 refine Runs.cl false 1 6 [.i p0] h (fun _=>impl_isGen_ok) (fun r1 h=>?_)
 refine Runs.c2 2 8 h (fun h=>?_) (fun h=>?_)
 ·refine Runs.alln ?_
  exact ⟨_,_,_,h,lo []⟩
 refine Runs.ln 1 5 (eInt .u8) p1 ?_
 refine Runs.alln ?_
 exact ⟨_,_,_,h,lo []⟩
theorem impl_CommitAll_ok {u p0 p1 p2 r} (h:impl_CommitAll u p0 p1 p2=some r):CallOK Try.prog 17 [V.g (Disk.enc p0),V.g (Manifest.enc p1),V.g (Build.enc p2)] (V.w [5,5,0,0,0,80] (Disk.enc r)) []:=by
 unfold impl_CommitAll at h
 refine ofb Try.f17 true ?_
 refine Wp.sa ?_
 refine Wp.cl false 1 10 [.agg ((Disk.enc p0).map .t)] h (fun _=>impl_copyDisk_ok) (fun r1 h=>?_)
 refine Wp.j6 (fun x27 x28 x29 x30 x31 x32=>impl_CommitAll_j1 u x27 x28 x29 x30 x31 x32=some r) (fun x27 x28 x29 x30 x31 x32=>⟨[(6,.obj 6 0),(7,.obj 7 0)],[(6,[.nil,.nil,.i 0,.i 0,.i 0,.nil]),(7,[.own 459264,.own 459265,.i x29,.i x30,.i x31,.own 459269])],[(459264,.live 5 1 (x27.map (eInt .u8))),(459265,.live 5 1 (x28.map (eInt .u8))),(459269,.live 80 6 (x32.map Put.enc))]⟩) (fun x27 x28 x29 x30 x31 x32 h=>?_) ?_
 ·refine Wp.sa ?_
  obtain rfl:=oi h
  exact Wp.ret RetB
 refine Wp.sa ?_
 refine Wp.block ?_
 refine Wp.l10 (fun k_impl_CommitAll_l2 x10 x11 p1 p2 x12 x13 x14 x15 x16 x17=>impl_CommitAll_l2 u k_impl_CommitAll_l2 x10 x11 p1 p2 x12 x13 x14 x15 x16 x17=some r) (fun x10 x11 p1 p2 x12 x13 x14 x15 x16 x17=>⟨[(4,.obj 4 0),(5,.obj 5 0),(6,.obj 6 0),(7,.obj 7 0),(8,.i x10),(11,.i x11)],[(4,((Manifest.enc p1).map .t)),(5,[.i p2.fHave,.s p2.fBuf]),(6,[.nil,.nil,.i 0,.i 0,.i 0,.nil]),(7,[.own 459264,.own 459265,.i x14,.i x15,.i x16,.own 459269])],[(459264,.live 5 1 (x12.map (eInt .u8))),(459265,.live 5 1 (x13.map (eInt .u8))),(459269,.live 80 6 (x17.map Put.enc))]⟩) (fun k_impl_CommitAll_l2 x10 x11 p1 p2 x12 x13 x14 x15 x16 x17 h=>?_) h (lo [(459264,655360),(459265,655361),(459269,655365)]) (fun _ _ _ _ _ _ _ _ _ _  h=>nomatch h)
 rw [impl_CommitAll_l2] at h
 refine Wp.sa ?_
 refine Wp.seq ?_
 refine Wp.c2 h (fun h=>?_) (fun h=>?_)
 ·refine Wp.sk ?_
  refine Wp.seq ?_
  refine Wp.block ?_
  refine Wp.rg [] [] ?_
  refine Runs.cl false 4 18 [.agg [.own 459264,.own 459265,.i x14,.i x15,.i x16,.own 459269],.agg ((Manifest.enc p1).map .t),.agg [.i p2.fHave,.s p2.fBuf],.i x10] h (fun _=>impl_NextCommit_ok) (fun r26 h=>?_)
  refine Runs.all kr ?_
  refine blkN ?_
  refine thenN ?_
  refine Wp.rg [] [] ?_
  refine Runs.alln ?_
  exact ⟨_,_,_,_,_,_,_,_,_,_,h,lo [(459264,1179648),(459265,1179649),(459269,1179653)]⟩
 refine Wp.exit ?_
 refine thenE ?_
 refine thenE ?_
 refine blkE ?_
 refine thenN ?_
 exact ⟨_,_,_,_,_,_,h,lo []⟩
theorem laws_same_ok {u p0 p1 r} (h:laws_same u p0 p1=some r):CallOK Try.prog 48 [.one (.s p0),.one (.s p1)] (V.b r) []:=by
 unfold laws_same at h
 refine ofb Try.f48 false ?_
 refine Wp.sa ?_
 refine Wp.seq ?_
 refine Wp.sr ?_
 refine Runs.ln 1 5 (eInt .u8) p0 ?_
 refine Runs.ln 1 5 (eInt .u8) p1 ?_
 refine Runs.alln ?_
 refine Wp.c2 h (fun h=>?_) (fun h=>?_)
 ·refine Wp.sa ?_
  obtain rfl:=oi h
  exact Wp.ret RetB
 refine Wp.sk ?_
 refine Wp.j0 (laws_same_j1 u=some r) ⟨[(4,.b false)],[],[]⟩ (fun h=>?_) ?_
 ·refine Wp.sa ?_
  obtain rfl:=oi h
  exact Wp.ret RetB
 refine Wp.sa ?_
 refine Wp.block ?_
 refine Wp.l3 (fun k_laws_same_l2 p0 p1 x2=>laws_same_l2 u k_laws_same_l2 p0 p1 x2=some r) (fun p0 p1 x2=>⟨[(0,.s p0),(1,.s p1),(4,.b false),(5,.i x2)],[],[]⟩) (fun k_laws_same_l2 p0 p1 x2 h=>?_) h (lo []) (fun _ _ _  h=>nomatch h)
 rw [laws_same_l2] at h
 refine Wp.seq ?_
 refine Wp.sr ?_
 refine Runs.ln 2 5 (eInt .u8) p0 ?_
 refine Runs.alln ?_
 refine Wp.c2 h (fun h=>?_) (fun h=>?_)
 ·refine Wp.sk ?_
  refine Wp.seq ?_
  refine Wp.block ?_
  refine Wp.seq ?_
  refine Wp.regionA (pOf []) (rhoOf [(0,.frz),(1,.frz),(5,.frz),(17,.frz),(18,.frz),(19,.frz),(20,.frz),(21,.frz),(22,.frz),(23,.frz),(24,.frz)]) kr kr ?_
  refine Runs.ix 2 5 1 (eInt .u8) h (fun y4 h _=>?_)
  refine Runs.ix 3 5 1 (eInt .u8) h (fun y5 h _=>?_)
  refine Runs.alln ?_
  refine Wp.c2 h (fun h=>?_) (fun h=>?_)
  ·refine Wp.sa ?_
   obtain rfl:=oi h
   exact Wp.ret RetB
  refine Wp.skip ?_
  refine blkN ?_
  refine thenN ?_
  refine Wp.rg [] [] ?_
  refine Runs.alln ?_
  exact ⟨_,_,_,h,lo []⟩
 refine Wp.exit ?_
 refine thenE ?_
 refine thenE ?_
 refine blkE ?_
 refine thenN ?_
 exact ⟨h,lo []⟩
theorem laws_sameDisk_ok {u p0 p1 r} (h:laws_sameDisk u p0 p1=some r):CallOK Try.prog 16 [V.g (Disk.enc p0),V.g (Disk.enc p1)] (V.b r) []:=by
 unfold laws_sameDisk at h
 refine ofb Try.f16 false ?_
 refine Wp.sa ?_
 refine Wp.seq ?_
 refine Wp.j3 (fun x3 p0 p1=>laws_sameDisk_j1 u x3 p0 p1=some r) (fun x3 p0 p1=>⟨[(2,.obj 2 0),(3,.obj 3 0),(4,.b false),(37,.b x3)],[(2,((Disk.enc p0).map .t)),(3,((Disk.enc p1).map .t))],[]⟩) (fun x3 p0 p1 h=>?_) ?_
 ·refine Wp.c2 h (fun h=>?_) (fun h=>?_)
  ·refine Wp.sa ?_
   obtain rfl:=oi h
   exact Wp.ret RetB
  refine Wp.sk ?_
  refine Wp.j0 (laws_sameDisk_j2 u=some r) ⟨[(4,.b false)],[],[]⟩ (fun h=>?_) ?_
  ·refine Wp.sa ?_
   obtain rfl:=oi h
   exact Wp.ret RetB
  refine Wp.sa ?_
  refine Wp.block ?_
  refine Wp.l3 (fun k_laws_sameDisk_l3 x5 p0 p1=>laws_sameDisk_l3 u k_laws_sameDisk_l3 x5 p0 p1=some r) (fun x5 p0 p1=>⟨[(2,.obj 2 0),(3,.obj 3 0),(4,.b false),(5,.i x5)],[(2,((Disk.enc p0).map .t)),(3,((Disk.enc p1).map .t))],[]⟩) (fun k_laws_sameDisk_l3 x5 p0 p1 h=>?_) h (lo []) (fun _ _ _  h=>nomatch h)
  rw [laws_sameDisk_l3] at h
  refine Wp.seq ?_
  refine Wp.sr ?_
  refine Runs.ln 3 80 Put.enc p0.fP ?_
  refine Runs.alln ?_
  refine Wp.c2 h (fun h=>?_) (fun h=>?_)
  ·refine Wp.sk ?_
   refine Wp.seq ?_
   refine Wp.block ?_
   refine Wp.sr ?_
   refine Runs.ix 3 80 6 Put.enc h (fun y7 h _=>?_)
   refine Runs.alln ?_
   refine Wp.sr ?_
   refine Runs.ix 3 80 6 Put.enc h (fun y8 h _=>?_)
   refine Runs.alln ?_
   refine Wp.j4 (fun x5 x10 p0 p1=>laws_sameDisk_j4 u (fun z0 z1 z2=>laws_sameDisk_l3 u k_laws_sameDisk_l3 z0 z1 z2) x5 x10 p0 p1=some r) (fun x5 x10 p0 p1=>⟨[(2,.obj 2 0),(3,.obj 3 0),(4,.b false),(5,.i x5),(81,.b x10)],[(2,((Disk.enc p0).map .t)),(3,((Disk.enc p1).map .t))],[]⟩) (fun x5 x10 p0 p1 h=>?_) ?_
   ·refine Wp.c2 h (fun h=>?_) (fun h=>?_)
    ·refine Wp.sa ?_
     obtain rfl:=oi h
     exact Wp.ret RetB
    refine Wp.skip ?_
    refine blkN ?_
    refine thenN ?_
    refine Wp.rg [] [] ?_
    refine Runs.alln ?_
    exact ⟨_,_,_,h,lo []⟩
   refine Wp.rg [] [] ?_
   refine Runs.c2 6 60 h (fun h=>?_) (fun h=>?_)
   ·refine Runs.alln ?_
    exact ⟨_,_,_,_,h,lo []⟩
   refine Runs.c2 7 67 h (fun h=>?_) (fun h=>?_)
   ·refine Runs.alln ?_
    exact ⟨_,_,_,_,h,lo []⟩
   refine Runs.c2 7 74 h (fun h=>?_) (fun h=>?_)
   ·refine Runs.alln ?_
    exact ⟨_,_,_,_,h,lo []⟩
   refine Runs.cl false 4 79 [.s y7.fB,.s y8.fB] h (fun _=>laws_same_ok) (fun r9 h=>?_)
   refine Runs.alln ?_
   exact ⟨_,_,_,_,h,lo []⟩
  refine Wp.exit ?_
  refine thenE ?_
  refine thenE ?_
  refine blkE ?_
  refine thenN ?_
  exact ⟨h,lo []⟩
 refine Wp.rg [] [] ?_
 refine Runs.cl false 4 12 [.s p0.fA,.s p1.fA] h (fun _=>laws_same_ok) (fun r1 h=>?_)
 refine Runs.c2 2 14 h (fun h=>?_) (fun h=>?_)
 ·refine Runs.alln ?_
  exact ⟨_,_,_,h,lo []⟩
 refine Runs.cl false 4 19 [.s p0.fB,.s p1.fB] h (fun _=>laws_same_ok) (fun r2 h=>?_)
 refine Runs.c2 3 22 h (fun h=>?_) (fun h=>?_)
 ·refine Runs.alln ?_
  exact ⟨_,_,_,h,lo []⟩
 refine Runs.c2 7 29 h (fun h=>?_) (fun h=>?_)
 ·refine Runs.alln ?_
  exact ⟨_,_,_,h,lo []⟩
 refine Runs.ln 2 80 Put.enc p0.fP ?_
 refine Runs.ln 2 80 Put.enc p1.fP ?_
 refine Runs.alln ?_
 exact ⟨_,_,_,h,lo []⟩
theorem laws_FnCommits_ok {u p0 r} (h:laws_FnCommits u p0=some r):CallOK Try.prog 3 [.one (.s p0)] (V.b r) []:=by
 unfold laws_FnCommits at h
 refine ofb Try.f3 false ?_
 refine Wp.sa ?_
 refine Wp.seq ?_
 refine Wp.cl false 1 16 [.s p0] h (fun _=>laws_big_ok) (fun r1 h=>?_)
 refine Wp.c2 h (fun h=>?_) (fun h=>?_)
 ·refine Wp.sa ?_
  obtain rfl:=oi h
  exact Wp.ret RetB
 refine Wp.sk ?_
 refine Wp.cl false 1 19 [.s p0] h (fun _=>spec_DrawCommit_ok) (fun r2 h=>?_)
 refine Wp.sr ?_
 refine Runs.batch 2 kr ?_
 obtain ⟨r3,e_r3,h⟩:=bind_some h
 refine Runs.callDK 26 6 [] [.i 3,.own 1246208,.i r2.2.2.1] [.one (.i 3),.one (.s r2.2.1),.one (.i r2.2.2.1)] (V.w [0,0,0,89] (Manifest.enc r3)) rfl rfl kr kr kr kr kr (impl_ManOf_okd e_r3) kr ?_
 refine Runs.alln ?_
 refine Wp.cl false 2 29 [.agg [.i r3.fGen,.i r3.fSize,.i r3.fLen,.own 1703939],.own 1246208] h (fun _=>impl_BuildFrom_ok) (fun r4 h=>?_)
 refine Wp.sr ?_
 refine Runs.batch 1 kr ?_
 obtain ⟨r5,e_r5,h⟩:=bind_some h
 refine Runs.callDK 31 8 [] [.i 0,.own 1245184] [.one (.i 0),.one (.s r2.1)] (V.w [5,5,0,0,0,80] (Disk.enc r5)) rfl rfl kr kr kr kr kr (impl_DiskNew_okd e_r5) kr ?_
 refine Runs.alln ?_
 refine Wp.sa ?_
 refine Wp.seq ?_
 refine Wp.j5 (fun r2 x8 r4 r5 r3=>laws_FnCommits_j1 u r2 x8 r4 r5 r3=some r) (fun r2 x8 r4 r5 r3=>⟨[(2,.b false),(3,.own 196609),(4,.s r2.2.1),(7,.obj 7 0),(8,.obj 8 0),(9,.obj 9 0),(10,.i 1),(41,.b x8)],[(7,((Manifest.enc r3).map .t)),(8,[.i r4.fHave,.own 524801]),(9,[.own 590336,.own 590337,.i r5.fR.fGen,.i r5.fR.fSlot,.i r5.fR.fLen,.own 590341])],[(196609,.live 5 1 (r2.1.map (eInt .u8))),(524801,.live 5 1 (r4.fBuf.map (eInt .u8))),(590336,.live 5 1 (r5.fA.map (eInt .u8))),(590337,.live 5 1 (r5.fB.map (eInt .u8))),(590341,.live 80 6 (r5.fP.map Put.enc))]⟩) (fun r2 x8 r4 r5 r3 h=>?_) ?_
 ·refine Wp.c2 h (fun h=>?_) (fun h=>?_)
  ·refine Wp.sa ?_
   obtain rfl:=oi h
   exact Wp.ret RetB
  refine Wp.sk ?_
  refine Wp.sa ?_
  refine Wp.j10 (fun r2 x49 r4 x50 x51 x52 x53 x54 x55 r3=>laws_FnCommits_j2 u r2 x49 r4 x50 x51 x52 x53 x54 x55 r3=some r) (fun r2 x49 r4 x50 x51 x52 x53 x54 x55 r3=>⟨[(2,.b false),(3,.own 196609),(4,.s r2.2.1),(7,.obj 7 0),(8,.obj 8 0),(9,.obj 9 0),(10,.i x49)],[(7,((Manifest.enc r3).map .t)),(8,[.i r4.fHave,.s r4.fBuf]),(9,[.s x50,.s x51,.i x52,.i x53,.i x54,.t (.sl 6 (x55.map Put.enc))])],[(196609,.live 5 1 (r2.1.map (eInt .u8)))]⟩) (fun r2 x49 r4 x50 x51 x52 x53 x54 x55 r3 h=>?_) ?_
  ·refine Wp.seq ?_
   refine Wp.regionA (pOf []) (rhoOf [(3,.own 3),(4,.frz),(7,.obj 7),(8,.obj 8),(9,.obj 9),(10,.frz),(97,.frz),(98,.frz),(99,.frz),(100,.frz),(101,.frz),(102,.frz),(104,.frz),(105,.frz),(106,.obj 9),(107,.frz),(108,.frz),(110,.frz),(111,.frz),(112,.frz),(113,.own 3),(114,.own 114),(115,.frz),(116,.frz),(117,.own 117),(119,.frz)]) kr kr ?_
   refine Runs.c2 3 99 h (fun h=>?_) (fun h=>?_)
   ·refine Runs.cl false 3 103 [.agg [.s x50,.s x51,.i x52,.i x53,.i x54,.t (.sl 6 (x55.map Put.enc))],.agg ((Manifest.enc r3).map .t),.s r2.2.1] h (fun _=>impl_Committed_ok) (fun r56 h=>?_)
    refine Runs.c2 2 105 h (fun h=>?_) (fun h=>?_)
    ·refine Runs.ln 2 80 Put.enc x55 ?_
     refine Runs.c2 3 111 h (fun h=>?_) (fun h=>?_)
     ·refine Runs.cl false 2 114 [.i 0,.own 196609] h (fun _=>impl_DiskNew_ok) (fun r57 h=>?_)
      refine Runs.cl false 2 117 [.agg [.own 7471104,.own 7471105,.i r57.fR.fGen,.i r57.fR.fSlot,.i r57.fR.fLen,.own 7471109],.agg ((Manifest.enc r3).map .t),.agg [.i r4.fHave,.s r4.fBuf]] h (fun _=>impl_CommitAll_ok) (fun r58 h=>?_)
      refine Runs.cb 0 118 [.agg [.s x50,.s x51,.i x52,.i x53,.i x54,.t (.sl 6 (x55.map Put.enc))],.agg [.own 7667712,.own 7667713,.i r58.fR.fGen,.i r58.fR.fSlot,.i r58.fR.fLen,.own 7667717]] h (fun _=>laws_sameDisk_ok) (fun r59 h=>?_)
      refine Runs.alln ?_
      obtain rfl:=oi h
      exact Wp.ret RetB
     refine Runs.alln ?_
     obtain rfl:=oi h
     exact Wp.ret RetB
    refine Runs.alln ?_
    obtain rfl:=oi h
    exact Wp.ret RetB
   refine Runs.alln ?_
   obtain rfl:=oi h
   exact Wp.ret RetB
  refine Wp.sa ?_
  refine Wp.block ?_
  refine Wp.l12 (fun k_laws_FnCommits_l3 r2 x18 x19 x20 r4 x21 x22 x23 x24 x25 x26 r3=>laws_FnCommits_l3 u k_laws_FnCommits_l3 r2 x18 x19 x20 r4 x21 x22 x23 x24 x25 x26 r3=some r) (fun r2 x18 x19 x20 r4 x21 x22 x23 x24 x25 x26 r3=>⟨[(2,.b false),(3,.own 196609),(4,.s r2.2.1),(7,.obj 7 0),(8,.obj 8 0),(9,.obj 9 0),(10,.i x18),(11,.b x19),(12,.i x20)],[(7,((Manifest.enc r3).map .t)),(8,[.i r4.fHave,.s r4.fBuf]),(9,[.s x21,.s x22,.i x23,.i x24,.i x25,.t (.sl 6 (x26.map Put.enc))])],[(196609,.live 5 1 (r2.1.map (eInt .u8)))]⟩) (fun k_laws_FnCommits_l3 r2 x18 x19 x20 r4 x21 x22 x23 x24 x25 x26 r3 h=>?_) h (Le.trans (Le.frzO 8 1 524801 5 1 [.i r4.fHave,.own 524801] (r4.fBuf.map (eInt .u8)) kr kr kr) (Le.trans (Le.frzO 9 0 590336 5 1 [.own 590336,.own 590337,.i r5.fR.fGen,.i r5.fR.fSlot,.i r5.fR.fLen,.own 590341] (r5.fA.map (eInt .u8)) kr kr kr) (Le.trans (Le.frzO 9 1 590337 5 1 [.s r5.fA,.own 590337,.i r5.fR.fGen,.i r5.fR.fSlot,.i r5.fR.fLen,.own 590341] (r5.fB.map (eInt .u8)) kr kr kr) (Le.trans (Le.frzO 9 5 590341 80 6 [.s r5.fA,.s r5.fB,.i r5.fR.fGen,.i r5.fR.fSlot,.i r5.fR.fLen,.own 590341] (r5.fP.map Put.enc) kr kr kr) (lo []))))) (fun _ _ _ _ _ _ _ _ _ _ _ _  h=>nomatch h)
  rw [laws_FnCommits_l3] at h
  refine Wp.seq ?_
  refine Wp.sa ?_
  refine Wp.c2 h (fun h=>?_) (fun h=>?_)
  ·refine Wp.sk ?_
   refine Wp.seq ?_
   refine Wp.block ?_
   refine Wp.cl false 4 51 [.agg [.s x21,.s x22,.i x23,.i x24,.i x25,.t (.sl 6 (x26.map Put.enc))],.agg ((Manifest.enc r3).map .t),.agg [.i r4.fHave,.s r4.fBuf],.i x18] h (fun _=>impl_NextCommit_ok) (fun r36 h=>?_)
   refine Wp.seq ?_
   refine Wp.j14 (fun r2 x18 x19 x20 r36 x43 r4 x21 x22 x23 x24 x25 x26 r3=>laws_FnCommits_j4 u (fun z0 z1 z2 z3 z4 z5 z6 z7 z8 z9 z10 z11=>laws_FnCommits_l3 u k_laws_FnCommits_l3 z0 z1 z2 z3 z4 z5 z6 z7 z8 z9 z10 z11) r2 x18 x19 x20 r36 x43 r4 x21 x22 x23 x24 x25 x26 r3=some r) (fun r2 x18 x19 x20 r36 x43 r4 x21 x22 x23 x24 x25 x26 r3=>⟨[(2,.b false),(3,.own 196609),(4,.s r2.2.1),(7,.obj 7 0),(8,.obj 8 0),(9,.obj 9 0),(10,.i x18),(11,.b x19),(12,.i x20),(13,.obj 13 0),(14,.i r36.2),(81,.b x43)],[(7,((Manifest.enc r3).map .t)),(8,[.i r4.fHave,.s r4.fBuf]),(9,[.s x21,.s x22,.i x23,.i x24,.i x25,.t (.sl 6 (x26.map Put.enc))]),(13,[.own 852480,.own 852481,.i r36.1.fR.fGen,.i r36.1.fR.fSlot,.i r36.1.fR.fLen,.own 852485])],[(196609,.live 5 1 (r2.1.map (eInt .u8))),(852480,.live 5 1 (r36.1.fA.map (eInt .u8))),(852481,.live 5 1 (r36.1.fB.map (eInt .u8))),(852485,.live 80 6 (r36.1.fP.map Put.enc))]⟩) (fun r2 x18 x19 x20 r36 x43 r4 x21 x22 x23 x24 x25 x26 r3 h=>?_) ?_
   ·refine Wp.c2 h (fun h=>?_) (fun h=>?_)
    ·refine Wp.sa ?_
     obtain rfl:=oi h
     exact Wp.ret RetB
    refine Wp.sk ?_
    refine Wp.seq ?_
    refine Wp.j14 (fun r2 x18 x19 x20 r36 x47 r4 x21 x22 x23 x24 x25 x26 r3=>laws_FnCommits_j5 u (fun z0 z1 z2 z3 z4 z5 z6 z7 z8 z9 z10 z11=>laws_FnCommits_l3 u k_laws_FnCommits_l3 z0 z1 z2 z3 z4 z5 z6 z7 z8 z9 z10 z11) r2 x18 x19 x20 r36 x47 r4 x21 x22 x23 x24 x25 x26 r3=some r) (fun r2 x18 x19 x20 r36 x47 r4 x21 x22 x23 x24 x25 x26 r3=>⟨[(2,.b false),(3,.own 196609),(4,.s r2.2.1),(7,.obj 7 0),(8,.obj 8 0),(9,.obj 9 0),(10,.i x18),(11,.b x19),(12,.i x20),(13,.obj 13 0),(14,.i r36.2),(91,.b x47)],[(7,((Manifest.enc r3).map .t)),(8,[.i r4.fHave,.s r4.fBuf]),(9,[.s x21,.s x22,.i x23,.i x24,.i x25,.t (.sl 6 (x26.map Put.enc))]),(13,((Disk.enc r36.1).map .t))],[(196609,.live 5 1 (r2.1.map (eInt .u8)))]⟩) (fun r2 x18 x19 x20 r36 x47 r4 x21 x22 x23 x24 x25 x26 r3 h=>?_) ?_
    ·refine Wp.c2 h (fun h=>?_) (fun h=>?_)
     ·refine Wp.sa ?_
      obtain rfl:=oi h
      exact Wp.ret RetB
     refine Wp.sk ?_
     refine Wp.cl false 2 94 [.agg ((Disk.enc r36.1).map .t),.i 3,.s r2.2.1] h (fun _=>impl_Holds_ok) (fun r48 h=>?_)
     refine Wp.sa ?_
     refine Wp.rg [] [] ?_
     refine Runs.all kr ?_
     refine blkN ?_
     refine thenN ?_
     refine Wp.rg [] [] ?_
     refine Runs.alln ?_
     exact ⟨_,_,_,_,_,_,_,_,_,_,_,_,h,lo []⟩
    refine Wp.le (Le.trans (Le.frzO 13 0 852480 5 1 [.own 852480,.own 852481,.i r36.1.fR.fGen,.i r36.1.fR.fSlot,.i r36.1.fR.fLen,.own 852485] (r36.1.fA.map (eInt .u8)) kr kr kr) (Le.trans (Le.frzO 13 1 852481 5 1 [.s r36.1.fA,.own 852481,.i r36.1.fR.fGen,.i r36.1.fR.fSlot,.i r36.1.fR.fLen,.own 852485] (r36.1.fB.map (eInt .u8)) kr kr kr) (Le.frzO 13 5 852485 80 6 [.s r36.1.fA,.s r36.1.fB,.i r36.1.fR.fGen,.i r36.1.fR.fSlot,.i r36.1.fR.fLen,.own 852485] (r36.1.fP.map Put.enc) kr kr kr))) ?_
    refine Wp.regionA (pOf []) (rhoOf [(3,.own 3),(13,.obj 13),(14,.frz),(82,.frz),(83,.frz),(84,.frz),(85,.frz),(86,.frz),(87,.own 87),(88,.own 3),(89,.frz)]) kr kr ?_
    refine Runs.c2 3 84 h (fun h=>?_) (fun h=>?_)
    ·refine Runs.cl false 1 86 [.i 40] h (fun _=>impl_FullSet_ok) (fun r44 h=>?_)
     refine Runs.cl false 0 87 [.agg ((Disk.enc r36.1).map .t),.i r44] h (fun _=>impl_Fall_ok) (fun r45 h=>?_)
     refine Runs.cb 1 89 [.agg [.own 5701632,.own 5701633,.i r45.fR.fGen,.i r45.fR.fSlot,.i r45.fR.fLen,.own 5701637],.i 0,.own 196609] h (fun _=>impl_Holds_ok) (fun r46 h=>?_)
     refine Runs.alln ?_
     exact ⟨_,_,_,_,_,_,_,_,_,_,_,_,_,_,h,lo []⟩
    refine Runs.alln ?_
    exact ⟨_,_,_,_,_,_,_,_,_,_,_,_,_,_,h,lo []⟩
   refine Wp.rg [] [] ?_
   refine Runs.c2 5 58 h (fun h=>?_) (fun h=>?_)
   ·refine Runs.alln ?_
    exact ⟨_,_,_,_,_,_,_,_,_,_,_,_,_,_,h,lo [(852480,3342336),(852481,3342337),(852485,3342341)]⟩
   refine Runs.cb 3 62 [.agg [.own 3342336,.own 3342337,.i r36.1.fR.fGen,.i r36.1.fR.fSlot,.i r36.1.fR.fLen,.own 3342341],.own 196609,.i 3,.s r2.2.1] h (fun _=>impl_SafeFall_ok) (fun r37 h=>?_)
   refine Runs.c2 3 65 h (fun h=>?_) (fun h=>?_)
   ·refine Runs.alln ?_
    exact ⟨_,_,_,_,_,_,_,_,_,_,_,_,_,_,h,lo [(852480,3342336),(852481,3342337),(852485,3342341)]⟩
   refine Runs.c2 2 67 h (fun h=>?_) (fun h=>?_)
   ·refine Runs.cb 2 70 [.agg [.own 3342336,.own 3342337,.i r36.1.fR.fGen,.i r36.1.fR.fSlot,.i r36.1.fR.fLen,.own 3342341],.i 3,.s r2.2.1] h (fun _=>impl_Holds_ok) (fun r38 h=>?_)
    refine Runs.c2 4 74 h (fun h=>?_) (fun h=>?_)
    ·refine Runs.alln ?_
     exact ⟨_,_,_,_,_,_,_,_,_,_,_,_,_,_,h,lo [(852480,3342336),(852481,3342337),(852485,3342341)]⟩
    refine Runs.cl false 1 76 [.i r36.2] h (fun _=>impl_StepsLeft_ok) (fun r39 h=>?_)
    refine Runs.cl false 1 78 [.i x18] h (fun _=>impl_StepsLeft_ok) (fun r40 h=>?_)
    refine Runs.alln ?_
    exact ⟨_,_,_,_,_,_,_,_,_,_,_,_,_,_,h,lo [(852480,3342336),(852481,3342337),(852485,3342341)]⟩
   refine Runs.cl false 8 76 [.i r36.2] h (fun _=>impl_StepsLeft_ok) (fun r41 h=>?_)
   refine Runs.cl false 1 78 [.i x18] h (fun _=>impl_StepsLeft_ok) (fun r42 h=>?_)
   refine Runs.alln ?_
   exact ⟨_,_,_,_,_,_,_,_,_,_,_,_,_,_,h,lo [(852480,3342336),(852481,3342337),(852485,3342341)]⟩
  refine Wp.exit ?_
  refine thenE ?_
  refine thenE ?_
  refine blkE ?_
  refine thenN ?_
  exact ⟨_,_,_,_,_,_,_,_,_,_,h,lo []⟩
 refine Wp.rg [] [] ?_
 refine Runs.cb 3 35 [.agg [.own 2031616,.own 2031617,.i r5.fR.fGen,.i r5.fR.fSlot,.i r5.fR.fLen,.own 2031621],.own 1245184,.i 3,.own 1246208] h (fun _=>impl_SafeFall_ok) (fun r6 h=>?_)
 refine Runs.c2 2 37 h (fun h=>?_) (fun h=>?_)
 ·refine Runs.alln ?_
  exact ⟨_,_,_,_,_,h,Le.trans (Le.see 4 1246208 1 (r2.2.1.map (eInt .u8)) kr kr kr) (Le.trans (Le.seeO 7 3 1703939 2 [.i r3.fGen,.i r3.fSize,.i r3.fLen,.own 1703939] (r3.fSums.map Sum.enc) kr kr kr) (lo [(196609,1245184),(524801,1900545),(590336,2031616),(590337,2031617),(590341,2031621)]))⟩
 refine Runs.cl false 1 39 [.i 1] h (fun _=>impl_StepsLeft_ok) (fun r7 h=>?_)
 refine Runs.alln ?_
 exact ⟨_,_,_,_,_,h,Le.trans (Le.see 4 1246208 1 (r2.2.1.map (eInt .u8)) kr kr kr) (Le.trans (Le.seeO 7 3 1703939 2 [.i r3.fGen,.i r3.fSize,.i r3.fLen,.own 1703939] (r3.fSums.map Sum.enc) kr kr kr) (lo [(196609,1245184),(524801,1900545),(590336,2031616),(590337,2031617),(590341,2031621)]))⟩
end Go.Tm
