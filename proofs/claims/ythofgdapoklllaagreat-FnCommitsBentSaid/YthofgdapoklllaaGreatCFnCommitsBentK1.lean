/- The functions as they are translated do what the pure functions say (printed). -/
import Derived.Test.YthofgdapoklllaaGreatCFnCommitsBentD
import Derived.Test.YthofgdapoklllaaGreatProg
set_option maxRecDepth 100000
set_option maxHeartbeats 20000000
set_option linter.unusedVariables false
set_option linter.unusedSimpArgs false
namespace Go.Tm
open Go.Proofs
section
variable {P:Program} {n:Nat} {ls:List Nat} {Q:Exit→St→Prop} {st:St} {y:Code}
theorem Wp.j0 {x:Code} (G:Prop) (S:Sx) (J:G→Wp P n ls y Q (S).st) (h:Wp P n ls x (thenQ (fun st=>G∧Le n ls st (S).st) Q) st):Wp P n ls (.seq x y) Q st :=
 Wp.seqJ (α:=Unit) (fun q=>S) (fun q=>G) (fun q h=>J h) (h.mono fun e st' hq=>by
  cases e with
  | normal=>obtain ⟨h1,h2⟩:=hq; exact ⟨(),h1,h2⟩
  | _=>exact hq)
theorem Wp.j1 {α0:Type} {x:Code} (G:α0→Prop) (S:α0→Sx) (J:∀ v0,G v0→Wp P n ls y Q (S v0).st) (h:Wp P n ls x (thenQ (fun st=>∃ v0,G v0∧Le n ls st (S v0).st) Q) st):Wp P n ls (.seq x y) Q st :=
 Wp.seqJ (α:=α0) (fun q=>S q) (fun q=>G q) (fun q h=>J q h) (h.mono fun e st' hq=>by
  cases e with
  | normal=>obtain ⟨v0,h1,h2⟩:=hq; exact ⟨v0,h1,h2⟩
  | _=>exact hq)
theorem Wp.j2 {α0 α1:Type} {x:Code} (G:α0→α1→Prop) (S:α0→α1→Sx) (J:∀ v0 v1,G v0 v1→Wp P n ls y Q (S v0 v1).st) (h:Wp P n ls x (thenQ (fun st=>∃ v0 v1,G v0 v1∧Le n ls st (S v0 v1).st) Q) st):Wp P n ls (.seq x y) Q st :=
 Wp.seqJ (α:=α0×α1) (fun q=>S q.1 q.2) (fun q=>G q.1 q.2) (fun q h=>J q.1 q.2 h) (h.mono fun e st' hq=>by
  cases e with
  | normal=>obtain ⟨v0,v1,h1,h2⟩:=hq; exact ⟨(v0,v1),h1,h2⟩
  | _=>exact hq)
theorem Wp.j3 {α0 α1 α2:Type} {x:Code} (G:α0→α1→α2→Prop) (S:α0→α1→α2→Sx) (J:∀ v0 v1 v2,G v0 v1 v2→Wp P n ls y Q (S v0 v1 v2).st) (h:Wp P n ls x (thenQ (fun st=>∃ v0 v1 v2,G v0 v1 v2∧Le n ls st (S v0 v1 v2).st) Q) st):Wp P n ls (.seq x y) Q st :=
 Wp.seqJ (α:=α0×α1×α2) (fun q=>S q.1 q.2.1 q.2.2) (fun q=>G q.1 q.2.1 q.2.2) (fun q h=>J q.1 q.2.1 q.2.2 h) (h.mono fun e st' hq=>by
  cases e with
  | normal=>obtain ⟨v0,v1,v2,h1,h2⟩:=hq; exact ⟨(v0,v1,v2),h1,h2⟩
  | _=>exact hq)
theorem Wp.j4 {α0 α1 α2 α3:Type} {x:Code} (G:α0→α1→α2→α3→Prop) (S:α0→α1→α2→α3→Sx) (J:∀ v0 v1 v2 v3,G v0 v1 v2 v3→Wp P n ls y Q (S v0 v1 v2 v3).st) (h:Wp P n ls x (thenQ (fun st=>∃ v0 v1 v2 v3,G v0 v1 v2 v3∧Le n ls st (S v0 v1 v2 v3).st) Q) st):Wp P n ls (.seq x y) Q st :=
 Wp.seqJ (α:=α0×α1×α2×α3) (fun q=>S q.1 q.2.1 q.2.2.1 q.2.2.2) (fun q=>G q.1 q.2.1 q.2.2.1 q.2.2.2) (fun q h=>J q.1 q.2.1 q.2.2.1 q.2.2.2 h) (h.mono fun e st' hq=>by
  cases e with
  | normal=>obtain ⟨v0,v1,v2,v3,h1,h2⟩:=hq; exact ⟨(v0,v1,v2,v3),h1,h2⟩
  | _=>exact hq)
theorem Wp.j5 {α0 α1 α2 α3 α4:Type} {x:Code} (G:α0→α1→α2→α3→α4→Prop) (S:α0→α1→α2→α3→α4→Sx) (J:∀ v0 v1 v2 v3 v4,G v0 v1 v2 v3 v4→Wp P n ls y Q (S v0 v1 v2 v3 v4).st) (h:Wp P n ls x (thenQ (fun st=>∃ v0 v1 v2 v3 v4,G v0 v1 v2 v3 v4∧Le n ls st (S v0 v1 v2 v3 v4).st) Q) st):Wp P n ls (.seq x y) Q st :=
 Wp.seqJ (α:=α0×α1×α2×α3×α4) (fun q=>S q.1 q.2.1 q.2.2.1 q.2.2.2.1 q.2.2.2.2) (fun q=>G q.1 q.2.1 q.2.2.1 q.2.2.2.1 q.2.2.2.2) (fun q h=>J q.1 q.2.1 q.2.2.1 q.2.2.2.1 q.2.2.2.2 h) (h.mono fun e st' hq=>by
  cases e with
  | normal=>obtain ⟨v0,v1,v2,v3,v4,h1,h2⟩:=hq; exact ⟨(v0,v1,v2,v3,v4),h1,h2⟩
  | _=>exact hq)
theorem Wp.j6 {α0 α1 α2 α3 α4 α5:Type} {x:Code} (G:α0→α1→α2→α3→α4→α5→Prop) (S:α0→α1→α2→α3→α4→α5→Sx) (J:∀ v0 v1 v2 v3 v4 v5,G v0 v1 v2 v3 v4 v5→Wp P n ls y Q (S v0 v1 v2 v3 v4 v5).st) (h:Wp P n ls x (thenQ (fun st=>∃ v0 v1 v2 v3 v4 v5,G v0 v1 v2 v3 v4 v5∧Le n ls st (S v0 v1 v2 v3 v4 v5).st) Q) st):Wp P n ls (.seq x y) Q st :=
 Wp.seqJ (α:=α0×α1×α2×α3×α4×α5) (fun q=>S q.1 q.2.1 q.2.2.1 q.2.2.2.1 q.2.2.2.2.1 q.2.2.2.2.2) (fun q=>G q.1 q.2.1 q.2.2.1 q.2.2.2.1 q.2.2.2.2.1 q.2.2.2.2.2) (fun q h=>J q.1 q.2.1 q.2.2.1 q.2.2.2.1 q.2.2.2.2.1 q.2.2.2.2.2 h) (h.mono fun e st' hq=>by
  cases e with
  | normal=>obtain ⟨v0,v1,v2,v3,v4,v5,h1,h2⟩:=hq; exact ⟨(v0,v1,v2,v3,v4,v5),h1,h2⟩
  | _=>exact hq)
theorem Wp.j7 {α0 α1 α2 α3 α4 α5 α6:Type} {x:Code} (G:α0→α1→α2→α3→α4→α5→α6→Prop) (S:α0→α1→α2→α3→α4→α5→α6→Sx) (J:∀ v0 v1 v2 v3 v4 v5 v6,G v0 v1 v2 v3 v4 v5 v6→Wp P n ls y Q (S v0 v1 v2 v3 v4 v5 v6).st) (h:Wp P n ls x (thenQ (fun st=>∃ v0 v1 v2 v3 v4 v5 v6,G v0 v1 v2 v3 v4 v5 v6∧Le n ls st (S v0 v1 v2 v3 v4 v5 v6).st) Q) st):Wp P n ls (.seq x y) Q st :=
 Wp.seqJ (α:=α0×α1×α2×α3×α4×α5×α6) (fun q=>S q.1 q.2.1 q.2.2.1 q.2.2.2.1 q.2.2.2.2.1 q.2.2.2.2.2.1 q.2.2.2.2.2.2) (fun q=>G q.1 q.2.1 q.2.2.1 q.2.2.2.1 q.2.2.2.2.1 q.2.2.2.2.2.1 q.2.2.2.2.2.2) (fun q h=>J q.1 q.2.1 q.2.2.1 q.2.2.2.1 q.2.2.2.2.1 q.2.2.2.2.2.1 q.2.2.2.2.2.2 h) (h.mono fun e st' hq=>by
  cases e with
  | normal=>obtain ⟨v0,v1,v2,v3,v4,v5,v6,h1,h2⟩:=hq; exact ⟨(v0,v1,v2,v3,v4,v5,v6),h1,h2⟩
  | _=>exact hq)
theorem Wp.j8 {α0 α1 α2 α3 α4 α5 α6 α7:Type} {x:Code} (G:α0→α1→α2→α3→α4→α5→α6→α7→Prop) (S:α0→α1→α2→α3→α4→α5→α6→α7→Sx) (J:∀ v0 v1 v2 v3 v4 v5 v6 v7,G v0 v1 v2 v3 v4 v5 v6 v7→Wp P n ls y Q (S v0 v1 v2 v3 v4 v5 v6 v7).st) (h:Wp P n ls x (thenQ (fun st=>∃ v0 v1 v2 v3 v4 v5 v6 v7,G v0 v1 v2 v3 v4 v5 v6 v7∧Le n ls st (S v0 v1 v2 v3 v4 v5 v6 v7).st) Q) st):Wp P n ls (.seq x y) Q st :=
 Wp.seqJ (α:=α0×α1×α2×α3×α4×α5×α6×α7) (fun q=>S q.1 q.2.1 q.2.2.1 q.2.2.2.1 q.2.2.2.2.1 q.2.2.2.2.2.1 q.2.2.2.2.2.2.1 q.2.2.2.2.2.2.2) (fun q=>G q.1 q.2.1 q.2.2.1 q.2.2.2.1 q.2.2.2.2.1 q.2.2.2.2.2.1 q.2.2.2.2.2.2.1 q.2.2.2.2.2.2.2) (fun q h=>J q.1 q.2.1 q.2.2.1 q.2.2.2.1 q.2.2.2.2.1 q.2.2.2.2.2.1 q.2.2.2.2.2.2.1 q.2.2.2.2.2.2.2 h) (h.mono fun e st' hq=>by
  cases e with
  | normal=>obtain ⟨v0,v1,v2,v3,v4,v5,v6,v7,h1,h2⟩:=hq; exact ⟨(v0,v1,v2,v3,v4,v5,v6,v7),h1,h2⟩
  | _=>exact hq)
theorem Wp.j9 {α0 α1 α2 α3 α4 α5 α6 α7 α8:Type} {x:Code} (G:α0→α1→α2→α3→α4→α5→α6→α7→α8→Prop) (S:α0→α1→α2→α3→α4→α5→α6→α7→α8→Sx) (J:∀ v0 v1 v2 v3 v4 v5 v6 v7 v8,G v0 v1 v2 v3 v4 v5 v6 v7 v8→Wp P n ls y Q (S v0 v1 v2 v3 v4 v5 v6 v7 v8).st) (h:Wp P n ls x (thenQ (fun st=>∃ v0 v1 v2 v3 v4 v5 v6 v7 v8,G v0 v1 v2 v3 v4 v5 v6 v7 v8∧Le n ls st (S v0 v1 v2 v3 v4 v5 v6 v7 v8).st) Q) st):Wp P n ls (.seq x y) Q st :=
 Wp.seqJ (α:=α0×α1×α2×α3×α4×α5×α6×α7×α8) (fun q=>S q.1 q.2.1 q.2.2.1 q.2.2.2.1 q.2.2.2.2.1 q.2.2.2.2.2.1 q.2.2.2.2.2.2.1 q.2.2.2.2.2.2.2.1 q.2.2.2.2.2.2.2.2) (fun q=>G q.1 q.2.1 q.2.2.1 q.2.2.2.1 q.2.2.2.2.1 q.2.2.2.2.2.1 q.2.2.2.2.2.2.1 q.2.2.2.2.2.2.2.1 q.2.2.2.2.2.2.2.2) (fun q h=>J q.1 q.2.1 q.2.2.1 q.2.2.2.1 q.2.2.2.2.1 q.2.2.2.2.2.1 q.2.2.2.2.2.2.1 q.2.2.2.2.2.2.2.1 q.2.2.2.2.2.2.2.2 h) (h.mono fun e st' hq=>by
  cases e with
  | normal=>obtain ⟨v0,v1,v2,v3,v4,v5,v6,v7,v8,h1,h2⟩:=hq; exact ⟨(v0,v1,v2,v3,v4,v5,v6,v7,v8),h1,h2⟩
  | _=>exact hq)
theorem Wp.j10 {α0 α1 α2 α3 α4 α5 α6 α7 α8 α9:Type} {x:Code} (G:α0→α1→α2→α3→α4→α5→α6→α7→α8→α9→Prop) (S:α0→α1→α2→α3→α4→α5→α6→α7→α8→α9→Sx) (J:∀ v0 v1 v2 v3 v4 v5 v6 v7 v8 v9,G v0 v1 v2 v3 v4 v5 v6 v7 v8 v9→Wp P n ls y Q (S v0 v1 v2 v3 v4 v5 v6 v7 v8 v9).st) (h:Wp P n ls x (thenQ (fun st=>∃ v0 v1 v2 v3 v4 v5 v6 v7 v8 v9,G v0 v1 v2 v3 v4 v5 v6 v7 v8 v9∧Le n ls st (S v0 v1 v2 v3 v4 v5 v6 v7 v8 v9).st) Q) st):Wp P n ls (.seq x y) Q st :=
 Wp.seqJ (α:=α0×α1×α2×α3×α4×α5×α6×α7×α8×α9) (fun q=>S q.1 q.2.1 q.2.2.1 q.2.2.2.1 q.2.2.2.2.1 q.2.2.2.2.2.1 q.2.2.2.2.2.2.1 q.2.2.2.2.2.2.2.1 q.2.2.2.2.2.2.2.2.1 q.2.2.2.2.2.2.2.2.2) (fun q=>G q.1 q.2.1 q.2.2.1 q.2.2.2.1 q.2.2.2.2.1 q.2.2.2.2.2.1 q.2.2.2.2.2.2.1 q.2.2.2.2.2.2.2.1 q.2.2.2.2.2.2.2.2.1 q.2.2.2.2.2.2.2.2.2) (fun q h=>J q.1 q.2.1 q.2.2.1 q.2.2.2.1 q.2.2.2.2.1 q.2.2.2.2.2.1 q.2.2.2.2.2.2.1 q.2.2.2.2.2.2.2.1 q.2.2.2.2.2.2.2.2.1 q.2.2.2.2.2.2.2.2.2 h) (h.mono fun e st' hq=>by
  cases e with
  | normal=>obtain ⟨v0,v1,v2,v3,v4,v5,v6,v7,v8,v9,h1,h2⟩:=hq; exact ⟨(v0,v1,v2,v3,v4,v5,v6,v7,v8,v9),h1,h2⟩
  | _=>exact hq)
theorem Wp.j12 {α0 α1 α2 α3 α4 α5 α6 α7 α8 α9 α10 α11:Type} {x:Code} (G:α0→α1→α2→α3→α4→α5→α6→α7→α8→α9→α10→α11→Prop) (S:α0→α1→α2→α3→α4→α5→α6→α7→α8→α9→α10→α11→Sx) (J:∀ v0 v1 v2 v3 v4 v5 v6 v7 v8 v9 v10 v11,G v0 v1 v2 v3 v4 v5 v6 v7 v8 v9 v10 v11→Wp P n ls y Q (S v0 v1 v2 v3 v4 v5 v6 v7 v8 v9 v10 v11).st) (h:Wp P n ls x (thenQ (fun st=>∃ v0 v1 v2 v3 v4 v5 v6 v7 v8 v9 v10 v11,G v0 v1 v2 v3 v4 v5 v6 v7 v8 v9 v10 v11∧Le n ls st (S v0 v1 v2 v3 v4 v5 v6 v7 v8 v9 v10 v11).st) Q) st):Wp P n ls (.seq x y) Q st :=
 Wp.seqJ (α:=α0×α1×α2×α3×α4×α5×α6×α7×α8×α9×α10×α11) (fun q=>S q.1 q.2.1 q.2.2.1 q.2.2.2.1 q.2.2.2.2.1 q.2.2.2.2.2.1 q.2.2.2.2.2.2.1 q.2.2.2.2.2.2.2.1 q.2.2.2.2.2.2.2.2.1 q.2.2.2.2.2.2.2.2.2.1 q.2.2.2.2.2.2.2.2.2.2.1 q.2.2.2.2.2.2.2.2.2.2.2) (fun q=>G q.1 q.2.1 q.2.2.1 q.2.2.2.1 q.2.2.2.2.1 q.2.2.2.2.2.1 q.2.2.2.2.2.2.1 q.2.2.2.2.2.2.2.1 q.2.2.2.2.2.2.2.2.1 q.2.2.2.2.2.2.2.2.2.1 q.2.2.2.2.2.2.2.2.2.2.1 q.2.2.2.2.2.2.2.2.2.2.2) (fun q h=>J q.1 q.2.1 q.2.2.1 q.2.2.2.1 q.2.2.2.2.1 q.2.2.2.2.2.1 q.2.2.2.2.2.2.1 q.2.2.2.2.2.2.2.1 q.2.2.2.2.2.2.2.2.1 q.2.2.2.2.2.2.2.2.2.1 q.2.2.2.2.2.2.2.2.2.2.1 q.2.2.2.2.2.2.2.2.2.2.2 h) (h.mono fun e st' hq=>by
  cases e with
  | normal=>obtain ⟨v0,v1,v2,v3,v4,v5,v6,v7,v8,v9,v10,v11,h1,h2⟩:=hq; exact ⟨(v0,v1,v2,v3,v4,v5,v6,v7,v8,v9,v10,v11),h1,h2⟩
  | _=>exact hq)
theorem Wp.j13 {α0 α1 α2 α3 α4 α5 α6 α7 α8 α9 α10 α11 α12:Type} {x:Code} (G:α0→α1→α2→α3→α4→α5→α6→α7→α8→α9→α10→α11→α12→Prop) (S:α0→α1→α2→α3→α4→α5→α6→α7→α8→α9→α10→α11→α12→Sx) (J:∀ v0 v1 v2 v3 v4 v5 v6 v7 v8 v9 v10 v11 v12,G v0 v1 v2 v3 v4 v5 v6 v7 v8 v9 v10 v11 v12→Wp P n ls y Q (S v0 v1 v2 v3 v4 v5 v6 v7 v8 v9 v10 v11 v12).st) (h:Wp P n ls x (thenQ (fun st=>∃ v0 v1 v2 v3 v4 v5 v6 v7 v8 v9 v10 v11 v12,G v0 v1 v2 v3 v4 v5 v6 v7 v8 v9 v10 v11 v12∧Le n ls st (S v0 v1 v2 v3 v4 v5 v6 v7 v8 v9 v10 v11 v12).st) Q) st):Wp P n ls (.seq x y) Q st :=
 Wp.seqJ (α:=α0×α1×α2×α3×α4×α5×α6×α7×α8×α9×α10×α11×α12) (fun q=>S q.1 q.2.1 q.2.2.1 q.2.2.2.1 q.2.2.2.2.1 q.2.2.2.2.2.1 q.2.2.2.2.2.2.1 q.2.2.2.2.2.2.2.1 q.2.2.2.2.2.2.2.2.1 q.2.2.2.2.2.2.2.2.2.1 q.2.2.2.2.2.2.2.2.2.2.1 q.2.2.2.2.2.2.2.2.2.2.2.1 q.2.2.2.2.2.2.2.2.2.2.2.2) (fun q=>G q.1 q.2.1 q.2.2.1 q.2.2.2.1 q.2.2.2.2.1 q.2.2.2.2.2.1 q.2.2.2.2.2.2.1 q.2.2.2.2.2.2.2.1 q.2.2.2.2.2.2.2.2.1 q.2.2.2.2.2.2.2.2.2.1 q.2.2.2.2.2.2.2.2.2.2.1 q.2.2.2.2.2.2.2.2.2.2.2.1 q.2.2.2.2.2.2.2.2.2.2.2.2) (fun q h=>J q.1 q.2.1 q.2.2.1 q.2.2.2.1 q.2.2.2.2.1 q.2.2.2.2.2.1 q.2.2.2.2.2.2.1 q.2.2.2.2.2.2.2.1 q.2.2.2.2.2.2.2.2.1 q.2.2.2.2.2.2.2.2.2.1 q.2.2.2.2.2.2.2.2.2.2.1 q.2.2.2.2.2.2.2.2.2.2.2.1 q.2.2.2.2.2.2.2.2.2.2.2.2 h) (h.mono fun e st' hq=>by
  cases e with
  | normal=>obtain ⟨v0,v1,v2,v3,v4,v5,v6,v7,v8,v9,v10,v11,v12,h1,h2⟩:=hq; exact ⟨(v0,v1,v2,v3,v4,v5,v6,v7,v8,v9,v10,v11,v12),h1,h2⟩
  | _=>exact hq)
theorem Wp.l2 {α0 α1:Type} {x:Code} (G:Nat→α0→α1→Prop) (S:α0→α1→Sx) (hs:∀ k v0 v1,G (k+1) v0 v1→Wp P n ls x (thenQ (fun st=>∃ v0 v1,G k v0 v1∧Le n ls st (S v0 v1).st) Q) (S v0 v1).st) {k:Nat} {v0:α0} {v1:α1} (h:G k v0 v1) (hl:Le n ls st (S v0 v1).st) (h0:∀ v0 v1,¬ G 0 v0 v1):Wp P n ls (.loop x) Q st :=
 Wp.loopF (α:=α0×α1) (fun q=>S q.1 q.2) (fun k q=>G k q.1 q.2) (fun q=>h0 q.1 q.2) (fun k q h=>(hs k q.1 q.2 h).mono fun e st' hq=>by
  cases e with
  | normal=>obtain ⟨v0',v1',h1,h2⟩:=hq; exact ⟨(v0',v1'),h1,h2⟩
  | _=>exact hq) k (v0,v1) h hl
theorem Wp.l3 {α0 α1 α2:Type} {x:Code} (G:Nat→α0→α1→α2→Prop) (S:α0→α1→α2→Sx) (hs:∀ k v0 v1 v2,G (k+1) v0 v1 v2→Wp P n ls x (thenQ (fun st=>∃ v0 v1 v2,G k v0 v1 v2∧Le n ls st (S v0 v1 v2).st) Q) (S v0 v1 v2).st) {k:Nat} {v0:α0} {v1:α1} {v2:α2} (h:G k v0 v1 v2) (hl:Le n ls st (S v0 v1 v2).st) (h0:∀ v0 v1 v2,¬ G 0 v0 v1 v2):Wp P n ls (.loop x) Q st :=
 Wp.loopF (α:=α0×α1×α2) (fun q=>S q.1 q.2.1 q.2.2) (fun k q=>G k q.1 q.2.1 q.2.2) (fun q=>h0 q.1 q.2.1 q.2.2) (fun k q h=>(hs k q.1 q.2.1 q.2.2 h).mono fun e st' hq=>by
  cases e with
  | normal=>obtain ⟨v0',v1',v2',h1,h2⟩:=hq; exact ⟨(v0',v1',v2'),h1,h2⟩
  | _=>exact hq) k (v0,v1,v2) h hl
theorem Wp.l4 {α0 α1 α2 α3:Type} {x:Code} (G:Nat→α0→α1→α2→α3→Prop) (S:α0→α1→α2→α3→Sx) (hs:∀ k v0 v1 v2 v3,G (k+1) v0 v1 v2 v3→Wp P n ls x (thenQ (fun st=>∃ v0 v1 v2 v3,G k v0 v1 v2 v3∧Le n ls st (S v0 v1 v2 v3).st) Q) (S v0 v1 v2 v3).st) {k:Nat} {v0:α0} {v1:α1} {v2:α2} {v3:α3} (h:G k v0 v1 v2 v3) (hl:Le n ls st (S v0 v1 v2 v3).st) (h0:∀ v0 v1 v2 v3,¬ G 0 v0 v1 v2 v3):Wp P n ls (.loop x) Q st :=
 Wp.loopF (α:=α0×α1×α2×α3) (fun q=>S q.1 q.2.1 q.2.2.1 q.2.2.2) (fun k q=>G k q.1 q.2.1 q.2.2.1 q.2.2.2) (fun q=>h0 q.1 q.2.1 q.2.2.1 q.2.2.2) (fun k q h=>(hs k q.1 q.2.1 q.2.2.1 q.2.2.2 h).mono fun e st' hq=>by
  cases e with
  | normal=>obtain ⟨v0',v1',v2',v3',h1,h2⟩:=hq; exact ⟨(v0',v1',v2',v3'),h1,h2⟩
  | _=>exact hq) k (v0,v1,v2,v3) h hl
theorem Wp.l5 {α0 α1 α2 α3 α4:Type} {x:Code} (G:Nat→α0→α1→α2→α3→α4→Prop) (S:α0→α1→α2→α3→α4→Sx) (hs:∀ k v0 v1 v2 v3 v4,G (k+1) v0 v1 v2 v3 v4→Wp P n ls x (thenQ (fun st=>∃ v0 v1 v2 v3 v4,G k v0 v1 v2 v3 v4∧Le n ls st (S v0 v1 v2 v3 v4).st) Q) (S v0 v1 v2 v3 v4).st) {k:Nat} {v0:α0} {v1:α1} {v2:α2} {v3:α3} {v4:α4} (h:G k v0 v1 v2 v3 v4) (hl:Le n ls st (S v0 v1 v2 v3 v4).st) (h0:∀ v0 v1 v2 v3 v4,¬ G 0 v0 v1 v2 v3 v4):Wp P n ls (.loop x) Q st :=
 Wp.loopF (α:=α0×α1×α2×α3×α4) (fun q=>S q.1 q.2.1 q.2.2.1 q.2.2.2.1 q.2.2.2.2) (fun k q=>G k q.1 q.2.1 q.2.2.1 q.2.2.2.1 q.2.2.2.2) (fun q=>h0 q.1 q.2.1 q.2.2.1 q.2.2.2.1 q.2.2.2.2) (fun k q h=>(hs k q.1 q.2.1 q.2.2.1 q.2.2.2.1 q.2.2.2.2 h).mono fun e st' hq=>by
  cases e with
  | normal=>obtain ⟨v0',v1',v2',v3',v4',h1,h2⟩:=hq; exact ⟨(v0',v1',v2',v3',v4'),h1,h2⟩
  | _=>exact hq) k (v0,v1,v2,v3,v4) h hl
theorem Wp.l6 {α0 α1 α2 α3 α4 α5:Type} {x:Code} (G:Nat→α0→α1→α2→α3→α4→α5→Prop) (S:α0→α1→α2→α3→α4→α5→Sx) (hs:∀ k v0 v1 v2 v3 v4 v5,G (k+1) v0 v1 v2 v3 v4 v5→Wp P n ls x (thenQ (fun st=>∃ v0 v1 v2 v3 v4 v5,G k v0 v1 v2 v3 v4 v5∧Le n ls st (S v0 v1 v2 v3 v4 v5).st) Q) (S v0 v1 v2 v3 v4 v5).st) {k:Nat} {v0:α0} {v1:α1} {v2:α2} {v3:α3} {v4:α4} {v5:α5} (h:G k v0 v1 v2 v3 v4 v5) (hl:Le n ls st (S v0 v1 v2 v3 v4 v5).st) (h0:∀ v0 v1 v2 v3 v4 v5,¬ G 0 v0 v1 v2 v3 v4 v5):Wp P n ls (.loop x) Q st :=
 Wp.loopF (α:=α0×α1×α2×α3×α4×α5) (fun q=>S q.1 q.2.1 q.2.2.1 q.2.2.2.1 q.2.2.2.2.1 q.2.2.2.2.2) (fun k q=>G k q.1 q.2.1 q.2.2.1 q.2.2.2.1 q.2.2.2.2.1 q.2.2.2.2.2) (fun q=>h0 q.1 q.2.1 q.2.2.1 q.2.2.2.1 q.2.2.2.2.1 q.2.2.2.2.2) (fun k q h=>(hs k q.1 q.2.1 q.2.2.1 q.2.2.2.1 q.2.2.2.2.1 q.2.2.2.2.2 h).mono fun e st' hq=>by
  cases e with
  | normal=>obtain ⟨v0',v1',v2',v3',v4',v5',h1,h2⟩:=hq; exact ⟨(v0',v1',v2',v3',v4',v5'),h1,h2⟩
  | _=>exact hq) k (v0,v1,v2,v3,v4,v5) h hl
theorem Wp.l7 {α0 α1 α2 α3 α4 α5 α6:Type} {x:Code} (G:Nat→α0→α1→α2→α3→α4→α5→α6→Prop) (S:α0→α1→α2→α3→α4→α5→α6→Sx) (hs:∀ k v0 v1 v2 v3 v4 v5 v6,G (k+1) v0 v1 v2 v3 v4 v5 v6→Wp P n ls x (thenQ (fun st=>∃ v0 v1 v2 v3 v4 v5 v6,G k v0 v1 v2 v3 v4 v5 v6∧Le n ls st (S v0 v1 v2 v3 v4 v5 v6).st) Q) (S v0 v1 v2 v3 v4 v5 v6).st) {k:Nat} {v0:α0} {v1:α1} {v2:α2} {v3:α3} {v4:α4} {v5:α5} {v6:α6} (h:G k v0 v1 v2 v3 v4 v5 v6) (hl:Le n ls st (S v0 v1 v2 v3 v4 v5 v6).st) (h0:∀ v0 v1 v2 v3 v4 v5 v6,¬ G 0 v0 v1 v2 v3 v4 v5 v6):Wp P n ls (.loop x) Q st :=
 Wp.loopF (α:=α0×α1×α2×α3×α4×α5×α6) (fun q=>S q.1 q.2.1 q.2.2.1 q.2.2.2.1 q.2.2.2.2.1 q.2.2.2.2.2.1 q.2.2.2.2.2.2) (fun k q=>G k q.1 q.2.1 q.2.2.1 q.2.2.2.1 q.2.2.2.2.1 q.2.2.2.2.2.1 q.2.2.2.2.2.2) (fun q=>h0 q.1 q.2.1 q.2.2.1 q.2.2.2.1 q.2.2.2.2.1 q.2.2.2.2.2.1 q.2.2.2.2.2.2) (fun k q h=>(hs k q.1 q.2.1 q.2.2.1 q.2.2.2.1 q.2.2.2.2.1 q.2.2.2.2.2.1 q.2.2.2.2.2.2 h).mono fun e st' hq=>by
  cases e with
  | normal=>obtain ⟨v0',v1',v2',v3',v4',v5',v6',h1,h2⟩:=hq; exact ⟨(v0',v1',v2',v3',v4',v5',v6'),h1,h2⟩
  | _=>exact hq) k (v0,v1,v2,v3,v4,v5,v6) h hl
theorem Wp.l8 {α0 α1 α2 α3 α4 α5 α6 α7:Type} {x:Code} (G:Nat→α0→α1→α2→α3→α4→α5→α6→α7→Prop) (S:α0→α1→α2→α3→α4→α5→α6→α7→Sx) (hs:∀ k v0 v1 v2 v3 v4 v5 v6 v7,G (k+1) v0 v1 v2 v3 v4 v5 v6 v7→Wp P n ls x (thenQ (fun st=>∃ v0 v1 v2 v3 v4 v5 v6 v7,G k v0 v1 v2 v3 v4 v5 v6 v7∧Le n ls st (S v0 v1 v2 v3 v4 v5 v6 v7).st) Q) (S v0 v1 v2 v3 v4 v5 v6 v7).st) {k:Nat} {v0:α0} {v1:α1} {v2:α2} {v3:α3} {v4:α4} {v5:α5} {v6:α6} {v7:α7} (h:G k v0 v1 v2 v3 v4 v5 v6 v7) (hl:Le n ls st (S v0 v1 v2 v3 v4 v5 v6 v7).st) (h0:∀ v0 v1 v2 v3 v4 v5 v6 v7,¬ G 0 v0 v1 v2 v3 v4 v5 v6 v7):Wp P n ls (.loop x) Q st :=
 Wp.loopF (α:=α0×α1×α2×α3×α4×α5×α6×α7) (fun q=>S q.1 q.2.1 q.2.2.1 q.2.2.2.1 q.2.2.2.2.1 q.2.2.2.2.2.1 q.2.2.2.2.2.2.1 q.2.2.2.2.2.2.2) (fun k q=>G k q.1 q.2.1 q.2.2.1 q.2.2.2.1 q.2.2.2.2.1 q.2.2.2.2.2.1 q.2.2.2.2.2.2.1 q.2.2.2.2.2.2.2) (fun q=>h0 q.1 q.2.1 q.2.2.1 q.2.2.2.1 q.2.2.2.2.1 q.2.2.2.2.2.1 q.2.2.2.2.2.2.1 q.2.2.2.2.2.2.2) (fun k q h=>(hs k q.1 q.2.1 q.2.2.1 q.2.2.2.1 q.2.2.2.2.1 q.2.2.2.2.2.1 q.2.2.2.2.2.2.1 q.2.2.2.2.2.2.2 h).mono fun e st' hq=>by
  cases e with
  | normal=>obtain ⟨v0',v1',v2',v3',v4',v5',v6',v7',h1,h2⟩:=hq; exact ⟨(v0',v1',v2',v3',v4',v5',v6',v7'),h1,h2⟩
  | _=>exact hq) k (v0,v1,v2,v3,v4,v5,v6,v7) h hl
theorem Wp.l10 {α0 α1 α2 α3 α4 α5 α6 α7 α8 α9:Type} {x:Code} (G:Nat→α0→α1→α2→α3→α4→α5→α6→α7→α8→α9→Prop) (S:α0→α1→α2→α3→α4→α5→α6→α7→α8→α9→Sx) (hs:∀ k v0 v1 v2 v3 v4 v5 v6 v7 v8 v9,G (k+1) v0 v1 v2 v3 v4 v5 v6 v7 v8 v9→Wp P n ls x (thenQ (fun st=>∃ v0 v1 v2 v3 v4 v5 v6 v7 v8 v9,G k v0 v1 v2 v3 v4 v5 v6 v7 v8 v9∧Le n ls st (S v0 v1 v2 v3 v4 v5 v6 v7 v8 v9).st) Q) (S v0 v1 v2 v3 v4 v5 v6 v7 v8 v9).st) {k:Nat} {v0:α0} {v1:α1} {v2:α2} {v3:α3} {v4:α4} {v5:α5} {v6:α6} {v7:α7} {v8:α8} {v9:α9} (h:G k v0 v1 v2 v3 v4 v5 v6 v7 v8 v9) (hl:Le n ls st (S v0 v1 v2 v3 v4 v5 v6 v7 v8 v9).st) (h0:∀ v0 v1 v2 v3 v4 v5 v6 v7 v8 v9,¬ G 0 v0 v1 v2 v3 v4 v5 v6 v7 v8 v9):Wp P n ls (.loop x) Q st :=
 Wp.loopF (α:=α0×α1×α2×α3×α4×α5×α6×α7×α8×α9) (fun q=>S q.1 q.2.1 q.2.2.1 q.2.2.2.1 q.2.2.2.2.1 q.2.2.2.2.2.1 q.2.2.2.2.2.2.1 q.2.2.2.2.2.2.2.1 q.2.2.2.2.2.2.2.2.1 q.2.2.2.2.2.2.2.2.2) (fun k q=>G k q.1 q.2.1 q.2.2.1 q.2.2.2.1 q.2.2.2.2.1 q.2.2.2.2.2.1 q.2.2.2.2.2.2.1 q.2.2.2.2.2.2.2.1 q.2.2.2.2.2.2.2.2.1 q.2.2.2.2.2.2.2.2.2) (fun q=>h0 q.1 q.2.1 q.2.2.1 q.2.2.2.1 q.2.2.2.2.1 q.2.2.2.2.2.1 q.2.2.2.2.2.2.1 q.2.2.2.2.2.2.2.1 q.2.2.2.2.2.2.2.2.1 q.2.2.2.2.2.2.2.2.2) (fun k q h=>(hs k q.1 q.2.1 q.2.2.1 q.2.2.2.1 q.2.2.2.2.1 q.2.2.2.2.2.1 q.2.2.2.2.2.2.1 q.2.2.2.2.2.2.2.1 q.2.2.2.2.2.2.2.2.1 q.2.2.2.2.2.2.2.2.2 h).mono fun e st' hq=>by
  cases e with
  | normal=>obtain ⟨v0',v1',v2',v3',v4',v5',v6',v7',v8',v9',h1,h2⟩:=hq; exact ⟨(v0',v1',v2',v3',v4',v5',v6',v7',v8',v9'),h1,h2⟩
  | _=>exact hq) k (v0,v1,v2,v3,v4,v5,v6,v7,v8,v9) h hl
theorem Wp.l11 {α0 α1 α2 α3 α4 α5 α6 α7 α8 α9 α10:Type} {x:Code} (G:Nat→α0→α1→α2→α3→α4→α5→α6→α7→α8→α9→α10→Prop) (S:α0→α1→α2→α3→α4→α5→α6→α7→α8→α9→α10→Sx) (hs:∀ k v0 v1 v2 v3 v4 v5 v6 v7 v8 v9 v10,G (k+1) v0 v1 v2 v3 v4 v5 v6 v7 v8 v9 v10→Wp P n ls x (thenQ (fun st=>∃ v0 v1 v2 v3 v4 v5 v6 v7 v8 v9 v10,G k v0 v1 v2 v3 v4 v5 v6 v7 v8 v9 v10∧Le n ls st (S v0 v1 v2 v3 v4 v5 v6 v7 v8 v9 v10).st) Q) (S v0 v1 v2 v3 v4 v5 v6 v7 v8 v9 v10).st) {k:Nat} {v0:α0} {v1:α1} {v2:α2} {v3:α3} {v4:α4} {v5:α5} {v6:α6} {v7:α7} {v8:α8} {v9:α9} {v10:α10} (h:G k v0 v1 v2 v3 v4 v5 v6 v7 v8 v9 v10) (hl:Le n ls st (S v0 v1 v2 v3 v4 v5 v6 v7 v8 v9 v10).st) (h0:∀ v0 v1 v2 v3 v4 v5 v6 v7 v8 v9 v10,¬ G 0 v0 v1 v2 v3 v4 v5 v6 v7 v8 v9 v10):Wp P n ls (.loop x) Q st :=
 Wp.loopF (α:=α0×α1×α2×α3×α4×α5×α6×α7×α8×α9×α10) (fun q=>S q.1 q.2.1 q.2.2.1 q.2.2.2.1 q.2.2.2.2.1 q.2.2.2.2.2.1 q.2.2.2.2.2.2.1 q.2.2.2.2.2.2.2.1 q.2.2.2.2.2.2.2.2.1 q.2.2.2.2.2.2.2.2.2.1 q.2.2.2.2.2.2.2.2.2.2) (fun k q=>G k q.1 q.2.1 q.2.2.1 q.2.2.2.1 q.2.2.2.2.1 q.2.2.2.2.2.1 q.2.2.2.2.2.2.1 q.2.2.2.2.2.2.2.1 q.2.2.2.2.2.2.2.2.1 q.2.2.2.2.2.2.2.2.2.1 q.2.2.2.2.2.2.2.2.2.2) (fun q=>h0 q.1 q.2.1 q.2.2.1 q.2.2.2.1 q.2.2.2.2.1 q.2.2.2.2.2.1 q.2.2.2.2.2.2.1 q.2.2.2.2.2.2.2.1 q.2.2.2.2.2.2.2.2.1 q.2.2.2.2.2.2.2.2.2.1 q.2.2.2.2.2.2.2.2.2.2) (fun k q h=>(hs k q.1 q.2.1 q.2.2.1 q.2.2.2.1 q.2.2.2.2.1 q.2.2.2.2.2.1 q.2.2.2.2.2.2.1 q.2.2.2.2.2.2.2.1 q.2.2.2.2.2.2.2.2.1 q.2.2.2.2.2.2.2.2.2.1 q.2.2.2.2.2.2.2.2.2.2 h).mono fun e st' hq=>by
  cases e with
  | normal=>obtain ⟨v0',v1',v2',v3',v4',v5',v6',v7',v8',v9',v10',h1,h2⟩:=hq; exact ⟨(v0',v1',v2',v3',v4',v5',v6',v7',v8',v9',v10'),h1,h2⟩
  | _=>exact hq) k (v0,v1,v2,v3,v4,v5,v6,v7,v8,v9,v10) h hl
theorem Wp.l13 {α0 α1 α2 α3 α4 α5 α6 α7 α8 α9 α10 α11 α12:Type} {x:Code} (G:Nat→α0→α1→α2→α3→α4→α5→α6→α7→α8→α9→α10→α11→α12→Prop) (S:α0→α1→α2→α3→α4→α5→α6→α7→α8→α9→α10→α11→α12→Sx) (hs:∀ k v0 v1 v2 v3 v4 v5 v6 v7 v8 v9 v10 v11 v12,G (k+1) v0 v1 v2 v3 v4 v5 v6 v7 v8 v9 v10 v11 v12→Wp P n ls x (thenQ (fun st=>∃ v0 v1 v2 v3 v4 v5 v6 v7 v8 v9 v10 v11 v12,G k v0 v1 v2 v3 v4 v5 v6 v7 v8 v9 v10 v11 v12∧Le n ls st (S v0 v1 v2 v3 v4 v5 v6 v7 v8 v9 v10 v11 v12).st) Q) (S v0 v1 v2 v3 v4 v5 v6 v7 v8 v9 v10 v11 v12).st) {k:Nat} {v0:α0} {v1:α1} {v2:α2} {v3:α3} {v4:α4} {v5:α5} {v6:α6} {v7:α7} {v8:α8} {v9:α9} {v10:α10} {v11:α11} {v12:α12} (h:G k v0 v1 v2 v3 v4 v5 v6 v7 v8 v9 v10 v11 v12) (hl:Le n ls st (S v0 v1 v2 v3 v4 v5 v6 v7 v8 v9 v10 v11 v12).st) (h0:∀ v0 v1 v2 v3 v4 v5 v6 v7 v8 v9 v10 v11 v12,¬ G 0 v0 v1 v2 v3 v4 v5 v6 v7 v8 v9 v10 v11 v12):Wp P n ls (.loop x) Q st :=
 Wp.loopF (α:=α0×α1×α2×α3×α4×α5×α6×α7×α8×α9×α10×α11×α12) (fun q=>S q.1 q.2.1 q.2.2.1 q.2.2.2.1 q.2.2.2.2.1 q.2.2.2.2.2.1 q.2.2.2.2.2.2.1 q.2.2.2.2.2.2.2.1 q.2.2.2.2.2.2.2.2.1 q.2.2.2.2.2.2.2.2.2.1 q.2.2.2.2.2.2.2.2.2.2.1 q.2.2.2.2.2.2.2.2.2.2.2.1 q.2.2.2.2.2.2.2.2.2.2.2.2) (fun k q=>G k q.1 q.2.1 q.2.2.1 q.2.2.2.1 q.2.2.2.2.1 q.2.2.2.2.2.1 q.2.2.2.2.2.2.1 q.2.2.2.2.2.2.2.1 q.2.2.2.2.2.2.2.2.1 q.2.2.2.2.2.2.2.2.2.1 q.2.2.2.2.2.2.2.2.2.2.1 q.2.2.2.2.2.2.2.2.2.2.2.1 q.2.2.2.2.2.2.2.2.2.2.2.2) (fun q=>h0 q.1 q.2.1 q.2.2.1 q.2.2.2.1 q.2.2.2.2.1 q.2.2.2.2.2.1 q.2.2.2.2.2.2.1 q.2.2.2.2.2.2.2.1 q.2.2.2.2.2.2.2.2.1 q.2.2.2.2.2.2.2.2.2.1 q.2.2.2.2.2.2.2.2.2.2.1 q.2.2.2.2.2.2.2.2.2.2.2.1 q.2.2.2.2.2.2.2.2.2.2.2.2) (fun k q h=>(hs k q.1 q.2.1 q.2.2.1 q.2.2.2.1 q.2.2.2.2.1 q.2.2.2.2.2.1 q.2.2.2.2.2.2.1 q.2.2.2.2.2.2.2.1 q.2.2.2.2.2.2.2.2.1 q.2.2.2.2.2.2.2.2.2.1 q.2.2.2.2.2.2.2.2.2.2.1 q.2.2.2.2.2.2.2.2.2.2.2.1 q.2.2.2.2.2.2.2.2.2.2.2.2 h).mono fun e st' hq=>by
  cases e with
  | normal=>obtain ⟨v0',v1',v2',v3',v4',v5',v6',v7',v8',v9',v10',v11',v12',h1,h2⟩:=hq; exact ⟨(v0',v1',v2',v3',v4',v5',v6',v7',v8',v9',v10',v11',v12'),h1,h2⟩
  | _=>exact hq) k (v0,v1,v2,v3,v4,v5,v6,v7,v8,v9,v10,v11,v12) h hl
end
theorem laws_big_ok {u p0 r} (h:laws_big u p0=some r):CallOK Tryz.prog 4 [.one (.s p0)] (V.b r) []:=by
 unfold laws_big at h
 refine ofb Tryz.f4 false ?_
 refine Wp.sa ?_
 refine Wp.sr ?_
 refine Runs.ln 1 5 (eInt .u8) p0 ?_
 refine Runs.alln ?_
 obtain rfl:=oi h
 exact Wp.ret RetB
theorem spec_l1New_ok {u p0 r} (h:spec_l1New u p0=some r):CallOK Tryz.prog 26 [.one (.s p0)] (.ptr (cw [0,0,0] (l1Cur.enc r))) []:=by
 unfold spec_l1New at h
 refine ofb Tryz.f26 false ?_
 refine Wp.sa ?_
 refine Wp.sr ?_
 refine Runs.ln 1 5 (eInt .u8) p0 ?_
 refine Runs.alln ?_
 refine Wp.j2 (fun p0 x9=>spec_l1New_j1 u p0 x9=some r) (fun p0 x9=>⟨[(0,.s p0),(3,.i x9)],[],[]⟩) (fun p0 x9 h=>?_) ?_
 ·refine Wp.sa ?_
  obtain rfl:=oi h
  exact Wp.ret RetB
 refine Wp.sa ?_
 refine Wp.block ?_
 refine Wp.l3 (fun k_spec_l1New_l2 p0 x3 x4=>spec_l1New_l2 u k_spec_l1New_l2 p0 x3 x4=some r) (fun p0 x3 x4=>⟨[(0,.s p0),(3,.i x3),(4,.i x4)],[],[]⟩) (fun k_spec_l1New_l2 p0 x3 x4 h=>?_) h (lo []) (fun _ _ _  h=>nomatch h)
 rw [spec_l1New_l2] at h
 refine Wp.seq ?_
 refine Wp.j4 (fun p0 x3 x4 x7=>spec_l1New_j3 u (fun z0 z1 z2=>spec_l1New_l2 u k_spec_l1New_l2 z0 z1 z2) p0 x3 x4 x7=some r) (fun p0 x3 x4 x7=>⟨[(0,.s p0),(3,.i x3),(4,.i x4),(15,.b x7)],[],[]⟩) (fun p0 x3 x4 x7 h=>?_) ?_
 ·refine Wp.c2 h (fun h=>?_) (fun h=>?_)
  ·refine Wp.sk ?_
   refine Wp.seq ?_
   refine Wp.block ?_
   refine Wp.rg [] [] ?_
   refine Runs.ix 4 5 1 (eInt .u8) h (fun y8 h _=>?_)
   refine Runs.all kr ?_
   refine blkN ?_
   refine thenN ?_
   refine Wp.rg [] [] ?_
   refine Runs.alln ?_
   exact ⟨_,_,_,h,lo []⟩
  refine Wp.exit ?_
  refine thenE ?_
  refine thenE ?_
  refine blkE ?_
  refine thenN ?_
  exact ⟨_,_,h,lo []⟩
 refine Wp.rg [] [] ?_
 refine Runs.ln 2 5 (eInt .u8) p0 ?_
 refine Runs.c2 2 12 h (fun h=>?_) (fun h=>?_)
 ·refine Runs.alln ?_
  exact ⟨_,_,_,_,h,lo []⟩
 refine Runs.alln ?_
 exact ⟨_,_,_,_,h,lo []⟩
theorem spec_l1Byte_ok {u p0 r} (h:spec_l1Byte u p0=some r):CallOK Tryz.prog 69 [.ptr (cw [0,0,0] (l1Cur.enc p0))] (V.i r.1) [cw [0,0,0] (l1Cur.enc r.2)]:=by
 unfold spec_l1Byte at h
 refine ofb Tryz.f69 false ?_
 refine Wp.sa ?_
 refine Wp.sa ?_
 refine Wp.seq ?_
 refine Wp.regionA (pOf []) (rhoOf [(0,.obj 900),(13,.obj 900),(14,.obj 900),(15,.obj 900),(16,.frz),(17,.frz),(18,.obj 900),(19,.obj 900),(20,.obj 900),(21,.frz),(22,.frz),(23,.frz),(24,.frz)]) kr kr ?_
 refine Runs.alln ?_
 refine Wp.j3 (fun x2 p0 x3=>spec_l1Byte_j1 u x2 p0 x3=some r) (fun x2 p0 x3=>⟨[(2,.i 0),(3,.i x2)],[(900,[.s p0.fB,.i x3,.i (bAdd .i64 (bMul .i64 p0.fH 6364136223846793005) 1442695040888963407)])],[]⟩) (fun x2 p0 x3 h=>?_) ?_
 ·refine Wp.sa ?_
  obtain rfl:=oi h
  exact Wp.ret RetB
 refine Wp.seq ?_
 refine Wp.regionA (pOf []) (rhoOf [(0,.obj 900),(25,.obj 900),(26,.obj 900),(27,.obj 900),(28,.frz),(29,.obj 900),(30,.obj 900),(31,.obj 900),(32,.frz),(33,.frz)]) kr kr ?_
 refine Runs.ln 8 5 (eInt .u8) p0.fB ?_
 refine Runs.alln ?_
 refine Wp.c2 h (fun h=>?_) (fun h=>?_)
 ·refine Wp.seq ?_
  refine Wp.regionA (pOf []) (rhoOf [(0,.obj 900),(3,.frz),(35,.frz),(36,.obj 900),(37,.obj 900),(38,.obj 900),(39,.frz),(40,.obj 900),(41,.obj 900),(42,.obj 900),(43,.frz),(44,.frz),(45,.frz),(46,.frz),(47,.frz),(48,.frz)]) kr kr ?_
  refine Runs.ix 9 5 1 (eInt .u8) h (fun y1 h _=>?_)
  refine Runs.alln ?_
  refine Wp.rg [] [] ?_
  refine Runs.alln ?_
  exact ⟨_,_,_,h,lo []⟩
 refine Wp.sk ?_
 exact ⟨_,_,_,h,lo []⟩
theorem spec_l1Below_ok {u p0 p1 r} (h:spec_l1Below u p0 p1=some r):CallOK Tryz.prog 28 [.ptr (cw [0,0,0] (l1Cur.enc p0)),V.i p1] (V.i r.1) [cw [0,0,0] (l1Cur.enc r.2)]:=by
 unfold spec_l1Below at h
 refine ofb Tryz.f28 false ?_
 refine Wp.sa ?_
 refine Wp.seq ?_
 refine Wp.sa ?_
 refine Wp.c2 h (fun h=>?_) (fun h=>?_)
 ·refine Wp.sa ?_
  obtain rfl:=oi h
  exact Wp.ret RetB
 refine Wp.sk ?_
 refine Wp.seq ?_
 refine Wp.sa ?_
 refine Wp.c2 h (fun h=>?_) (fun h=>?_)
 ·refine Wp.sr ?_
  refine Runs.cl false 1 13 [.obj 900 0] h (fun _=>spec_l1Byte_ok) (fun r1 h=>?_)
  refine Runs.batch 1 kr ?_
  obtain ⟨_,e_2,h⟩:=bind_some h
  refine Runs.num .rem (.int .i64 r1.1) (.int .i64 p1) (.int .i64 (bRem .i64 r1.1 p1)) rfl kr kr kr kr (bin_rem _ _ _ _ (by simpa using chk_some e_2)) ?_
  refine Runs.alln ?_
  obtain rfl:=oi h
  exact Wp.ret RetB
 refine Wp.sk ?_
 refine Wp.cl false 1 17 [.obj 900 0] h (fun _=>spec_l1Byte_ok) (fun r3 h=>?_)
 refine Wp.cl false 1 19 [.obj 900 0] h (fun _=>spec_l1Byte_ok) (fun r4 h=>?_)
 refine Wp.cl false 1 21 [.obj 900 0] h (fun _=>spec_l1Byte_ok) (fun r5 h=>?_)
 refine Wp.sr ?_
 refine Runs.batch 8 kr ?_
 obtain ⟨_,e_6,h⟩:=bind_some h
 refine Runs.num .rem (.int .i64 (bAdd .i64 (bAdd .i64 (bMul .i64 r3.1 65536) (bMul .i64 r4.1 256)) r5.1)) (.int .i64 p1) (.int .i64 (bRem .i64 (bAdd .i64 (bAdd .i64 (bMul .i64 r3.1 65536) (bMul .i64 r4.1 256)) r5.1) p1)) rfl kr kr kr kr (bin_rem _ _ _ _ (by simpa using chk_some e_6)) ?_
 refine Runs.alln ?_
 obtain rfl:=oi h
 exact Wp.ret RetB
theorem spec_l1Int_okx {u p0 p1 r} (h:spec_l1Int u p0 p1=some r):XOK Tryz.prog 71 [.ptr (cw [0,0,0] (l1Cur.enc p0))] [.one (.t (.sl 1 (p1.map (eInt .i64))))] (V.i r.1) [cw [0,0,0] (l1Cur.enc r.2)]:=by
 unfold spec_l1Int at h
 refine obx Tryz.f71 false ?_
 refine Wp.sa ?_
 refine Wp.sr ?_
 refine Runs.batch 3 kr ?_
 refine Runs.lenX (e:=3) (eInt .i64) p1 false 1 rfl rfl rfl kr kr kr kr ?_
 refine Runs.cl false 0 9 [.obj 900 0,.i ((p1.length:Int))] h (fun _=>spec_l1Below_ok) (fun r1 h=>?_)
 obtain ⟨y2,e_y2,h⟩:=bind_some h
 refine Runs.idxX (e:=3) (kk:=.i64) (sz:=1) (eInt .i64) p1 r1.1 false rfl kr kr kr kr kr kr e_y2 ?_
 refine Runs.alln ?_
 obtain rfl:=oi h
 exact Wp.ret RetB
theorem spec_l3Bytes_ok {u p0 p1 r} (h:spec_l3Bytes u p0 p1=some r):CallOK Tryz.prog 42 [.ptr (cw [0,0,0] (l1Cur.enc p0)),V.i p1] (.one (.ow 5 1 (r.1.map (eInt .u8)))) [cw [0,0,0] (l1Cur.enc r.2)]:=by
 unfold spec_l3Bytes at h
 refine ofb Tryz.f42 true ?_
 refine Wp.sa ?_
 refine Wp.sa ?_
 refine Wp.j4 (fun x18 x19 x20 x21=>spec_l3Bytes_j1 u x18 x19 x20 x21=some r) (fun x18 x19 x20 x21=>⟨[(4,.nil),(5,.own 327681)],[(900,[.s x19,.i x20,.i x21])],[(327681,.live 5 1 (x18.map (eInt .u8)))]⟩) (fun x18 x19 x20 x21 h=>?_) ?_
 ·refine Wp.sa ?_
  obtain rfl:=oi h
  exact Wp.ret RetB
 refine Wp.cl false 3 11 [.obj 900 0,.i (bAdd .i64 p1 1)] h (fun _=>spec_l1Below_ok) (fun r1 h=>?_)
 refine Wp.block ?_
 refine Wp.l5 (fun k_spec_l3Bytes_l2 x7 x8 x9 x10 x11=>spec_l3Bytes_l2 u k_spec_l3Bytes_l2 x7 x8 x9 x10 x11=some r) (fun x7 x8 x9 x10 x11=>⟨[(0,.obj 900 0),(4,.nil),(5,.own 327681),(6,.i x8)],[(900,[.s x9,.i x10,.i x11])],[(327681,.live 5 1 (x7.map (eInt .u8)))]⟩) (fun k_spec_l3Bytes_l2 x7 x8 x9 x10 x11 h=>?_) h (lo [(327681,458752)]) (fun _ _ _ _ _  h=>nomatch h)
 rw [spec_l3Bytes_l2] at h
 refine Wp.seq ?_
 refine Wp.sa ?_
 refine Wp.c2 h (fun h=>?_) (fun h=>?_)
 ·refine Wp.sk ?_
  refine Wp.seq ?_
  refine Wp.block ?_
  refine Wp.rg [] [] ?_
  refine Runs.cx false 3 19 [.obj 900 0] [.own 1179648] h (fun _=>spec_l1Int_okx) (fun r17 h=>?_)
  refine Runs.ap 2 22 5 1 327681 (eInt .u8) h (fun h=>?_)
  refine Runs.all kr ?_
  refine blkN ?_
  refine thenN ?_
  refine Wp.rg [] [] ?_
  refine Runs.alln ?_
  exact ⟨_,_,_,_,_,h,lo [(327681,1441792)]⟩
 refine Wp.exit ?_
 refine thenE ?_
 refine thenE ?_
 refine blkE ?_
 refine thenN ?_
 exact ⟨_,_,_,_,h,lo []⟩
theorem spec_l6Image_ok {u p0 r} (h:spec_l6Image u p0=some r):CallOK Tryz.prog 44 [.ptr (cw [0,0,0] (l1Cur.enc p0))] (.one (.ow 5 1 (r.1.map (eInt .u8)))) [cw [0,0,0] (l1Cur.enc r.2)]:=by
 unfold spec_l6Image at h
 refine ofb Tryz.f44 true ?_
 refine Wp.sa ?_
 refine Wp.cl false 1 4 [.obj 900 0,.i 16] h (fun _=>spec_l3Bytes_ok) (fun r1 h=>?_)
 obtain rfl:=oi h
 exact Wp.ret RetB
theorem spec_l1In_ok {u p0 p1 p2 r} (h:spec_l1In u p0 p1 p2=some r):CallOK Tryz.prog 63 [V.i p0,V.i p1,V.i p2] (V.b r) []:=by
 unfold spec_l1In at h
 refine ofb Tryz.f63 false ?_
 refine Wp.sa ?_
 refine Wp.sr ?_
 refine Runs.c2 4 10 h (fun h=>?_) (fun h=>?_)
 ·refine Runs.alln ?_
  obtain rfl:=oi h
  exact Wp.ret RetB
 refine Runs.alln ?_
 obtain rfl:=oi h
 exact Wp.ret RetB
theorem spec_SizeOk_ok {u p0 p1 r} (h:spec_SizeOk u p0 p1=some r):CallOK Tryz.prog 51 [V.i p0,V.i p1] (V.b r) []:=by
 unfold spec_SizeOk at h
 refine ofb Tryz.f51 false ?_
 refine Wp.sa ?_
 refine Wp.sr ?_
 refine Runs.cl false 1 6 [.i p0,.i 2,.i 6] h (fun _=>spec_l1In_ok) (fun r1 h=>?_)
 refine Runs.c2 1 7 h (fun h=>?_) (fun h=>?_)
 ·refine Runs.cl false 3 11 [.i p1,.i 0,.i (bMul .i64 p0 40)] h (fun _=>spec_l1In_ok) (fun r2 h=>?_)
  refine Runs.alln ?_
  obtain rfl:=oi h
  exact Wp.ret RetB
 refine Runs.alln ?_
 obtain rfl:=oi h
 exact Wp.ret RetB
theorem spec_CeilDiv_ok {u p0 p1 r} (h:spec_CeilDiv u p0 p1=some r):CallOK Tryz.prog 96 [V.i p0,V.i p1] (V.i r) []:=by
 unfold spec_CeilDiv at h
 refine ofb Tryz.f96 false ?_
 refine Wp.sa ?_
 refine Wp.seq ?_
 refine Wp.j3 (fun p0 p1 x3=>spec_CeilDiv_j1 u p0 p1 x3=some r) (fun p0 p1 x3=>⟨[(0,.i p0),(1,.i p1),(4,.i 0),(12,.b x3)],[],[]⟩) (fun p0 p1 x3 h=>?_) ?_
 ·refine Wp.c2 h (fun h=>?_) (fun h=>?_)
  ·refine Wp.sa ?_
   obtain rfl:=oi h
   exact Wp.ret RetB
  refine Wp.sk ?_
  refine Wp.sr ?_
  refine Runs.batch 5 kr ?_
  obtain ⟨_,e_4,h⟩:=bind_some h
  refine Runs.num .quo (.int .i64 (bSub .i64 (bAdd .i64 p0 p1) 1)) (.int .i64 p1) (.int .i64 (bQuo .i64 (bSub .i64 (bAdd .i64 p0 p1) 1) p1)) rfl kr kr kr kr (bin_quo _ _ _ _ (by simpa using chk_some e_4)) ?_
  refine Runs.alln ?_
  obtain rfl:=oi h
  exact Wp.ret RetB
 refine Wp.rg [] [] ?_
 refine Runs.cl false 1 6 [.i p0,.i 0,.i 1000000000000] h (fun _=>spec_l1In_ok) (fun r1 h=>?_)
 refine Runs.c2 2 8 h (fun h=>?_) (fun h=>?_)
 ·refine Runs.alln ?_
  exact ⟨_,_,_,h,lo []⟩
 refine Runs.cl false 1 10 [.i p1,.i 1,.i 1000000000000] h (fun _=>spec_l1In_ok) (fun r2 h=>?_)
 refine Runs.alln ?_
 exact ⟨_,_,_,h,lo []⟩
theorem spec_Blocks_ok {u p0 p1 r} (h:spec_Blocks u p0 p1=some r):CallOK Tryz.prog 52 [V.i p0,V.i p1] (V.i r) []:=by
 unfold spec_Blocks at h
 refine ofb Tryz.f52 false ?_
 refine Wp.sa ?_
 refine Wp.seq ?_
 refine Wp.cl false 2 7 [.i p0,.i p1] h (fun _=>spec_SizeOk_ok) (fun r1 h=>?_)
 refine Wp.c2 h (fun h=>?_) (fun h=>?_)
 ·refine Wp.sa ?_
  obtain rfl:=oi h
  exact Wp.ret RetB
 refine Wp.sk ?_
 refine Wp.cl false 2 11 [.i p1,.i p0] h (fun _=>spec_CeilDiv_ok) (fun r2 h=>?_)
 obtain rfl:=oi h
 exact Wp.ret RetB
theorem spec_Least_ok {u p0 p1 r} (h:spec_Least u p0 p1=some r):CallOK Tryz.prog 97 [V.i p0,V.i p1] (V.i r) []:=by
 unfold spec_Least at h
 refine ofb Tryz.f97 false ?_
 refine Wp.sa ?_
 refine Wp.seq ?_
 refine Wp.sa ?_
 refine Wp.c2 h (fun h=>?_) (fun h=>?_)
 ·refine Wp.sa ?_
  obtain rfl:=oi h
  exact Wp.ret RetB
 refine Wp.sk ?_
 refine Wp.sa ?_
 obtain rfl:=oi h
 exact Wp.ret RetB
theorem spec_SpanOf_ok {u p0 p1 p2 r} (h:spec_SpanOf u p0 p1 p2=some r):CallOK Tryz.prog 53 [V.i p0,V.i p1,V.i p2] (.tup [V.i r.1,V.i r.2]) []:=by
 unfold spec_SpanOf at h
 refine ofb Tryz.f53 false ?_
 refine Wp.sa ?_
 refine Wp.seq ?_
 refine Wp.sr ?_
 refine Runs.cl false 3 11 [.i p0,.i p1] h (fun _=>spec_Blocks_ok) (fun r1 h=>?_)
 refine Runs.cl false 1 13 [.i p2,.i 0,.i (bSub .i64 r1 1)] h (fun _=>spec_l1In_ok) (fun r2 h=>?_)
 refine Runs.alln ?_
 refine Wp.c2 h (fun h=>?_) (fun h=>?_)
 ·refine Wp.sa ?_
  obtain rfl:=oi h
  exact Wp.ret RetB
 refine Wp.sk ?_
 refine Wp.cl false 9 24 [.i p0,.i (bSub .i64 p1 (bMul .i64 p2 p0))] h (fun _=>spec_Least_ok) (fun r3 h=>?_)
 obtain rfl:=oi h
 exact Wp.ret RetB
theorem spec_BlockAt_okd {u p0 p1 p2 r} (h:spec_BlockAt u p0 p1 p2=some r):DOK Tryz.prog 54 [.one (.s p0),V.i p1,V.i p2] (.tup [.one (.ow 5 1 (r.1.map (eInt .u8))),V.b r.2]):=by
 unfold spec_BlockAt at h
 refine DOK.of_bodyK (fn:=Tryz.f54) (m:=true) kr rfl kr kr kr ?_
 refine Wp.sa ?_
 refine Wp.sr ?_
 refine Runs.batch 2 kr ?_
 refine Runs.lenX (e:=5) (eInt .u8) p0 false 1 rfl rfl rfl kr kr kr kr ?_
 refine Runs.cl false 1 15 [.i p1,.i ((p0.length:Int)),.i p2] h (fun _=>spec_SpanOf_ok) (fun r1 h=>?_)
 refine Runs.alln ?_
 refine Wp.seq ?_
 refine Wp.sa ?_
 refine Wp.c2 h (fun h=>?_) (fun h=>?_)
 ·refine Wp.sa ?_
  obtain rfl:=oi h
  exact Wp.ret RetB
 refine Wp.sk ?_
 refine Wp.sr ?_
 refine Runs.batch 6 kr ?_
 obtain ⟨_,e_2,h⟩:=bind_some h
 refine Runs.subslX (e:=5) (alo:=(some (.i r1.1))) (ahi:=(some (.i (bAdd .i64 r1.1 r1.2)))) false (eInt .u8) p0 1 r1.1 (bAdd .i64 r1.1 r1.2) rfl kr kr kr kr kr kr kr kr kr kr (chk_some e_2) ?_
 obtain ⟨_,e_3,h⟩:=bind_some h
 refine Runs.appT (y:=.ext false (.sl 1 (((p0.take (Int.toNat (bAdd .i64 r1.1 r1.2))).drop (Int.toNat r1.1)).map (eInt .u8)))) (eInt .u8) 28 1 5 1 1 1376256 (([]:List Int)) ((p0.take (Int.toNat (bAdd .i64 r1.1 r1.2))).drop (Int.toNat r1.1)) rfl rfl rfl rfl kr kr kr kr kr (rows_extI _ _ _) (.inl rfl) kr (of_decide_eq_true (chk_some e_3)) kr kr ?_
 refine Runs.alln ?_
 obtain rfl:=oi h
 exact Wp.ret RetB
theorem spec_WeakOf_ok {u p0 r} (h:spec_WeakOf u p0=some r):CallOK Tryz.prog 142 [.one (.s p0)] (V.i r) []:=by
 unfold spec_WeakOf at h
 refine ofb Tryz.f142 false ?_
 refine Wp.sa ?_
 refine Wp.sa ?_
 refine Wp.sa ?_
 refine Wp.j2 (fun x11 x12=>spec_WeakOf_j1 u x11 x12=some r) (fun x11 x12=>⟨[(2,.i 0),(3,.i x11),(4,.i x12)],[],[]⟩) (fun x11 x12 h=>?_) ?_
 ·refine Wp.sa ?_
  obtain rfl:=oi h
  exact Wp.ret RetB
 refine Wp.sa ?_
 refine Wp.block ?_
 refine Wp.l4 (fun k_spec_WeakOf_l2 p0 x4 x5 x6=>spec_WeakOf_l2 u k_spec_WeakOf_l2 p0 x4 x5 x6=some r) (fun p0 x4 x5 x6=>⟨[(0,.s p0),(2,.i 0),(3,.i x4),(4,.i x5),(5,.i x6)],[],[]⟩) (fun k_spec_WeakOf_l2 p0 x4 x5 x6 h=>?_) h (lo []) (fun _ _ _ _  h=>nomatch h)
 rw [spec_WeakOf_l2] at h
 refine Wp.seq ?_
 refine Wp.sr ?_
 refine Runs.ln 2 5 (eInt .u8) p0 ?_
 refine Runs.alln ?_
 refine Wp.c2 h (fun h=>?_) (fun h=>?_)
 ·refine Wp.sk ?_
  refine Wp.seq ?_
  refine Wp.block ?_
  refine Wp.sr ?_
  refine Runs.ix 3 5 1 (eInt .u8) h (fun y10 h _=>?_)
  refine Runs.alln ?_
  refine Wp.rg [] [] ?_
  refine Runs.all kr ?_
  refine blkN ?_
  refine thenN ?_
  refine Wp.rg [] [] ?_
  refine Runs.alln ?_
  exact ⟨_,_,_,_,h,lo []⟩
 refine Wp.exit ?_
 refine thenE ?_
 refine thenE ?_
 refine blkE ?_
 refine thenN ?_
 exact ⟨_,_,h,lo []⟩
theorem spec_SumOf_ok {u p0 r} (h:spec_SumOf u p0=some r):CallOK Tryz.prog 127 [.one (.s p0)] (V.g (Sum.enc r)) []:=by
 unfold spec_SumOf at h
 refine ofb Tryz.f127 false ?_
 refine Wp.sa ?_
 refine Wp.seq ?_
 refine Wp.sr ?_
 refine Runs.ln 1 5 (eInt .u8) p0 ?_
 refine Runs.alln ?_
 refine Wp.c2 h (fun h=>?_) (fun h=>?_)
 ·refine Wp.sa ?_
  obtain rfl:=oi h
  exact Wp.ret RetB
 refine Wp.sk ?_
 refine Wp.sa ?_
 refine Wp.j2 (fun p0 x8=>spec_SumOf_j1 u p0 x8=some r) (fun p0 x8=>⟨[(0,.s p0),(2,.obj 2 0),(3,.i x8)],[(2,[.i 0,.i 0])],[]⟩) (fun p0 x8 h=>?_) ?_
 ·refine Wp.cl false 1 24 [.s p0] h (fun _=>spec_WeakOf_ok) (fun r9 h=>?_)
  obtain rfl:=oi h
  exact Wp.ret RetB
 refine Wp.sa ?_
 refine Wp.block ?_
 refine Wp.l3 (fun k_spec_SumOf_l2 p0 x3 x4=>spec_SumOf_l2 u k_spec_SumOf_l2 p0 x3 x4=some r) (fun p0 x3 x4=>⟨[(0,.s p0),(2,.obj 2 0),(3,.i x3),(4,.i x4)],[(2,[.i 0,.i 0])],[]⟩) (fun k_spec_SumOf_l2 p0 x3 x4 h=>?_) h (lo []) (fun _ _ _  h=>nomatch h)
 rw [spec_SumOf_l2] at h
 refine Wp.seq ?_
 refine Wp.sr ?_
 refine Runs.ln 2 5 (eInt .u8) p0 ?_
 refine Runs.alln ?_
 refine Wp.c2 h (fun h=>?_) (fun h=>?_)
 ·refine Wp.sk ?_
  refine Wp.seq ?_
  refine Wp.block ?_
  refine Wp.rg [] [] ?_
  refine Runs.ix 4 5 1 (eInt .u8) h (fun y7 h _=>?_)
  refine Runs.all kr ?_
  refine blkN ?_
  refine thenN ?_
  refine Wp.rg [] [] ?_
  refine Runs.alln ?_
  exact ⟨_,_,_,h,lo []⟩
 refine Wp.exit ?_
 refine thenE ?_
 refine thenE ?_
 refine blkE ?_
 refine thenN ?_
 exact ⟨_,_,h,lo []⟩
theorem spec_SumsOf_okd {u p0 p1 r} (h:spec_SumsOf u p0 p1=some r):DOK Tryz.prog 108 [.one (.s p0),V.i p1] (.one (.ow 117 2 (r.map Sum.enc))):=by
 unfold spec_SumsOf at h
 refine DOK.of_bodyK (fn:=Tryz.f108) (m:=true) kr rfl kr kr kr ?_
 refine Wp.sa ?_
 refine Wp.sa ?_
 refine Wp.j1 (fun x10=>spec_SumsOf_j1 u x10=some r) (fun x10=>⟨[(4,.nil),(5,.own 327681)],[],[(327681,.live 117 2 (x10.map Sum.enc))]⟩) (fun x10 h=>?_) ?_
 ·refine Wp.sa ?_
  obtain rfl:=oi h
  exact Wp.ret RetB
 refine Wp.sa ?_
 refine Wp.block ?_
 refine Wp.l4 (fun k_spec_SumsOf_l2 p0 p1 x3 x4=>spec_SumsOf_l2 u k_spec_SumsOf_l2 p0 p1 x3 x4=some r) (fun p0 p1 x3 x4=>⟨[(0,.ext false (.sl 1 (p0.map (eInt .u8)))),(1,.i p1),(4,.nil),(5,.own 327681),(6,.i x4)],[],[(327681,.live 117 2 (x3.map Sum.enc))]⟩) (fun k_spec_SumsOf_l2 p0 p1 x3 x4 h=>?_) h (lo [(327681,589824)]) (fun _ _ _ _  h=>nomatch h)
 rw [spec_SumsOf_l2] at h
 refine Wp.seq ?_
 refine Wp.sr ?_
 refine Runs.batch 3 kr ?_
 refine Runs.lenX (e:=5) (eInt .u8) p0 false 1 rfl rfl rfl kr kr kr kr ?_
 refine Runs.cl false 0 14 [.i p1,.i ((p0.length:Int))] h (fun _=>spec_Blocks_ok) (fun r7 h=>?_)
 refine Runs.alln ?_
 refine Wp.c2 h (fun h=>?_) (fun h=>?_)
 ·refine Wp.sk ?_
  refine Wp.seq ?_
  refine Wp.block ?_
  refine Wp.sr ?_
  refine Runs.batch 3 kr ?_
  obtain ⟨r8,e_r8,h⟩:=bind_some h
  refine Runs.callDK 22 54 [] [.ext false (.sl 1 (p0.map (eInt .u8))),.i p1,.i x4] [.one (.s p0),.one (.i p1),.one (.i x4)] (.tup [.one (.ow 5 1 (r8.1.map (eInt .u8))),V.b r8.2]) rfl rfl kr kr kr kr kr (spec_BlockAt_okd e_r8) kr ?_
  refine Runs.alln ?_
  refine Wp.rg [] [] ?_
  refine Runs.cb 2 27 [.own 1441792] h (fun _=>spec_SumOf_ok) (fun r9 h=>?_)
  refine Runs.ap (ys:=[r9]) 1 29 117 2 327681 Sum.enc h (fun h=>?_)
  refine Runs.all kr ?_
  refine blkN ?_
  refine thenN ?_
  refine Wp.rg [] [] ?_
  refine Runs.alln ?_
  exact ⟨_,_,_,_,h,lo [(327681,1900544)]⟩
 refine Wp.exit ?_
 refine thenE ?_
 refine thenE ?_
 refine blkE ?_
 refine thenN ?_
 exact ⟨_,h,lo []⟩
theorem spec_ManOf_okd {u p0 p1 p2 r} (h:spec_ManOf u p0 p1 p2=some r):DOK Tryz.prog 98 [V.i p0,.one (.s p1),V.i p2] (V.w [0,0,0,117] (Manifest.enc r)):=by
 unfold spec_ManOf at h
 refine DOK.of_bodyK (fn:=Tryz.f98) (m:=true) kr rfl kr kr kr ?_
 refine Wp.sa ?_
 refine Wp.seq ?_
 refine Wp.j4 (fun p0 p1 p2 x3=>spec_ManOf_j1 u p0 p1 p2 x3=some r) (fun p0 p1 p2 x3=>⟨[(0,.i p0),(1,.ext false (.sl 1 (p1.map (eInt .u8)))),(2,.i p2),(6,.obj 6 0),(16,.b x3)],[(6,[.i 0,.i 0,.i 0,.nil])],[]⟩) (fun p0 p1 p2 x3 h=>?_) ?_
 ·refine Wp.c2 h (fun h=>?_) (fun h=>?_)
  ·refine Wp.sa ?_
   obtain rfl:=oi h
   exact Wp.ret RetB
  refine Wp.sk ?_
  refine Wp.sr ?_
  refine Runs.batch 3 kr ?_
  refine Runs.lenX (e:=5) (eInt .u8) p1 false 1 rfl rfl rfl kr kr kr kr ?_
  refine Runs.batch 2 kr ?_
  obtain ⟨r4,e_r4,h⟩:=bind_some h
  refine Runs.callDK 24 108 [] [.ext false (.sl 1 (p1.map (eInt .u8))),.i p2] [.one (.s p1),.one (.i p2)] (.one (.ow 117 2 (r4.map Sum.enc))) rfl rfl kr kr kr kr kr (spec_SumsOf_okd e_r4) kr ?_
  refine Runs.alln ?_
  obtain rfl:=oi h
  exact Wp.ret RetB
 refine Wp.rg [] [] ?_
 refine Runs.cl false 1 8 [.i p0,.i 1,.i 1000000] h (fun _=>spec_l1In_ok) (fun r1 h=>?_)
 refine Runs.c2 2 10 h (fun h=>?_) (fun h=>?_)
 ·refine Runs.alln ?_
  exact ⟨_,_,_,_,h,lo []⟩
 refine Runs.batch 2 kr ?_
 refine Runs.lenX (e:=5) (eInt .u8) p1 false 1 rfl rfl rfl kr kr kr kr ?_
 refine Runs.cl false 0 14 [.i p2,.i ((p1.length:Int))] h (fun _=>spec_SizeOk_ok) (fun r2 h=>?_)
 refine Runs.alln ?_
 exact ⟨_,_,_,_,h,lo []⟩
theorem spec_l6Draw_ok {u p0 r} (h:spec_l6Draw u p0=some r):CallOK Tryz.prog 56 [.ptr (cw [0,0,0] (l1Cur.enc p0))] (.tup [V.w [0,0,0,117] (Manifest.enc r.1),.one (.ow 5 1 (r.2.1.map (eInt .u8)))]) [cw [0,0,0] (l1Cur.enc r.2.2)]:=by
 unfold spec_l6Draw at h
 refine ofb Tryz.f56 true ?_
 refine Wp.sa ?_
 refine Wp.cl false 1 6 [.obj 900 0] h (fun _=>spec_l6Image_ok) (fun r1 h=>?_)
 refine Wp.sr ?_
 refine Runs.cl false 1 8 [.obj 900 0,.i 5] h (fun _=>spec_l1Below_ok) (fun r2 h=>?_)
 refine Runs.cl false 3 12 [.obj 900 0,.i 5] h (fun _=>spec_l1Below_ok) (fun r3 h=>?_)
 refine Runs.batch 1 kr ?_
 obtain ⟨r4,e_r4,h⟩:=bind_some h
 refine Runs.callDK 14 98 [] [.i (bAdd .i64 1 r2.1),.own 393216,.i (bAdd .i64 2 r3.1)] [.one (.i (bAdd .i64 1 r2.1)),.one (.s r1.1),.one (.i (bAdd .i64 2 r3.1))] (V.w [0,0,0,117] (Manifest.enc r4)) rfl rfl kr kr kr kr kr (spec_ManOf_okd e_r4) kr ?_
 refine Runs.alln ?_
 obtain rfl:=oi h
 exact Wp.ret RetB
theorem spec_l1Bent_okx {u p0 p1 r} (h:spec_l1Bent u p0 p1=some r):XOK Tryz.prog 110 [.ptr (cw [0,0,0] (l1Cur.enc p0))] [.one (.s p1)] (.one (.s r.1)) [cw [0,0,0] (l1Cur.enc r.2)]:=by
 unfold spec_l1Bent at h
 refine obx Tryz.f110 false ?_
 refine Wp.sa ?_
 refine Wp.sr ?_
 refine Runs.batch 2 kr ?_
 obtain ⟨_,e_1,h⟩:=bind_some h
 refine Runs.appT (y:=.ext false (.sl 1 (p1.map (eInt .u8)))) (eInt .u8) 9 1 5 1 1 458752 (([]:List Int)) p1 rfl rfl rfl rfl kr kr kr kr kr (rows_extI _ _ _) (.inl rfl) kr (of_decide_eq_true (chk_some e_1)) kr kr ?_
 refine Runs.alln ?_
 refine Wp.j4 (fun x15 x16 x17 x18=>spec_l1Bent_j1 u x15 x16 x17 x18=some r) (fun x15 x16 x17 x18=>⟨[(4,.nil),(5,.s x15)],[(900,[.s x16,.i x17,.i x18])],[]⟩) (fun x15 x16 x17 x18 h=>?_) ?_
 ·refine Wp.sa ?_
  obtain rfl:=oi h
  exact Wp.ret RetB
 refine Wp.cl false 1 11 [.obj 900 0,.i 6] h (fun _=>spec_l1Below_ok) (fun r2 h=>?_)
 refine Wp.block ?_
 refine Wp.sa ?_
 refine Wp.c2 h (fun h=>?_) (fun h=>?_)
 ·refine Wp.sr ?_
  refine Runs.ln 1 5 (eInt .u8) ((([]:List Int))++p1) ?_
  refine Runs.alln ?_
  refine Wp.c2 h (fun h=>?_) (fun h=>?_)
  ·refine Wp.rg [] [] ?_
   refine Runs.ln 3 5 (eInt .u8) ((([]:List Int))++p1) ?_
   refine Runs.cl false 0 21 [.obj 900 0,.i ((((([]:List Int))++p1).length:Int))] h (fun _=>spec_l1Below_ok) (fun r3 h=>?_)
   refine Runs.cl false 1 23 [.obj 900 0,.i 256] h (fun _=>spec_l1Below_ok) (fun r4 h=>?_)
   refine Runs.ixo 1 5 1 589824 5 (eInt .u8) h (fun y5 h e_y5=>?_)
   refine Runs.storeT (e:=5) (sz:=1) (m:=1) (eInt .u8) ((([]:List Int))++p1) 589824 (Int.toNat r3.1) 0 (IntKind.wrap .u8 r4.1) (.t (.int .u8 (IntKind.wrap .u8 r4.1))) [.int .u8 (IntKind.wrap .u8 r4.1)] rfl kr kr kr kr kr kr kr kr ((idx_some e_y5).2) kr kr ?_
   refine Runs.all kr ?_
   refine blkN ?_
   refine thenN ?_
   exact ⟨_,_,_,_,h,Le.trans (Le.frz 5 589824 5 1 ((((([]:List Int))++p1).set (Int.toNat r3.1) (IntKind.wrap .u8 r4.1)).map (eInt .u8)) kr kr kr) (lo [])⟩
  refine Wp.skip ?_
  refine blkN ?_
  refine thenN ?_
  exact ⟨_,_,_,_,h,Le.trans (Le.frz 5 589824 5 1 (((([]:List Int))++p1).map (eInt .u8)) kr kr kr) (lo [])⟩
 refine Wp.sa ?_
 refine Wp.c2 h (fun h=>?_) (fun h=>?_)
 ·refine Wp.rg [] [] ?_
  refine Runs.ln 3 5 (eInt .u8) ((([]:List Int))++p1) ?_
  refine Runs.cl false 1 33 [.obj 900 0,.i (bAdd .i64 ((((([]:List Int))++p1).length:Int)) 1)] h (fun _=>spec_l1Below_ok) (fun r6 h=>?_)
  obtain ⟨_,e_7,h⟩:=bind_some h
  refine Runs.subsl (e:=5) (ax:=.own 589824) (alo:=none) (ahi:=(some (.i r6.1))) (eInt .u8) ((([]:List Int))++p1) 1 0 r6.1 rfl kr kr kr kr kr kr kr kr kr kr kr (chk_some e_7) ?_
  refine Runs.all kr ?_
  refine blkN ?_
  refine thenN ?_
  exact ⟨_,_,_,_,h,lo []⟩
 refine Wp.sa ?_
 refine Wp.c2 h (fun h=>?_) (fun h=>?_)
 ·refine Wp.rg [] [] ?_
  refine Runs.cx false 3 40 [.obj 900 0] [.own 2555904] h (fun _=>spec_l1Int_okx) (fun r8 h=>?_)
  refine Runs.ap 2 43 5 1 589824 (eInt .u8) h (fun h=>?_)
  refine Runs.all kr ?_
  refine blkN ?_
  refine thenN ?_
  exact ⟨_,_,_,_,h,Le.trans (Le.frz 5 2818048 5 1 ((((([]:List Int))++p1)++(([IntKind.wrap .u8 r8.1]:List Int))).map (eInt .u8)) kr kr kr) (lo [])⟩
 refine Wp.sa ?_
 refine Wp.c2 h (fun h=>?_) (fun h=>?_)
 ·refine Wp.sr ?_
  refine Runs.ln 1 5 (eInt .u8) ((([]:List Int))++p1) ?_
  refine Runs.alln ?_
  refine Wp.c2 h (fun h=>?_) (fun h=>?_)
  ·refine Wp.sr ?_
   refine Runs.ln 2 5 (eInt .u8) ((([]:List Int))++p1) ?_
   refine Runs.cl false 0 52 [.obj 900 0,.i ((((([]:List Int))++p1).length:Int))] h (fun _=>spec_l1Below_ok) (fun r10 h=>?_)
   refine Runs.alln ?_
   refine Wp.regionA (pOf [900]) (rhoOf [(0,.obj 900),(5,.own 9),(6,.frz),(53,.own 9),(54,.frz),(55,.own 9),(56,.frz),(57,.el 9),(58,.frz),(59,.obj 900),(60,.frz),(61,.frz),(62,.frz),(63,.el 9)]) kr kr ?_
   refine Runs.ixo 4 5 1 589824 5 (eInt .u8) h (fun y11 h e_y11=>?_)
   refine Runs.ld 0 1 1 589824 0 5 false (eInt .u8) ((idx_some e_y11).2) ?_
   refine Runs.cl false 1 60 [.obj 900 0,.i 8] h (fun _=>spec_l1Below_ok) (fun r12 h=>?_)
   obtain ⟨_,e_13,h⟩:=bind_some h
   refine Runs.num .shl (.int .u8 1) (.int .i64 r12.1) (.int .u8 (bShl .u8 1 r12.1)) rfl kr kr kr kr (bin_shl _ _ _ _ _ (chk_some e_13)) ?_
   refine Runs.ixo 1 5 1 589824 5 (eInt .u8) h (fun y14 h e_y14=>?_)
   refine Runs.storeT (e:=5) (sz:=1) (m:=1) (eInt .u8) ((([]:List Int))++p1) 589824 (Int.toNat r10.1) 0 (bXor .u8 y11 (bShl .u8 1 r12.1)) (.t (.int .u8 (bXor .u8 y11 (bShl .u8 1 r12.1)))) [.int .u8 (bXor .u8 y11 (bShl .u8 1 r12.1))] rfl kr kr kr kr kr kr kr kr ((idx_some e_y14).2) kr kr ?_
   refine Runs.all kr ?_
   refine blkN ?_
   refine thenN ?_
   exact ⟨_,_,_,_,h,Le.trans (Le.frz 5 589824 5 1 ((((([]:List Int))++p1).set (Int.toNat r10.1) (bXor .u8 y11 (bShl .u8 1 r12.1))).map (eInt .u8)) kr kr kr) (lo [])⟩
  refine Wp.skip ?_
  refine blkN ?_
  refine thenN ?_
  exact ⟨_,_,_,_,h,Le.trans (Le.frz 5 589824 5 1 (((([]:List Int))++p1).map (eInt .u8)) kr kr kr) (lo [])⟩
 refine Wp.skip ?_
 refine blkN ?_
 refine thenN ?_
 exact ⟨_,_,_,_,h,Le.trans (Le.frz 5 589824 5 1 (((([]:List Int))++p1).map (eInt .u8)) kr kr kr) (lo [])⟩
theorem spec_l7Old_okx {u p0 p1 r} (h:spec_l7Old u p0 p1=some r):XOK Tryz.prog 68 [.ptr (cw [0,0,0] (l1Cur.enc p0))] [.one (.s p1)] (.one (.ow 5 1 (r.1.map (eInt .u8)))) [cw [0,0,0] (l1Cur.enc r.2)]:=by
 unfold spec_l7Old at h
 refine obx Tryz.f68 true ?_
 refine Wp.sa ?_
 refine Wp.seq ?_
 refine Wp.cl false 1 7 [.obj 900 0,.i 5] h (fun _=>spec_l1Below_ok) (fun r1 h=>?_)
 refine Wp.block ?_
 refine Wp.sa ?_
 refine Wp.c2 h (fun h=>?_) (fun h=>?_)
 ·refine Wp.cl false 1 11 [.obj 900 0,.i 16] h (fun _=>spec_l3Bytes_ok) (fun r2 h=>?_)
  obtain rfl:=oi h
  exact Wp.ret RetB
 refine Wp.sa ?_
 refine Wp.c2 h (fun h=>?_) (fun h=>?_)
 ·refine Wp.sr ?_
  refine Runs.batch 2 kr ?_
  obtain ⟨_,e_3,h⟩:=bind_some h
  refine Runs.appT (y:=.ext false (.sl 1 (p1.map (eInt .u8)))) (eInt .u8) 16 1 5 1 1 917504 (([]:List Int)) p1 rfl rfl rfl rfl kr kr kr kr kr (rows_extI _ _ _) (.inl rfl) kr (of_decide_eq_true (chk_some e_3)) kr kr ?_
  refine Runs.alln ?_
  obtain rfl:=oi h
  exact Wp.ret RetB
 refine Wp.sa ?_
 refine Wp.c2 h (fun h=>?_) (fun h=>?_)
 ·refine Wp.sr ?_
  refine Runs.batch 2 kr ?_
  refine Runs.lenX (e:=5) (eInt .u8) p1 false 1 rfl rfl rfl kr kr kr kr ?_
  refine Runs.cl false 1 23 [.obj 900 0,.i (bAdd .i64 ((p1.length:Int)) 1)] h (fun _=>spec_l1Below_ok) (fun r4 h=>?_)
  refine Runs.alln ?_
  refine Wp.seq ?_
  refine Wp.regionA (pOf []) (rhoOf [(1,.frz),(5,.frz),(24,.own 24),(25,.frz),(26,.frz),(27,.frz),(28,.own 28),(29,.frz),(30,.frz),(31,.frz),(32,.own 32)]) kr kr ?_
  refine Runs.batch 3 kr ?_
  obtain ⟨_,e_5,h⟩:=bind_some h
  refine Runs.subslX (e:=5) (alo:=(some (.i r4.1))) (ahi:=none) false (eInt .u8) p1 1 r4.1 ((p1.length:Int)) rfl kr kr kr kr kr kr kr kr kr kr (chk_some e_5) ?_
  obtain ⟨_,e_6,h⟩:=bind_some h
  refine Runs.appT (y:=.ext false (.sl 1 (((p1.take (Int.toNat ((p1.length:Int)))).drop (Int.toNat r4.1)).map (eInt .u8)))) (eInt .u8) 28 1 5 1 1 1572864 (([120]:List Int)) ((p1.take (Int.toNat ((p1.length:Int)))).drop (Int.toNat r4.1)) rfl rfl rfl rfl kr kr kr kr kr (rows_extI _ _ _) (.inl rfl) kr (of_decide_eq_true (chk_some e_6)) kr kr ?_
  refine Runs.batch 2 kr ?_
  obtain ⟨_,e_7,h⟩:=bind_some h
  refine Runs.subslX (e:=5) (alo:=none) (ahi:=(some (.i r4.1))) false (eInt .u8) p1 1 0 r4.1 rfl kr kr kr kr kr kr kr kr kr kr (chk_some e_7) ?_
  obtain ⟨_,e_8,h⟩:=bind_some h
  refine Runs.appT (y:=.ext false (.sl 1 (((p1.take (Int.toNat r4.1)).drop (Int.toNat 0)).map (eInt .u8)))) (eInt .u8) 32 1 5 1 1 1835008 ((([120]:List Int))++((p1.take (Int.toNat ((p1.length:Int)))).drop (Int.toNat r4.1))) ((p1.take (Int.toNat r4.1)).drop (Int.toNat 0)) rfl rfl rfl rfl kr kr kr kr kr (rows_extI _ _ _) (.inl rfl) kr (of_decide_eq_true (chk_some e_8)) kr kr ?_
  refine Runs.alln ?_
  obtain rfl:=oi h
  exact Wp.ret RetB
 refine Wp.sa ?_
 refine Wp.c2 h (fun h=>?_) (fun h=>?_)
 ·refine Wp.sa ?_
  obtain rfl:=oi h
  exact Wp.ret RetB
 refine Wp.skip ?_
 refine blkN ?_
 refine thenN ?_
 refine Wp.sr ?_
 refine Runs.cl false 1 37 [.obj 900 0,.i 3] h (fun _=>spec_l3Bytes_ok) (fun r9 h=>?_)
 refine Runs.cx false 2 40 [.obj 900 0] [.ext false (.sl 1 (p1.map (eInt .u8)))] h (fun _=>spec_l1Bent_okx) (fun r10 h=>?_)
 refine Runs.ap 0 41 5 1 2424832 (eInt .u8) h (fun h=>?_)
 refine Runs.alln ?_
 obtain rfl:=oi h
 exact Wp.ret RetB
theorem spec_DiskNew_okd {u p0 p1 r} (h:spec_DiskNew u p0 p1=some r):DOK Tryz.prog 41 [V.i p0,.one (.s p1)] (V.w [5,5,0,0,0,85] (Disk.enc r)):=by
 unfold spec_DiskNew at h
 refine DOK.of_bodyK (fn:=Tryz.f41) (m:=true) kr rfl kr kr kr ?_
 refine Wp.sa ?_
 refine Wp.seq ?_
 refine Wp.j3 (fun p0 p1 x2=>spec_DiskNew_j1 u p0 p1 x2=some r) (fun p0 p1 x2=>⟨[(0,.i p0),(1,.ext false (.sl 1 (p1.map (eInt .u8)))),(4,.obj 4 0),(12,.b x2)],[(4,[.nil,.nil,.i 0,.i 0,.i 0,.nil])],[]⟩) (fun p0 p1 x2 h=>?_) ?_
 ·refine Wp.c2 h (fun h=>?_) (fun h=>?_)
  ·refine Wp.sa ?_
   obtain rfl:=oi h
   exact Wp.ret RetB
  refine Wp.sk ?_
  refine Wp.sr ?_
  refine Runs.batch 2 kr ?_
  obtain ⟨_,e_3,h⟩:=bind_some h
  refine Runs.appT (y:=.ext false (.sl 1 (p1.map (eInt .u8)))) (eInt .u8) 16 1 5 1 1 917504 (([]:List Int)) p1 rfl rfl rfl rfl kr kr kr kr kr (rows_extI _ _ _) (.inl rfl) kr (of_decide_eq_true (chk_some e_3)) kr kr ?_
  refine Runs.batch 2 kr ?_
  refine Runs.lenX (e:=5) (eInt .u8) p1 false 1 rfl rfl rfl kr kr kr kr ?_
  refine Runs.alln ?_
  obtain rfl:=oi h
  exact Wp.ret RetB
 refine Wp.rg [] [] ?_
 refine Runs.cl false 1 6 [.i p0,.i 0,.i 1000000] h (fun _=>spec_l1In_ok) (fun r1 h=>?_)
 refine Runs.c2 2 8 h (fun h=>?_) (fun h=>?_)
 ·refine Runs.alln ?_
  exact ⟨_,_,_,h,lo []⟩
 refine Runs.batch 1 kr ?_
 refine Runs.lenX (e:=5) (eInt .u8) p1 false 1 rfl rfl rfl kr kr kr kr ?_
 refine Runs.alln ?_
 exact ⟨_,_,_,h,lo []⟩
theorem spec_BytesOf_ok {u p0 r} (h:spec_BytesOf u p0=some r):CallOK Tryz.prog 132 [V.i p0] (.tup [.one (.ow 5 1 (r.1.map (eInt .u8))),V.b r.2]) []:=by
 unfold spec_BytesOf at h
 refine ofb Tryz.f132 true ?_
 refine Wp.sa ?_
 refine Wp.seq ?_
 refine Wp.cl false 1 6 [.i p0,.i 1,.i 562949953421311] h (fun _=>spec_l1In_ok) (fun r1 h=>?_)
 refine Wp.c2 h (fun h=>?_) (fun h=>?_)
 ·refine Wp.sa ?_
  obtain rfl:=oi h
  exact Wp.ret RetB
 refine Wp.sk ?_
 refine Wp.sa ?_
 refine Wp.j1 (fun x8=>spec_BytesOf_j1 u x8=some r) (fun x8=>⟨[(2,.nil),(3,.b false),(4,.own 262145)],[],[(262145,.live 5 1 (x8.map (eInt .u8)))]⟩) (fun x8 h=>?_) ?_
 ·refine Wp.sa ?_
  obtain rfl:=oi h
  exact Wp.ret RetB
 refine Wp.block ?_
 refine Wp.l2 (fun k_spec_BytesOf_l2 x4 x5=>spec_BytesOf_l2 u k_spec_BytesOf_l2 x4 x5=some r) (fun x4 x5=>⟨[(0,.i x4),(2,.nil),(3,.b false),(4,.own 262145)],[],[(262145,.live 5 1 (x5.map (eInt .u8)))]⟩) (fun k_spec_BytesOf_l2 x4 x5 h=>?_) h (lo [(262145,589824)]) (fun _ _  h=>nomatch h)
 rw [spec_BytesOf_l2] at h
 refine Wp.seq ?_
 refine Wp.sa ?_
 refine Wp.c2 h (fun h=>?_) (fun h=>?_)
 ·refine Wp.sk ?_
  refine Wp.block ?_
  refine Wp.seq ?_
  refine Wp.sa ?_
  refine Wp.c2 h (fun h=>?_) (fun h=>?_)
  ·refine Wp.sa ?_
   obtain rfl:=oi h
   exact Wp.ret RetB
  refine Wp.sk ?_
  refine Wp.sr ?_
  refine Runs.ap 5 20 5 1 1179648 (eInt .u8) h (fun h=>?_)
  refine Runs.alln ?_
  refine Wp.rg [] [] ?_
  refine Runs.all kr ?_
  refine blkN ?_
  refine thenN ?_
  exact ⟨_,_,h,lo [(262145,1310720)]⟩
 refine Wp.exit ?_
 refine thenE ?_
 refine thenE ?_
 refine blkE ?_
 refine thenN ?_
 exact ⟨_,h,lo []⟩
theorem spec_ManOk_ok {u p0 r} (h:spec_ManOk u p0=some r):CallOK Tryz.prog 100 [V.g (Manifest.enc p0)] (V.b r) []:=by
 unfold spec_ManOk at h
 refine ofb Tryz.f100 false ?_
 refine Wp.sa ?_
 refine Wp.seq ?_
 refine Wp.sa ?_
 refine Wp.c2 h (fun h=>?_) (fun h=>?_)
 ·refine Wp.sr ?_
  refine Runs.c2 4 14 h (fun h=>?_) (fun h=>?_)
  ·refine Runs.c2 5 19 h (fun h=>?_) (fun h=>?_)
   ·refine Runs.ln 2 117 Sum.enc p0.fSums ?_
    refine Runs.alln ?_
    obtain rfl:=oi h
    exact Wp.ret RetB
   refine Runs.alln ?_
   obtain rfl:=oi h
   exact Wp.ret RetB
  refine Runs.alln ?_
  obtain rfl:=oi h
  exact Wp.ret RetB
 refine Wp.sk ?_
 refine Wp.seq ?_
 refine Wp.j2 (fun x4 p0=>spec_ManOk_j1 u x4 p0=some r) (fun x4 p0=>⟨[(1,.obj 1 0),(2,.b false),(47,.b x4)],[(1,((Manifest.enc p0).map .t))],[]⟩) (fun x4 p0 h=>?_) ?_
 ·refine Wp.c2 h (fun h=>?_) (fun h=>?_)
  ·refine Wp.sa ?_
   obtain rfl:=oi h
   exact Wp.ret RetB
  refine Wp.sk ?_
  refine Wp.j0 (spec_ManOk_j2 u=some r) ⟨[(2,.b false)],[],[]⟩ (fun h=>?_) ?_
  ·refine Wp.sa ?_
   obtain rfl:=oi h
   exact Wp.ret RetB
  refine Wp.sa ?_
  refine Wp.block ?_
  refine Wp.l2 (fun k_spec_ManOk_l3 x6 p0=>spec_ManOk_l3 u k_spec_ManOk_l3 x6 p0=some r) (fun x6 p0=>⟨[(1,.obj 1 0),(2,.b false),(3,.i x6)],[(1,((Manifest.enc p0).map .t))],[]⟩) (fun k_spec_ManOk_l3 x6 p0 h=>?_) h (lo []) (fun _ _  h=>nomatch h)
  rw [spec_ManOk_l3] at h
  refine Wp.seq ?_
  refine Wp.sr ?_
  refine Runs.ln 3 117 Sum.enc p0.fSums ?_
  refine Runs.alln ?_
  refine Wp.c2 h (fun h=>?_) (fun h=>?_)
  ·refine Wp.sk ?_
   refine Wp.seq ?_
   refine Wp.block ?_
   refine Wp.sr ?_
   refine Runs.ix 3 117 2 Sum.enc h (fun y8 h _=>?_)
   refine Runs.cl false 2 62 [.i y8.fS] h (fun _=>spec_BytesOf_ok) (fun r9 h=>?_)
   refine Runs.alln ?_
   refine Wp.cl false 5 71 [.i p0.fSize,.i p0.fLen,.i x6] h (fun _=>spec_SpanOf_ok) (fun r10 h=>?_)
   refine Wp.j3 (fun x6 x13 p0=>spec_ManOk_j4 u (fun z0 z1=>spec_ManOk_l3 u k_spec_ManOk_l3 z0 z1) x6 x13 p0=some r) (fun x6 x13 p0=>⟨[(1,.obj 1 0),(2,.b false),(3,.i x6),(91,.b x13)],[(1,((Manifest.enc p0).map .t))],[]⟩) (fun x6 x13 p0 h=>?_) ?_
   ·refine Wp.c2 h (fun h=>?_) (fun h=>?_)
    ·refine Wp.sa ?_
     obtain rfl:=oi h
     exact Wp.ret RetB
    refine Wp.skip ?_
    refine blkN ?_
    refine thenN ?_
    refine Wp.rg [] [] ?_
    refine Runs.alln ?_
    exact ⟨_,_,h,lo []⟩
   refine Wp.regionA (pOf []) (rhoOf [(1,.obj 1),(3,.frz),(4,.own 62),(5,.frz),(7,.frz),(74,.frz),(75,.frz),(76,.frz),(77,.own 62),(78,.frz),(79,.frz),(81,.frz),(82,.frz),(83,.own 62),(84,.frz),(85,.obj 1),(86,.frz),(87,.frz),(88,.frz),(89,.frz)]) kr kr ?_
   refine Runs.c2 3 76 h (fun h=>?_) (fun h=>?_)
   ·refine Runs.alln ?_
    exact ⟨_,_,_,h,lo []⟩
   refine Runs.ln 1 5 (eInt .u8) r9.1 ?_
   refine Runs.c2 4 82 h (fun h=>?_) (fun h=>?_)
   ·refine Runs.alln ?_
    exact ⟨_,_,_,h,lo []⟩
   refine Runs.cb 1 84 [.own 4063232] h (fun _=>spec_SumOf_ok) (fun r11 h=>?_)
   refine Runs.ix 3 117 2 Sum.enc h (fun y12 h _=>?_)
   refine Runs.alln ?_
   exact ⟨_,_,_,h,lo []⟩
  refine Wp.exit ?_
  refine thenE ?_
  refine thenE ?_
  refine blkE ?_
  refine thenN ?_
  exact ⟨h,lo []⟩
 refine Wp.regionA (pOf []) (rhoOf [(1,.obj 1),(25,.obj 1),(26,.frz),(27,.frz),(28,.frz),(29,.frz),(30,.obj 1),(31,.frz),(32,.obj 1),(33,.frz),(34,.frz),(36,.frz),(37,.frz),(38,.obj 1),(39,.frz),(40,.frz),(41,.obj 1),(42,.frz),(43,.obj 1),(44,.frz),(45,.frz)]) kr kr ?_
 refine Runs.cl false 2 27 [.i p0.fGen,.i 1,.i 1000000] h (fun _=>spec_l1In_ok) (fun r1 h=>?_)
 refine Runs.c2 2 29 h (fun h=>?_) (fun h=>?_)
 ·refine Runs.alln ?_
  exact ⟨_,_,h,lo []⟩
 refine Runs.cl false 4 34 [.i p0.fSize,.i p0.fLen] h (fun _=>spec_SizeOk_ok) (fun r2 h=>?_)
 refine Runs.c2 3 37 h (fun h=>?_) (fun h=>?_)
 ·refine Runs.alln ?_
  exact ⟨_,_,h,lo []⟩
 refine Runs.ln 2 117 Sum.enc p0.fSums ?_
 refine Runs.cl false 4 45 [.i p0.fSize,.i p0.fLen] h (fun _=>spec_Blocks_ok) (fun r3 h=>?_)
 refine Runs.alln ?_
 exact ⟨_,_,h,lo []⟩
theorem spec_l3Ok_ok {u p0 r} (h:spec_l3Ok u p0=some r):CallOK Tryz.prog 147 [V.i p0] (V.b r) []:=by
 unfold spec_l3Ok at h
 refine ofb Tryz.f147 false ?_
 refine Wp.sa ?_
 refine Wp.cl false 1 4 [.i p0,.i 0,.i 63000] h (fun _=>spec_l1In_ok) (fun r1 h=>?_)
 obtain rfl:=oi h
 exact Wp.ret RetB
theorem spec_WeakHalves_ok {u p0 r} (h:spec_WeakHalves u p0=some r):CallOK Tryz.prog 148 [V.i p0] (.tup [V.i r.1,V.i r.2]) []:=by
 unfold spec_WeakHalves at h
 refine ofb Tryz.f148 false ?_
 refine Wp.sa ?_
 refine Wp.seq ?_
 refine Wp.cl false 1 5 [.i p0] h (fun _=>spec_l3Ok_ok) (fun r1 h=>?_)
 refine Wp.c2 h (fun h=>?_) (fun h=>?_)
 ·refine Wp.sa ?_
  obtain rfl:=oi h
  exact Wp.ret RetB
 refine Wp.sk ?_
 refine Wp.sa ?_
 obtain rfl:=oi h
 exact Wp.ret RetB
theorem spec_Wrap_ok {u p0 p1 r} (h:spec_Wrap u p0 p1=some r):CallOK Tryz.prog 149 [V.i p0,V.i p1] (V.i r) []:=by
 unfold spec_Wrap at h
 refine ofb Tryz.f149 false ?_
 refine Wp.sa ?_
 refine Wp.seq ?_
 refine Wp.cl false 1 6 [.i p1,.i 1,.i 1000000000000] h (fun _=>spec_l1In_ok) (fun r1 h=>?_)
 refine Wp.c2 h (fun h=>?_) (fun h=>?_)
 ·refine Wp.sa ?_
  obtain rfl:=oi h
  exact Wp.ret RetB
 refine Wp.sk ?_
 refine Wp.sr ?_
 refine Runs.batch 2 kr ?_
 obtain ⟨_,e_2,h⟩:=bind_some h
 refine Runs.num .rem (.int .i64 p0) (.int .i64 p1) (.int .i64 (bRem .i64 p0 p1)) rfl kr kr kr kr (bin_rem _ _ _ _ (by simpa using chk_some e_2)) ?_
 refine Runs.batch 3 kr ?_
 obtain ⟨_,e_3,h⟩:=bind_some h
 refine Runs.num .rem (.int .i64 (bAdd .i64 (bRem .i64 p0 p1) p1)) (.int .i64 p1) (.int .i64 (bRem .i64 (bAdd .i64 (bRem .i64 p0 p1) p1) p1)) rfl kr kr kr kr (bin_rem _ _ _ _ (by simpa using chk_some e_3)) ?_
 refine Runs.alln ?_
 obtain rfl:=oi h
 exact Wp.ret RetB
theorem spec_Roll_ok {u p0 p1 p2 p3 r} (h:spec_Roll u p0 p1 p2 p3=some r):CallOK Tryz.prog 145 [V.i p0,V.i p1,V.i p2,V.i p3] (V.i r) []:=by
 unfold spec_Roll at h
 refine ofb Tryz.f145 false ?_
 refine Wp.sa ?_
 refine Wp.seq ?_
 refine Wp.j5 (fun p0 p1 p2 p3 x5=>spec_Roll_j1 u p0 p1 p2 p3 x5=some r) (fun p0 p1 p2 p3 x5=>⟨[(0,.i p0),(1,.i p1),(2,.i p2),(3,.i p3),(8,.i 0),(28,.b x5)],[],[]⟩) (fun p0 p1 p2 p3 x5 h=>?_) ?_
 ·refine Wp.c2 h (fun h=>?_) (fun h=>?_)
  ·refine Wp.sa ?_
   obtain rfl:=oi h
   exact Wp.ret RetB
  refine Wp.sk ?_
  refine Wp.cl false 1 32 [.i p0] h (fun _=>spec_WeakHalves_ok) (fun r6 h=>?_)
  refine Wp.cl false 6 41 [.i (bSub .i64 r6.2 (bMul .i64 (bRem .i64 p1 251) p2)),.i 251] h (fun _=>spec_Wrap_ok) (fun r7 h=>?_)
  refine Wp.cl false 5 47 [.i (bAdd .i64 (bSub .i64 r6.1 p2) p3),.i 251] h (fun _=>spec_Wrap_ok) (fun r8 h=>?_)
  refine Wp.cl false 4 52 [.i (bAdd .i64 r7 r8),.i 251] h (fun _=>spec_Wrap_ok) (fun r9 h=>?_)
  obtain rfl:=oi h
  exact Wp.ret RetB
 refine Wp.rg [] [] ?_
 refine Runs.cl false 1 12 [.i p0] h (fun _=>spec_l3Ok_ok) (fun r1 h=>?_)
 refine Runs.c2 2 14 h (fun h=>?_) (fun h=>?_)
 ·refine Runs.alln ?_
  exact ⟨_,_,_,_,_,h,lo []⟩
 refine Runs.cl false 1 16 [.i p1,.i 1,.i 1000000000000] h (fun _=>spec_l1In_ok) (fun r2 h=>?_)
 refine Runs.c2 3 19 h (fun h=>?_) (fun h=>?_)
 ·refine Runs.alln ?_
  exact ⟨_,_,_,_,_,h,lo []⟩
 refine Runs.cl false 1 21 [.i p2,.i 0,.i 255] h (fun _=>spec_l1In_ok) (fun r3 h=>?_)
 refine Runs.c2 3 24 h (fun h=>?_) (fun h=>?_)
 ·refine Runs.alln ?_
  exact ⟨_,_,_,_,_,h,lo []⟩
 refine Runs.cl false 1 26 [.i p3,.i 0,.i 255] h (fun _=>spec_l1In_ok) (fun r4 h=>?_)
 refine Runs.alln ?_
 exact ⟨_,_,_,_,_,h,lo []⟩
theorem spec_Windows_ok {u p0 p1 r} (h:spec_Windows u p0 p1=some r):CallOK Tryz.prog 143 [.one (.s p0),V.i p1] (.one (.ow 3 1 (r.map (eInt .i64)))) []:=by
 unfold spec_Windows at h
 refine ofb Tryz.f143 true ?_
 refine Wp.sa ?_
 refine Wp.sa ?_
 refine Wp.seq ?_
 refine Wp.j3 (fun p0 p1 x1=>spec_Windows_j1 u p0 p1 x1=some r) (fun p0 p1 x1=>⟨[(0,.s p0),(1,.i p1),(4,.nil),(5,.own 327681),(16,.b x1)],[],[(327681,.live 3 1 ((([]:List Int)).map (eInt .i64)))]⟩) (fun p0 p1 x1 h=>?_) ?_
 ·refine Wp.c2 h (fun h=>?_) (fun h=>?_)
  ·refine Wp.sa ?_
   obtain rfl:=oi h
   exact Wp.ret RetB
  refine Wp.sk ?_
  refine Wp.sr ?_
  refine Runs.batch 2 kr ?_
  obtain ⟨_,e_2,h⟩:=bind_some h
  refine Runs.subsl (e:=5) (ax:=.s p0) (alo:=none) (ahi:=(some (.i p1))) (eInt .u8) p0 1 0 p1 rfl kr kr kr kr kr kr kr kr kr kr kr (chk_some e_2) ?_
  refine Runs.cl false 0 21 [.t (.sl 1 (((p0.take (Int.toNat p1)).drop (Int.toNat 0)).map (eInt .u8)))] h (fun _=>spec_WeakOf_ok) (fun r3 h=>?_)
  refine Runs.alln ?_
  refine Wp.sr ?_
  refine Runs.ap 3 25 3 1 327681 (eInt .i64) h (fun h=>?_)
  refine Runs.alln ?_
  refine Wp.j1 (fun x17=>spec_Windows_j2 u x17=some r) (fun x17=>⟨[(4,.nil),(5,.own 327681)],[],[(327681,.live 3 1 (x17.map (eInt .i64)))]⟩) (fun x17 h=>?_) ?_
  ·refine Wp.sa ?_
   obtain rfl:=oi h
   exact Wp.ret RetB
  refine Wp.sa ?_
  refine Wp.block ?_
  refine Wp.l5 (fun k_spec_Windows_l3 p0 p1 x8 x9 x10=>spec_Windows_l3 u k_spec_Windows_l3 p0 p1 x8 x9 x10=some r) (fun p0 p1 x8 x9 x10=>⟨[(0,.s p0),(1,.i p1),(4,.nil),(5,.own 327681),(6,.i x9),(7,.i x10)],[],[(327681,.live 3 1 (x8.map (eInt .i64)))]⟩) (fun k_spec_Windows_l3 p0 p1 x8 x9 x10 h=>?_) h (lo [(327681,1638400)]) (fun _ _ _ _ _  h=>nomatch h)
  rw [spec_Windows_l3] at h
  refine Wp.seq ?_
  refine Wp.sr ?_
  refine Runs.ln 2 5 (eInt .u8) p0 ?_
  refine Runs.alln ?_
  refine Wp.c2 h (fun h=>?_) (fun h=>?_)
  ·refine Wp.sk ?_
   refine Wp.seq ?_
   refine Wp.block ?_
   refine Wp.seq ?_
   refine Wp.regionA (pOf []) (rhoOf [(0,.frz),(1,.frz),(6,.frz),(7,.frz),(33,.frz),(34,.frz),(35,.frz),(36,.frz),(37,.frz),(38,.frz),(39,.frz),(40,.frz),(41,.frz),(42,.frz),(43,.frz),(44,.frz),(45,.frz),(46,.frz),(47,.frz)]) kr kr ?_
   refine Runs.ix 6 5 1 (eInt .u8) h (fun y14 h _=>?_)
   refine Runs.ix 4 5 1 (eInt .u8) h (fun y15 h _=>?_)
   refine Runs.cl false 2 47 [.i x9,.i p1,.i (IntKind.wrap .i64 y14),.i (IntKind.wrap .i64 y15)] h (fun _=>spec_Roll_ok) (fun r16 h=>?_)
   refine Runs.alln ?_
   refine Wp.rg [] [] ?_
   refine Runs.ap 3 51 3 1 327681 (eInt .i64) h (fun h=>?_)
   refine Runs.all kr ?_
   refine blkN ?_
   refine thenN ?_
   refine Wp.rg [] [] ?_
   refine Runs.alln ?_
   exact ⟨_,_,_,_,_,h,lo [(327681,3342336)]⟩
  refine Wp.exit ?_
  refine thenE ?_
  refine thenE ?_
  refine blkE ?_
  refine thenN ?_
  exact ⟨_,h,lo []⟩
 refine Wp.rg [] [] ?_
 refine Runs.c2 3 11 h (fun h=>?_) (fun h=>?_)
 ·refine Runs.alln ?_
  exact ⟨_,_,_,h,lo [(327681,524288)]⟩
 refine Runs.ln 2 5 (eInt .u8) p0 ?_
 refine Runs.alln ?_
 exact ⟨_,_,_,h,lo [(327681,524288)]⟩
theorem spec_FindSum_ok {u p0 p1 p2 r} (h:spec_FindSum u p0 p1 p2=some r):CallOK Tryz.prog 133 [.one (.s p0),V.g (Sum.enc p1),V.i p2] (V.i r) []:=by
 unfold spec_FindSum at h
 refine ofb Tryz.f133 false ?_
 refine Wp.sa ?_
 refine Wp.seq ?_
 refine Wp.cl false 1 10 [.i p2,.i 1,.i 6] h (fun _=>spec_l1In_ok) (fun r1 h=>?_)
 refine Wp.c2 h (fun h=>?_) (fun h=>?_)
 ·refine Wp.sa ?_
  obtain rfl:=oi h
  exact Wp.ret RetB
 refine Wp.sk ?_
 refine Wp.cl false 2 14 [.s p0,.i p2] h (fun _=>spec_Windows_ok) (fun r2 h=>?_)
 refine Wp.j0 (spec_FindSum_j1 u=some r) ⟨[(6,.i 0)],[],[]⟩ (fun h=>?_) ?_
 ·refine Wp.sa ?_
  obtain rfl:=oi h
  exact Wp.ret RetB
 refine Wp.sa ?_
 refine Wp.block ?_
 refine Wp.l5 (fun k_spec_FindSum_l2 p0 p2 r2 x4 p1=>spec_FindSum_l2 u k_spec_FindSum_l2 p0 p2 r2 x4 p1=some r) (fun p0 p2 r2 x4 p1=>⟨[(0,.s p0),(2,.i p2),(4,.obj 4 0),(6,.i 0),(7,.own 458753),(8,.i x4)],[(4,[.i p1.fW,.i p1.fS])],[(458753,.live 3 1 (r2.map (eInt .i64)))]⟩) (fun k_spec_FindSum_l2 p0 p2 r2 x4 p1 h=>?_) h (lo [(458753,917504)]) (fun _ _ _ _ _  h=>nomatch h)
 rw [spec_FindSum_l2] at h
 refine Wp.seq ?_
 refine Wp.sr ?_
 refine Runs.ln 2 3 (eInt .i64) r2 ?_
 refine Runs.alln ?_
 refine Wp.c2 h (fun h=>?_) (fun h=>?_)
 ·refine Wp.sk ?_
  refine Wp.seq ?_
  refine Wp.block ?_
  refine Wp.j6 (fun p0 p2 r2 x4 x9 p1=>spec_FindSum_j3 u (fun z0 z1 z2 z3 z4=>spec_FindSum_l2 u k_spec_FindSum_l2 z0 z1 z2 z3 z4) p0 p2 r2 x4 x9 p1=some r) (fun p0 p2 r2 x4 x9 p1=>⟨[(0,.s p0),(2,.i p2),(4,.obj 4 0),(6,.i 0),(7,.own 458753),(8,.i x4),(38,.b x9)],[(4,[.i p1.fW,.i p1.fS])],[(458753,.live 3 1 (r2.map (eInt .i64)))]⟩) (fun p0 p2 r2 x4 x9 p1 h=>?_) ?_
  ·refine Wp.c2 h (fun h=>?_) (fun h=>?_)
   ·refine Wp.sa ?_
    obtain rfl:=oi h
    exact Wp.ret RetB
   refine Wp.skip ?_
   refine blkN ?_
   refine thenN ?_
   refine Wp.rg [] [] ?_
   refine Runs.alln ?_
   exact ⟨_,_,_,_,_,h,lo []⟩
  refine Wp.regionA (pOf []) (rhoOf [(0,.frz),(2,.frz),(4,.obj 4),(7,.own 7),(8,.frz),(21,.own 7),(22,.frz),(23,.el 7),(24,.frz),(25,.obj 4),(26,.frz),(27,.frz),(28,.frz),(29,.frz),(30,.frz),(31,.frz),(32,.frz),(33,.frz),(34,.frz),(35,.frz),(36,.frz)]) kr kr ?_
  refine Runs.ixo 2 3 1 458753 3 (eInt .i64) h (fun y6 h e_y6=>?_)
  refine Runs.ld 0 1 1 458753 0 3 false (eInt .i64) ((idx_some e_y6).2) ?_
  refine Runs.c2 4 28 h (fun h=>?_) (fun h=>?_)
  ·refine Runs.batch 5 kr ?_
   obtain ⟨_,e_7,h⟩:=bind_some h
   refine Runs.subsl (e:=5) (ax:=.s p0) (alo:=(some (.i x4))) (ahi:=(some (.i (bAdd .i64 x4 p2)))) (eInt .u8) p0 1 x4 (bAdd .i64 x4 p2) rfl kr kr kr kr kr kr kr kr kr kr kr (chk_some e_7) ?_
   refine Runs.cl false 0 35 [.t (.sl 1 (((p0.take (Int.toNat (bAdd .i64 x4 p2))).drop (Int.toNat x4)).map (eInt .u8)))] h (fun _=>spec_SumOf_ok) (fun r8 h=>?_)
   refine Runs.alln ?_
   exact ⟨_,_,_,_,_,_,h,lo []⟩
  refine Runs.alln ?_
  exact ⟨_,_,_,_,_,_,h,lo []⟩
 refine Wp.exit ?_
 refine thenE ?_
 refine thenE ?_
 refine blkE ?_
 refine thenN ?_
 exact ⟨h,lo []⟩
theorem spec_PlaceOf_ok {u p0 p1 p2 r} (h:spec_PlaceOf u p0 p1 p2=some r):CallOK Tryz.prog 101 [.one (.s p0),V.g (Manifest.enc p1),V.i p2] (V.i r) []:=by
 unfold spec_PlaceOf at h
 refine ofb Tryz.f101 false ?_
 refine Wp.sa ?_
 refine Wp.cl false 5 15 [.i p1.fSize,.i p1.fLen,.i p2] h (fun _=>spec_SpanOf_ok) (fun r1 h=>?_)
 refine Wp.seq ?_
 refine Wp.j5 (fun p0 p2 r1 x2 p1=>spec_PlaceOf_j1 u p0 p2 r1 x2 p1=some r) (fun p0 p2 r1 x2 p1=>⟨[(0,.s p0),(2,.i p2),(4,.obj 4 0),(6,.i 0),(8,.i r1.2),(26,.b x2)],[(4,((Manifest.enc p1).map .t))],[]⟩) (fun p0 p2 r1 x2 p1 h=>?_) ?_
 ·refine Wp.c2 h (fun h=>?_) (fun h=>?_)
  ·refine Wp.sa ?_
   obtain rfl:=oi h
   exact Wp.ret RetB
  refine Wp.sk ?_
  refine Wp.sr ?_
  refine Runs.ix 4 117 2 Sum.enc h (fun y3 h _=>?_)
  refine Runs.cl false 2 34 [.s p0,.agg [.i y3.fW,.i y3.fS],.i r1.2] h (fun _=>spec_FindSum_ok) (fun r4 h=>?_)
  refine Runs.alln ?_
  obtain rfl:=oi h
  exact Wp.ret RetB
 refine Wp.rg [] [] ?_
 refine Runs.c2 3 20 h (fun h=>?_) (fun h=>?_)
 ·refine Runs.alln ?_
  exact ⟨_,_,_,_,_,h,lo []⟩
 refine Runs.ln 3 117 Sum.enc p1.fSums ?_
 refine Runs.alln ?_
 exact ⟨_,_,_,_,_,h,lo []⟩
theorem spec_SetOk_ok {u p0 r} (h:spec_SetOk u p0=some r):CallOK Tryz.prog 123 [V.i p0] (V.b r) []:=by
 unfold spec_SetOk at h
 refine ofb Tryz.f123 false ?_
 refine Wp.sa ?_
 refine Wp.cl false 1 4 [.i p0,.i 0,.i 1099511627775] h (fun _=>spec_l1In_ok) (fun r1 h=>?_)
 obtain rfl:=oi h
 exact Wp.ret RetB
theorem spec_InSet_ok {u p0 p1 r} (h:spec_InSet u p0 p1=some r):CallOK Tryz.prog 126 [V.i p0,V.i p1] (V.b r) []:=by
 unfold spec_InSet at h
 refine ofb Tryz.f126 false ?_
 refine Wp.sa ?_
 refine Wp.sr ?_
 refine Runs.cl false 1 6 [.i p0] h (fun _=>spec_SetOk_ok) (fun r1 h=>?_)
 refine Runs.c2 1 7 h (fun h=>?_) (fun h=>?_)
 ·refine Runs.cl false 1 9 [.i p1,.i 0,.i 39] h (fun _=>spec_l1In_ok) (fun r2 h=>?_)
  refine Runs.c2 2 11 h (fun h=>?_) (fun h=>?_)
  ·refine Runs.batch 2 kr ?_
   obtain ⟨_,e_3,h⟩:=bind_some h
   refine Runs.num .shr (.int .i64 p0) (.int .i64 p1) (.int .i64 (bShr .i64 p0 p1)) rfl kr kr kr kr (bin_shr _ _ _ _ _ (chk_some e_3)) ?_
   refine Runs.alln ?_
   obtain rfl:=oi h
   exact Wp.ret RetB
  refine Runs.alln ?_
  obtain rfl:=oi h
  exact Wp.ret RetB
 refine Runs.alln ?_
 obtain rfl:=oi h
 exact Wp.ret RetB
theorem spec_BuildNew_ok {u p0 r} (h:spec_BuildNew u p0=some r):CallOK Tryz.prog 99 [V.g (Manifest.enc p0)] (V.w [0,5] (Build.enc r)) []:=by
 unfold spec_BuildNew at h
 refine ofb Tryz.f99 true ?_
 refine Wp.sa ?_
 refine Wp.seq ?_
 refine Wp.cl false 1 4 [.agg ((Manifest.enc p0).map .t)] h (fun _=>spec_ManOk_ok) (fun r1 h=>?_)
 refine Wp.c2 h (fun h=>?_) (fun h=>?_)
 ·refine Wp.sa ?_
  obtain rfl:=oi h
  exact Wp.ret RetB
 refine Wp.sk ?_
 refine Wp.sr ?_
 refine Runs.batch 2 kr ?_
 obtain ⟨_,e_2,h⟩:=bind_some h
 obtain ⟨_,e_3,h⟩:=bind_some h
 refine Runs.mkS (eInt .u8) (0:Int) 9 5 1 1 p0.fLen p0.fLen rfl rfl kr kr kr kr kr kr (chk_some e_2) (of_decide_eq_true (chk_some e_3)) kr ?_
 refine Runs.alln ?_
 obtain rfl:=oi h
 exact Wp.ret RetB
theorem spec_WithPart_ok {u p0 p1 r} (h:spec_WithPart u p0 p1=some r):CallOK Tryz.prog 134 [V.i p0,V.i p1] (V.i r) []:=by
 unfold spec_WithPart at h
 refine ofb Tryz.f134 false ?_
 refine Wp.sa ?_
 refine Wp.seq ?_
 refine Wp.j3 (fun p0 p1 x3=>spec_WithPart_j1 u p0 p1 x3=some r) (fun p0 p1 x3=>⟨[(0,.i p0),(1,.i p1),(4,.i 0),(12,.b x3)],[],[]⟩) (fun p0 p1 x3 h=>?_) ?_
 ·refine Wp.c2 h (fun h=>?_) (fun h=>?_)
  ·refine Wp.sa ?_
   obtain rfl:=oi h
   exact Wp.ret RetB
  refine Wp.sk ?_
  refine Wp.sr ?_
  refine Runs.batch 2 kr ?_
  obtain ⟨_,e_4,h⟩:=bind_some h
  refine Runs.num .shl (.int .i64 1) (.int .i64 p1) (.int .i64 (bShl .i64 1 p1)) rfl kr kr kr kr (bin_shl _ _ _ _ _ (chk_some e_4)) ?_
  refine Runs.alln ?_
  obtain rfl:=oi h
  exact Wp.ret RetB
 refine Wp.rg [] [] ?_
 refine Runs.cl false 1 6 [.i p0] h (fun _=>spec_SetOk_ok) (fun r1 h=>?_)
 refine Runs.c2 2 8 h (fun h=>?_) (fun h=>?_)
 ·refine Runs.alln ?_
  exact ⟨_,_,_,h,lo []⟩
 refine Runs.cl false 1 10 [.i p1,.i 0,.i 39] h (fun _=>spec_l1In_ok) (fun r2 h=>?_)
 refine Runs.alln ?_
 exact ⟨_,_,_,h,lo []⟩
theorem spec_l8Put_ok {u p0 p1 p2 p3 r} (h:spec_l8Put u p0 p1 p2 p3=some r):CallOK Tryz.prog 102 [V.g (Manifest.enc p0),.ptr (cw [0,5] (Build.enc p1)),V.i p2,.one (.s p3)] (V.b r.1) [cw [0,5] (Build.enc r.2)]:=by
 unfold spec_l8Put at h
 refine ofb Tryz.f102 false ?_
 refine Wp.sa ?_
 refine Wp.seq ?_
 refine Wp.j5 (fun p2 p3 x5 p0 p1=>spec_l8Put_j1 u p2 p3 x5 p0 p1=some r) (fun p2 p3 x5 p0 p1=>⟨[(1,.obj 901 0),(2,.i p2),(3,.s p3),(4,.obj 4 0),(8,.b false),(41,.b x5)],[(4,((Manifest.enc p0).map .t)),(901,[.i p1.fHave,.own 59048449])],[(59048449,.live 5 1 (p1.fBuf.map (eInt .u8)))]⟩) (fun p2 p3 x5 p0 p1 h=>?_) ?_
 ·refine Wp.c2 h (fun h=>?_) (fun h=>?_)
  ·refine Wp.sa ?_
   obtain rfl:=oi h
   exact Wp.ret RetB
  refine Wp.sk ?_
  refine Wp.cl false 5 48 [.i p0.fSize,.i p0.fLen,.i p2] h (fun _=>spec_SpanOf_ok) (fun r6 h=>?_)
  refine Wp.j3 (fun p2 p1 x15=>spec_l8Put_j2 u p2 p1 x15=some r) (fun p2 p1 x15=>⟨[(1,.obj 901 0),(2,.i p2),(8,.b false)],[(901,[.i p1.fHave,.own 59048449])],[(59048449,.live 5 1 (x15.map (eInt .u8)))]⟩) (fun p2 p1 x15 h=>?_) ?_
  ·refine Wp.cl false 6 75 [.i p1.fHave,.i p2] h (fun _=>spec_WithPart_ok) (fun r16 h=>?_)
   refine Wp.sa ?_
   obtain rfl:=oi h
   exact Wp.ret RetB
  refine Wp.sa ?_
  refine Wp.block ?_
  refine Wp.l6 (fun k_spec_l8Put_l3 p2 p3 r6 x9 p1 x10=>spec_l8Put_l3 u k_spec_l8Put_l3 p2 p3 r6 x9 p1 x10=some r) (fun p2 p3 r6 x9 p1 x10=>⟨[(1,.obj 901 0),(2,.i p2),(3,.s p3),(8,.b false),(9,.i r6.1),(11,.i x9)],[(901,[.i p1.fHave,.own 59048449])],[(59048449,.live 5 1 (x10.map (eInt .u8)))]⟩) (fun k_spec_l8Put_l3 p2 p3 r6 x9 p1 x10 h=>?_) h (lo []) (fun _ _ _ _ _ _  h=>nomatch h)
  rw [spec_l8Put_l3] at h
  refine Wp.seq ?_
  refine Wp.sr ?_
  refine Runs.ln 2 5 (eInt .u8) p3 ?_
  refine Runs.alln ?_
  refine Wp.c2 h (fun h=>?_) (fun h=>?_)
  ·refine Wp.sk ?_
   refine Wp.seq ?_
   refine Wp.block ?_
   refine Wp.regionA (pOf []) (rhoOf [(1,.obj 901),(3,.frz),(9,.frz),(11,.frz),(57,.obj 901),(58,.obj 901),(59,.obj 901),(60,.own 901),(61,.frz),(62,.frz),(63,.frz),(64,.frz),(65,.frz),(66,.frz),(67,.frz),(68,.el 901)]) kr kr ?_
   refine Runs.ix 9 5 1 (eInt .u8) h (fun y13 h _=>?_)
   refine Runs.ixo 1 5 1 59048449 5 (eInt .u8) h (fun y14 h e_y14=>?_)
   refine Runs.storeT (e:=5) (sz:=1) (m:=1) (eInt .u8) x10 59048449 (Int.toNat (bAdd .i64 r6.1 x9)) 0 y13 (.t (.int .u8 y13)) [.int .u8 y13] rfl kr kr kr kr kr kr kr kr ((idx_some e_y14).2) kr kr ?_
   refine Runs.all kr ?_
   refine blkN ?_
   refine thenN ?_
   refine Wp.rg [] [] ?_
   refine Runs.alln ?_
   exact ⟨_,_,_,_,_,_,h,lo []⟩
  refine Wp.exit ?_
  refine thenE ?_
  refine thenE ?_
  refine blkE ?_
  refine thenN ?_
  exact ⟨_,_,_,h,lo []⟩
 refine Wp.regionA (pOf []) (rhoOf [(1,.obj 901),(2,.frz),(3,.frz),(4,.obj 4),(12,.frz),(13,.obj 4),(14,.frz),(15,.frz),(16,.frz),(17,.frz),(18,.frz),(19,.frz),(20,.obj 901),(21,.obj 901),(22,.obj 901),(23,.frz),(24,.frz),(26,.frz),(27,.frz),(28,.frz),(29,.frz),(30,.obj 4),(31,.frz),(32,.frz),(33,.frz),(34,.frz),(36,.frz),(37,.frz),(38,.frz),(39,.frz)]) kr kr ?_
 refine Runs.ln 3 117 Sum.enc p0.fSums ?_
 refine Runs.cl false 1 17 [.i p2,.i 0,.i (bSub .i64 ((p0.fSums.length:Int)) 1)] h (fun _=>spec_l1In_ok) (fun r1 h=>?_)
 refine Runs.c2 2 19 h (fun h=>?_) (fun h=>?_)
 ·refine Runs.alln ?_
  exact ⟨_,_,_,_,_,h,lo [(59048449,59047937)]⟩
 refine Runs.cl false 5 25 [.i p1.fHave,.i p2] h (fun _=>spec_InSet_ok) (fun r2 h=>?_)
 refine Runs.c2 2 27 h (fun h=>?_) (fun h=>?_)
 ·refine Runs.alln ?_
  exact ⟨_,_,_,_,_,h,lo [(59048449,59047937)]⟩
 refine Runs.cl false 1 29 [.s p3] h (fun _=>spec_SumOf_ok) (fun r3 h=>?_)
 refine Runs.ix 3 117 2 Sum.enc h (fun y4 h _=>?_)
 refine Runs.c2 4 37 h (fun h=>?_) (fun h=>?_)
 ·refine Runs.alln ?_
  exact ⟨_,_,_,_,_,h,lo [(59048449,59047937)]⟩
 refine Runs.ln 1 5 (eInt .u8) p3 ?_
 refine Runs.alln ?_
 exact ⟨_,_,_,_,_,h,lo [(59048449,59047937)]⟩
theorem spec_BuildFrom_ok {u p0 p1 r} (h:spec_BuildFrom u p0 p1=some r):CallOK Tryz.prog 57 [V.g (Manifest.enc p0),.one (.s p1)] (V.w [0,5] (Build.enc r)) []:=by
 unfold spec_BuildFrom at h
 refine ofb Tryz.f57 true ?_
 refine Wp.sa ?_
 refine Wp.cl false 1 11 [.agg ((Manifest.enc p0).map .t)] h (fun _=>spec_BuildNew_ok) (fun r1 h=>?_)
 refine Wp.seq ?_
 refine Wp.cl false 1 13 [.agg ((Manifest.enc p0).map .t)] h (fun _=>spec_ManOk_ok) (fun r2 h=>?_)
 refine Wp.c2 h (fun h=>?_) (fun h=>?_)
 ·refine Wp.sa ?_
  obtain rfl:=oi h
  exact Wp.ret RetB
 refine Wp.sk ?_
 refine Wp.j2 (fun x18 x19=>spec_BuildFrom_j1 u x18 x19=some r) (fun x18 x19=>⟨[(4,.obj 4 0),(5,.obj 5 0)],[(4,[.i 0,.nil]),(5,[.i x18,.own 328193])],[(328193,.live 5 1 (x19.map (eInt .u8)))]⟩) (fun x18 x19 h=>?_) ?_
 ·refine Wp.sa ?_
  obtain rfl:=oi h
  exact Wp.ret RetB
 refine Wp.sa ?_
 refine Wp.block ?_
 refine Wp.l5 (fun k_spec_BuildFrom_l2 p1 x6 p0 x7 x8=>spec_BuildFrom_l2 u k_spec_BuildFrom_l2 p1 x6 p0 x7 x8=some r) (fun p1 x6 p0 x7 x8=>⟨[(1,.s p1),(2,.obj 2 0),(4,.obj 4 0),(5,.obj 5 0),(6,.i x6)],[(2,((Manifest.enc p0).map .t)),(4,[.i 0,.nil]),(5,[.i x7,.own 328193])],[(328193,.live 5 1 (x8.map (eInt .u8)))]⟩) (fun k_spec_BuildFrom_l2 p1 x6 p0 x7 x8 h=>?_) h (lo [(328193,720897)]) (fun _ _ _ _ _  h=>nomatch h)
 rw [spec_BuildFrom_l2] at h
 refine Wp.seq ?_
 refine Wp.sr ?_
 refine Runs.ln 3 117 Sum.enc p0.fSums ?_
 refine Runs.alln ?_
 refine Wp.c2 h (fun h=>?_) (fun h=>?_)
 ·refine Wp.sk ?_
  refine Wp.j5 (fun p1 x6 p0 x16 x17=>spec_BuildFrom_j3 u (fun z0 z1 z2 z3 z4=>spec_BuildFrom_l2 u k_spec_BuildFrom_l2 z0 z1 z2 z3 z4) p1 x6 p0 x16 x17=some r) (fun p1 x6 p0 x16 x17=>⟨[(1,.s p1),(2,.obj 2 0),(4,.obj 4 0),(5,.obj 5 0),(6,.i x6)],[(2,((Manifest.enc p0).map .t)),(4,[.i 0,.nil]),(5,[.i x16,.own 328193])],[(328193,.live 5 1 (x17.map (eInt .u8)))]⟩) (fun p1 x6 p0 x16 x17 h=>?_) ?_
  ·refine Wp.rg [] [] ?_
   refine Runs.alln ?_
   exact ⟨_,_,_,_,_,h,lo []⟩
  refine Wp.block ?_
  refine Wp.cl false 3 26 [.s p1,.agg ((Manifest.enc p0).map .t),.i x6] h (fun _=>spec_PlaceOf_ok) (fun r12 h=>?_)
  refine Wp.cl false 5 33 [.i p0.fSize,.i p0.fLen,.i x6] h (fun _=>spec_SpanOf_ok) (fun r13 h=>?_)
  refine Wp.sa ?_
  refine Wp.c2 h (fun h=>?_) (fun h=>?_)
  ·refine Wp.regionA (pOf []) (rhoOf [(1,.frz),(2,.obj 2),(5,.obj 5),(6,.frz),(7,.frz),(9,.frz),(38,.frz),(39,.frz),(40,.frz),(41,.frz),(42,.frz),(43,.frz),(44,.frz),(45,.frz)]) kr kr ?_
   refine Runs.batch 7 kr ?_
   obtain ⟨_,e_14,h⟩:=bind_some h
   refine Runs.subsl (e:=5) (ax:=.s p1) (alo:=(some (.i r12))) (ahi:=(some (.i (bAdd .i64 r12 r13.2)))) (eInt .u8) p1 1 r12 (bAdd .i64 r12 r13.2) rfl kr kr kr kr kr kr kr kr kr kr kr (chk_some e_14) ?_
   refine Runs.cl true 0 46 [.agg ((Manifest.enc p0).map .t),.obj 5 0,.i x6,.t (.sl 1 (((p1.take (Int.toNat (bAdd .i64 r12 r13.2))).drop (Int.toNat r12)).map (eInt .u8)))] h (fun _=>spec_l8Put_ok) (fun r15 h=>?_)
   refine Runs.all kr ?_
   refine blkN ?_
   refine thenN ?_
   exact ⟨_,_,_,_,_,h,lo [(328193,3016001)]⟩
  refine Wp.skip ?_
  refine blkN ?_
  refine thenN ?_
  exact ⟨_,_,_,_,_,h,lo []⟩
 refine Wp.exit ?_
 refine thenE ?_
 refine thenE ?_
 refine blkE ?_
 refine thenN ?_
 exact ⟨_,_,h,lo []⟩
theorem spec_l1Once_ok {u p0 p1 r} (h:spec_l1Once u p0 p1=some r):CallOK Tryz.prog 43 [.ptr (cw [0,0,0] (l1Cur.enc p0)),V.i p1] (V.b r.1) [cw [0,0,0] (l1Cur.enc r.2)]:=by
 unfold spec_l1Once at h
 refine ofb Tryz.f43 false ?_
 refine Wp.sa ?_
 refine Wp.cl false 2 7 [.obj 900 0,.i p1] h (fun _=>spec_l1Below_ok) (fun r1 h=>?_)
 obtain rfl:=oi h
 exact Wp.ret RetB
theorem spec_FullSet_ok {u p0 r} (h:spec_FullSet u p0=some r):CallOK Tryz.prog 141 [V.i p0] (V.i r) []:=by
 unfold spec_FullSet at h
 refine ofb Tryz.f141 false ?_
 refine Wp.sa ?_
 refine Wp.seq ?_
 refine Wp.cl false 1 4 [.i p0,.i 0,.i 40] h (fun _=>spec_l1In_ok) (fun r1 h=>?_)
 refine Wp.c2 h (fun h=>?_) (fun h=>?_)
 ·refine Wp.sa ?_
  obtain rfl:=oi h
  exact Wp.ret RetB
 refine Wp.sk ?_
 refine Wp.sr ?_
 refine Runs.batch 1 kr ?_
 obtain ⟨_,e_2,h⟩:=bind_some h
 refine Runs.num .shl (.int .i64 1) (.int .i64 p0) (.int .i64 (bShl .i64 1 p0)) rfl kr kr kr kr (bin_shl _ _ _ _ _ (chk_some e_2)) ?_
 refine Runs.alln ?_
 obtain rfl:=oi h
 exact Wp.ret RetB
theorem spec_AllParts_ok {u p0 r} (h:spec_AllParts u p0=some r):CallOK Tryz.prog 125 [V.g (Manifest.enc p0)] (V.i r) []:=by
 unfold spec_AllParts at h
 refine ofb Tryz.f125 false ?_
 refine Wp.sa ?_
 refine Wp.sr ?_
 refine Runs.ln 2 117 Sum.enc p0.fSums ?_
 refine Runs.cl false 0 6 [.i ((p0.fSums.length:Int))] h (fun _=>spec_FullSet_ok) (fun r1 h=>?_)
 refine Runs.alln ?_
 obtain rfl:=oi h
 exact Wp.ret RetB
theorem spec_Without_ok {u p0 p1 r} (h:spec_Without u p0 p1=some r):CallOK Tryz.prog 124 [V.i p0,V.i p1] (V.i r) []:=by
 unfold spec_Without at h
 refine ofb Tryz.f124 false ?_
 refine Wp.sa ?_
 refine Wp.seq ?_
 refine Wp.j3 (fun p0 p1 x3=>spec_Without_j1 u p0 p1 x3=some r) (fun p0 p1 x3=>⟨[(0,.i p0),(1,.i p1),(4,.i 0),(12,.b x3)],[],[]⟩) (fun p0 p1 x3 h=>?_) ?_
 ·refine Wp.c2 h (fun h=>?_) (fun h=>?_)
  ·refine Wp.sa ?_
   obtain rfl:=oi h
   exact Wp.ret RetB
  refine Wp.sk ?_
  refine Wp.sa ?_
  obtain rfl:=oi h
  exact Wp.ret RetB
 refine Wp.rg [] [] ?_
 refine Runs.cl false 1 6 [.i p0] h (fun _=>spec_SetOk_ok) (fun r1 h=>?_)
 refine Runs.c2 2 8 h (fun h=>?_) (fun h=>?_)
 ·refine Runs.alln ?_
  exact ⟨_,_,_,h,lo []⟩
 refine Runs.cl false 1 10 [.i p1] h (fun _=>spec_SetOk_ok) (fun r2 h=>?_)
 refine Runs.alln ?_
 exact ⟨_,_,_,h,lo []⟩
theorem spec_l8Zero_ok {u p0 r} (h:spec_l8Zero u p0=some r):CallOK Tryz.prog 128 [.one (.s p0)] (V.b r) []:=by
 unfold spec_l8Zero at h
 refine ofb Tryz.f128 false ?_
 refine Wp.sa ?_
 refine Wp.j0 (spec_l8Zero_j1 u=some r) ⟨[(2,.b false)],[],[]⟩ (fun h=>?_) ?_
 ·refine Wp.sa ?_
  obtain rfl:=oi h
  exact Wp.ret RetB
 refine Wp.sa ?_
 refine Wp.block ?_
 refine Wp.l2 (fun k_spec_l8Zero_l2 p0 x2=>spec_l8Zero_l2 u k_spec_l8Zero_l2 p0 x2=some r) (fun p0 x2=>⟨[(0,.s p0),(2,.b false),(3,.i x2)],[],[]⟩) (fun k_spec_l8Zero_l2 p0 x2 h=>?_) h (lo []) (fun _ _  h=>nomatch h)
 rw [spec_l8Zero_l2] at h
 refine Wp.seq ?_
 refine Wp.sr ?_
 refine Runs.ln 2 5 (eInt .u8) p0 ?_
 refine Runs.alln ?_
 refine Wp.c2 h (fun h=>?_) (fun h=>?_)
 ·refine Wp.sk ?_
  refine Wp.seq ?_
  refine Wp.block ?_
  refine Wp.sr ?_
  refine Runs.ix 2 5 1 (eInt .u8) h (fun y4 h _=>?_)
  refine Runs.alln ?_
  refine Wp.c2 h (fun h=>?_) (fun h=>?_)
  ·refine Wp.sa ?_
   obtain rfl:=oi h
   exact Wp.ret RetB
  refine Wp.skip ?_
  refine blkN ?_
  refine thenN ?_
  refine Wp.rg [] [] ?_
  refine Runs.alln ?_
  exact ⟨_,_,h,lo []⟩
 refine Wp.exit ?_
 refine thenE ?_
 refine thenE ?_
 refine blkE ?_
 refine thenN ?_
 exact ⟨h,lo []⟩
theorem spec_BuildOk_ok {u p0 p1 r} (h:spec_BuildOk u p0 p1=some r):CallOK Tryz.prog 81 [V.g (Manifest.enc p0),V.g (Build.enc p1)] (V.b r) []:=by
 unfold spec_BuildOk at h
 refine ofb Tryz.f81 false ?_
 refine Wp.sa ?_
 refine Wp.seq ?_
 refine Wp.j3 (fun x5 p0 p1=>spec_BuildOk_j1 u x5 p0 p1=some r) (fun x5 p0 p1=>⟨[(2,.obj 2 0),(3,.obj 3 0),(4,.b false),(33,.b x5)],[(2,((Manifest.enc p0).map .t)),(3,[.i p1.fHave,.s p1.fBuf])],[]⟩) (fun x5 p0 p1 h=>?_) ?_
 ·refine Wp.c2 h (fun h=>?_) (fun h=>?_)
  ·refine Wp.sa ?_
   obtain rfl:=oi h
   exact Wp.ret RetB
  refine Wp.sk ?_
  refine Wp.j0 (spec_BuildOk_j2 u=some r) ⟨[(4,.b false)],[],[]⟩ (fun h=>?_) ?_
  ·refine Wp.sa ?_
   obtain rfl:=oi h
   exact Wp.ret RetB
  refine Wp.sa ?_
  refine Wp.block ?_
  refine Wp.l3 (fun k_spec_BuildOk_l3 x7 p0 p1=>spec_BuildOk_l3 u k_spec_BuildOk_l3 x7 p0 p1=some r) (fun x7 p0 p1=>⟨[(2,.obj 2 0),(3,.obj 3 0),(4,.b false),(5,.i x7)],[(2,((Manifest.enc p0).map .t)),(3,[.i p1.fHave,.s p1.fBuf])],[]⟩) (fun k_spec_BuildOk_l3 x7 p0 p1 h=>?_) h (lo []) (fun _ _ _  h=>nomatch h)
  rw [spec_BuildOk_l3] at h
  refine Wp.seq ?_
  refine Wp.sr ?_
  refine Runs.ln 3 117 Sum.enc p0.fSums ?_
  refine Runs.alln ?_
  refine Wp.c2 h (fun h=>?_) (fun h=>?_)
  ·refine Wp.sk ?_
   refine Wp.seq ?_
   refine Wp.block ?_
   refine Wp.cl false 5 47 [.i p0.fSize,.i p0.fLen,.i x7] h (fun _=>spec_SpanOf_ok) (fun r9 h=>?_)
   refine Wp.sr ?_
   refine Runs.batch 6 kr ?_
   obtain ⟨_,e_10,h⟩:=bind_some h
   refine Runs.subsl (e:=5) (ax:=.s p1.fBuf) (alo:=(some (.i r9.1))) (ahi:=(some (.i (bAdd .i64 r9.1 r9.2)))) (eInt .u8) p1.fBuf 1 r9.1 (bAdd .i64 r9.1 r9.2) rfl kr kr kr kr kr kr kr kr kr kr kr (chk_some e_10) ?_
   refine Runs.alln ?_
   refine Wp.j4 (fun x7 x18 p0 p1=>spec_BuildOk_j4 u (fun z0 z1 z2=>spec_BuildOk_l3 u k_spec_BuildOk_l3 z0 z1 z2) x7 x18 p0 p1=some r) (fun x7 x18 p0 p1=>⟨[(2,.obj 2 0),(3,.obj 3 0),(4,.b false),(5,.i x7),(82,.b x18)],[(2,((Manifest.enc p0).map .t)),(3,[.i p1.fHave,.s p1.fBuf])],[]⟩) (fun x7 x18 p0 p1 h=>?_) ?_
   ·refine Wp.c2 h (fun h=>?_) (fun h=>?_)
    ·refine Wp.sa ?_
     obtain rfl:=oi h
     exact Wp.ret RetB
    refine Wp.skip ?_
    refine blkN ?_
    refine thenN ?_
    refine Wp.rg [] [] ?_
    refine Runs.alln ?_
    exact ⟨_,_,_,h,lo []⟩
   refine Wp.regionA (pOf []) (rhoOf [(2,.obj 2),(3,.obj 3),(5,.frz),(8,.frz),(57,.obj 3),(58,.frz),(59,.frz),(60,.frz),(61,.frz),(62,.frz),(63,.frz),(64,.obj 2),(65,.frz),(66,.frz),(67,.frz),(68,.frz),(70,.frz),(71,.frz),(72,.obj 3),(73,.frz),(74,.frz),(75,.frz),(76,.frz),(77,.frz),(78,.frz),(79,.frz)]) kr kr ?_
   refine Runs.cl false 3 60 [.i p1.fHave,.i x7] h (fun _=>spec_InSet_ok) (fun r11 h=>?_)
   refine Runs.c2 1 61 h (fun h=>?_) (fun h=>?_)
   ·refine Runs.cl false 1 63 [.t (.sl 1 (((p1.fBuf.take (Int.toNat (bAdd .i64 r9.1 r9.2))).drop (Int.toNat r9.1)).map (eInt .u8)))] h (fun _=>spec_SumOf_ok) (fun r12 h=>?_)
    refine Runs.ix 3 117 2 Sum.enc h (fun y13 h _=>?_)
    refine Runs.c2 4 71 h (fun h=>?_) (fun h=>?_)
    ·refine Runs.alln ?_
     exact ⟨_,_,_,_,h,lo []⟩
    refine Runs.cl false 3 75 [.i p1.fHave,.i x7] h (fun _=>spec_InSet_ok) (fun r14 h=>?_)
    refine Runs.c2 2 77 h (fun h=>?_) (fun h=>?_)
    ·refine Runs.cl false 1 79 [.t (.sl 1 (((p1.fBuf.take (Int.toNat (bAdd .i64 r9.1 r9.2))).drop (Int.toNat r9.1)).map (eInt .u8)))] h (fun _=>spec_l8Zero_ok) (fun r15 h=>?_)
     refine Runs.alln ?_
     exact ⟨_,_,_,_,h,lo []⟩
    refine Runs.alln ?_
    exact ⟨_,_,_,_,h,lo []⟩
   refine Runs.cl false 13 75 [.i p1.fHave,.i x7] h (fun _=>spec_InSet_ok) (fun r16 h=>?_)
   refine Runs.c2 2 77 h (fun h=>?_) (fun h=>?_)
   ·refine Runs.cl false 1 79 [.t (.sl 1 (((p1.fBuf.take (Int.toNat (bAdd .i64 r9.1 r9.2))).drop (Int.toNat r9.1)).map (eInt .u8)))] h (fun _=>spec_l8Zero_ok) (fun r17 h=>?_)
    refine Runs.alln ?_
    exact ⟨_,_,_,_,h,lo []⟩
   refine Runs.alln ?_
   exact ⟨_,_,_,_,h,lo []⟩
  refine Wp.exit ?_
  refine thenE ?_
  refine thenE ?_
  refine blkE ?_
  refine thenN ?_
  exact ⟨h,lo []⟩
 refine Wp.regionA (pOf []) (rhoOf [(2,.obj 2),(3,.obj 3),(9,.frz),(10,.frz),(11,.frz),(12,.frz),(13,.obj 3),(14,.frz),(15,.frz),(17,.frz),(18,.frz),(19,.obj 3),(20,.frz),(21,.frz),(22,.frz),(23,.frz),(25,.frz),(26,.frz),(27,.obj 3),(28,.frz),(29,.frz),(30,.obj 2),(31,.frz)]) kr kr ?_
 refine Runs.cl false 1 10 [.agg ((Manifest.enc p0).map .t)] h (fun _=>spec_ManOk_ok) (fun r1 h=>?_)
 refine Runs.c2 2 12 h (fun h=>?_) (fun h=>?_)
 ·refine Runs.alln ?_
  exact ⟨_,_,_,h,lo []⟩
 refine Runs.cl false 2 15 [.i p1.fHave] h (fun _=>spec_SetOk_ok) (fun r2 h=>?_)
 refine Runs.c2 3 18 h (fun h=>?_) (fun h=>?_)
 ·refine Runs.alln ?_
  exact ⟨_,_,_,h,lo []⟩
 refine Runs.cl false 3 22 [.agg ((Manifest.enc p0).map .t)] h (fun _=>spec_AllParts_ok) (fun r3 h=>?_)
 refine Runs.cl false 0 23 [.i p1.fHave,.i r3] h (fun _=>spec_Without_ok) (fun r4 h=>?_)
 refine Runs.c2 3 26 h (fun h=>?_) (fun h=>?_)
 ·refine Runs.alln ?_
  exact ⟨_,_,_,h,lo []⟩
 refine Runs.ln 2 5 (eInt .u8) p1.fBuf ?_
 refine Runs.alln ?_
 exact ⟨_,_,_,h,lo []⟩
theorem spec_Missing_ok {u p0 p1 r} (h:spec_Missing u p0 p1=some r):CallOK Tryz.prog 82 [V.g (Manifest.enc p0),V.g (Build.enc p1)] (V.i r) []:=by
 unfold spec_Missing at h
 refine ofb Tryz.f82 false ?_
 refine Wp.sa ?_
 refine Wp.seq ?_
 refine Wp.regionA (pOf []) (rhoOf [(2,.obj 2),(3,.obj 3),(5,.frz),(6,.frz),(7,.obj 3),(8,.frz),(9,.frz)]) kr kr ?_
 refine Runs.cl false 1 6 [.agg ((Manifest.enc p0).map .t)] h (fun _=>spec_AllParts_ok) (fun r1 h=>?_)
 refine Runs.cl false 2 9 [.i r1,.i p1.fHave] h (fun _=>spec_Without_ok) (fun r2 h=>?_)
 refine Runs.alln ?_
 obtain rfl:=oi h
 exact Wp.ret RetB
theorem spec_Whole_ok {u p0 p1 r} (h:spec_Whole u p0 p1=some r):CallOK Tryz.prog 36 [V.g (Manifest.enc p0),V.g (Build.enc p1)] (V.b r) []:=by
 unfold spec_Whole at h
 refine ofb Tryz.f36 false ?_
 refine Wp.sa ?_
 refine Wp.sr ?_
 refine Runs.c2 4 8 h (fun h=>?_) (fun h=>?_)
 ·refine Runs.cl false 2 11 [.agg ((Manifest.enc p0).map .t),.agg [.i p1.fHave,.s p1.fBuf]] h (fun _=>spec_BuildOk_ok) (fun r1 h=>?_)
  refine Runs.c2 2 13 h (fun h=>?_) (fun h=>?_)
  ·refine Runs.cl false 2 16 [.agg ((Manifest.enc p0).map .t),.agg [.i p1.fHave,.s p1.fBuf]] h (fun _=>spec_Missing_ok) (fun r2 h=>?_)
   refine Runs.alln ?_
   obtain rfl:=oi h
   exact Wp.ret RetB
  refine Runs.alln ?_
  obtain rfl:=oi h
  exact Wp.ret RetB
 refine Runs.alln ?_
 obtain rfl:=oi h
 exact Wp.ret RetB
theorem spec_l9CopyPut_okd {u p0 r} (h:spec_l9CopyPut u p0=some r):DOK Tryz.prog 85 [V.g (Put.enc p0)] (V.w [0,0,5,0,0,0] (Put.enc r)):=by
 unfold spec_l9CopyPut at h
 refine DOK.of_bodyK (fn:=Tryz.f85) (m:=true) kr rfl kr kr kr ?_
 refine Wp.sa ?_
 refine Wp.sa ?_
 refine Wp.sr ?_
 refine Runs.batch 3 kr ?_
 obtain ⟨_,e_1,h⟩:=bind_some h
 refine Runs.appT (y:=.ext false (.sl 1 (p0.fB.map (eInt .u8)))) (eInt .u8) 8 1 5 1 1 327680 (([]:List Int)) p0.fB rfl rfl rfl rfl kr kr kr kr kr (rows_extI _ _ _) (.inl rfl) kr (of_decide_eq_true (chk_some e_1)) kr kr ?_
 refine Runs.alln ?_
 refine Wp.sa ?_
 obtain rfl:=oi h
 exact Wp.ret RetB
theorem spec_l9Copy_okd {u p0 r} (h:spec_l9Copy u p0=some r):DOK Tryz.prog 40 [V.g (Disk.enc p0)] (V.w [5,5,0,0,0,85] (Disk.enc r)):=by
 unfold spec_l9Copy at h
 refine DOK.of_bodyK (fn:=Tryz.f40) (m:=true) kr rfl kr kr kr ?_
 refine Wp.sa ?_
 refine Wp.seq ?_
 refine Wp.regionA (pOf []) (rhoOf [(1,.obj 1),(3,.obj 3),(6,.own 6),(7,.obj 1),(8,.frz),(9,.own 9),(10,.own 10),(11,.obj 1),(12,.frz),(13,.own 13),(14,.obj 1),(15,.frz),(16,.own 16)]) kr kr ?_
 refine Runs.batch 3 kr ?_
 obtain ⟨_,e_1,h⟩:=bind_some h
 refine Runs.appT (y:=.ext false (.sl 1 (p0.fA.map (eInt .u8)))) (eInt .u8) 9 1 5 1 1 393216 (([]:List Int)) p0.fA rfl rfl rfl rfl kr kr kr kr kr (rows_extI _ _ _) (.inl rfl) kr (of_decide_eq_true (chk_some e_1)) kr kr ?_
 refine Runs.batch 3 kr ?_
 obtain ⟨_,e_2,h⟩:=bind_some h
 refine Runs.appT (y:=.ext false (.sl 1 (p0.fB.map (eInt .u8)))) (eInt .u8) 13 1 5 1 1 655360 (([]:List Int)) p0.fB rfl rfl rfl rfl kr kr kr kr kr (rows_extI _ _ _) (.inl rfl) kr (of_decide_eq_true (chk_some e_2)) kr kr ?_
 refine Runs.alln ?_
 refine Wp.j2 (fun p0 x11=>spec_l9Copy_j1 u p0 x11=some r) (fun p0 x11=>⟨[(2,.obj 2 0),(3,.obj 3 0)],[(2,[.nil,.nil,.i 0,.i 0,.i 0,.nil]),(3,[.own 197120,.own 197121,.i p0.fR.fGen,.i p0.fR.fSlot,.i p0.fR.fLen,.own 197125])],[(197120,.live 5 1 (((([]:List Int))++p0.fA).map (eInt .u8))),(197121,.live 5 1 (((([]:List Int))++p0.fB).map (eInt .u8))),(197125,.live 85 6 (x11.map Put.enc))]⟩) (fun p0 x11 h=>?_) ?_
 ·refine Wp.sa ?_
  obtain rfl:=oi h
  exact Wp.ret RetB
 refine Wp.sa ?_
 refine Wp.block ?_
 refine Wp.l3 (fun k_spec_l9Copy_l2 x5 p0 x6=>spec_l9Copy_l2 u k_spec_l9Copy_l2 x5 p0 x6=some r) (fun x5 p0 x6=>⟨[(1,.obj 1 0),(2,.obj 2 0),(3,.obj 3 0),(4,.i x5)],[(1,[.ext false (.sl 1 (p0.fA.map (eInt .u8))),.ext false (.sl 1 (p0.fB.map (eInt .u8))),.i p0.fR.fGen,.i p0.fR.fSlot,.i p0.fR.fLen,.ext false (.sl 6 (p0.fP.map Put.enc))]),(2,[.nil,.nil,.i 0,.i 0,.i 0,.nil]),(3,[.own 197120,.own 197121,.i p0.fR.fGen,.i p0.fR.fSlot,.i p0.fR.fLen,.own 197125])],[(197120,.live 5 1 (((([]:List Int))++p0.fA).map (eInt .u8))),(197121,.live 5 1 (((([]:List Int))++p0.fB).map (eInt .u8))),(197125,.live 85 6 (x6.map Put.enc))]⟩) (fun k_spec_l9Copy_l2 x5 p0 x6 h=>?_) h (lo [(197120,589824),(197121,851968),(197125,1048576)]) (fun _ _ _  h=>nomatch h)
 rw [spec_l9Copy_l2] at h
 refine Wp.seq ?_
 refine Wp.sr ?_
 refine Runs.batch 3 kr ?_
 refine Runs.lenX (e:=85) Put.enc p0.fP false 6 rfl rfl rfl kr kr kr kr ?_
 refine Runs.alln ?_
 refine Wp.c2 h (fun h=>?_) (fun h=>?_)
 ·refine Wp.sk ?_
  refine Wp.seq ?_
  refine Wp.block ?_
  refine Wp.sr ?_
  refine Runs.batch 3 kr ?_
  obtain ⟨y9,e_y9,h⟩:=bind_some h
  refine Runs.idxX (e:=85) (kk:=.i64) (sz:=6) Put.enc p0.fP x5 false rfl kr kr kr kr kr kr e_y9 ?_
  refine Runs.batch 1 kr ?_
  obtain ⟨r10,e_r10,h⟩:=bind_some h
  refine Runs.callDK 30 85 [] [.agg [.i y9.fWhat,.i y9.fAt,.ext false (.sl 1 (y9.fB.map (eInt .u8))),.i y9.fR.fGen,.i y9.fR.fSlot,.i y9.fR.fLen]] [.agg ((Put.enc y9).map .t)] (V.w [0,0,5,0,0,0] (Put.enc r10)) rfl rfl kr kr kr kr kr (spec_l9CopyPut_okd e_r10) kr ?_
  refine Runs.alln ?_
  refine Wp.rg [] [] ?_
  refine Runs.ap (ys:=[r10]) 4 35 85 6 197125 Put.enc h (fun h=>?_)
  refine Runs.all kr ?_
  refine blkN ?_
  refine thenN ?_
  refine Wp.rg [] [] ?_
  refine Runs.alln ?_
  exact ⟨_,_,_,h,lo [(197125,2293760)]⟩
 refine Wp.exit ?_
 refine thenE ?_
 refine thenE ?_
 refine blkE ?_
 refine thenN ?_
 exact ⟨_,_,h,lo []⟩
theorem spec_l9Record_ok {u p0 r} (h:spec_l9Record u p0=some r):CallOK Tryz.prog 93 [V.g (Record.enc p0)] (V.b r) []:=by
 unfold spec_l9Record at h
 refine ofb Tryz.f93 false ?_
 refine Wp.sa ?_
 refine Wp.sr ?_
 refine Runs.cl false 2 5 [.i p0.fGen,.i 0,.i 1000000] h (fun _=>spec_l1In_ok) (fun r1 h=>?_)
 refine Runs.c2 1 6 h (fun h=>?_) (fun h=>?_)
 ·refine Runs.cl false 2 9 [.i p0.fSlot,.i 0,.i 1] h (fun _=>spec_l1In_ok) (fun r2 h=>?_)
  refine Runs.c2 2 11 h (fun h=>?_) (fun h=>?_)
  ·refine Runs.cl false 2 14 [.i p0.fLen,.i 0,.i 240] h (fun _=>spec_l1In_ok) (fun r3 h=>?_)
   refine Runs.alln ?_
   obtain rfl:=oi h
   exact Wp.ret RetB
  refine Runs.alln ?_
  obtain rfl:=oi h
  exact Wp.ret RetB
 refine Runs.alln ?_
 obtain rfl:=oi h
 exact Wp.ret RetB
theorem spec_l9Slot_ok {u p0 p1 r} (h:spec_l9Slot u p0 p1=some r):CallOK Tryz.prog 94 [V.g (Disk.enc p0),V.i p1] (.one (.s r)) []:=by
 unfold spec_l9Slot at h
 refine ofb Tryz.f94 false ?_
 refine Wp.sa ?_
 refine Wp.seq ?_
 refine Wp.sa ?_
 refine Wp.c2 h (fun h=>?_) (fun h=>?_)
 ·refine Wp.sa ?_
  obtain rfl:=oi h
  exact Wp.ret RetB
 refine Wp.sk ?_
 refine Wp.sa ?_
 obtain rfl:=oi h
 exact Wp.ret RetB
theorem spec_l9Put_ok {u p0 r} (h:spec_l9Put u p0=some r):CallOK Tryz.prog 95 [V.g (Put.enc p0)] (V.b r) []:=by
 unfold spec_l9Put at h
 refine ofb Tryz.f95 false ?_
 refine Wp.sa ?_
 refine Wp.sa ?_
 refine Wp.seq ?_
 refine Wp.sa ?_
 refine Wp.c2 h (fun h=>?_) (fun h=>?_)
 ·refine Wp.sr ?_
  refine Runs.c2 4 11 h (fun h=>?_) (fun h=>?_)
  ·refine Runs.ln 2 5 (eInt .u8) p0.fB ?_
   refine Runs.c2 3 17 h (fun h=>?_) (fun h=>?_)
   ·refine Runs.cl false 2 20 [.agg ((Record.enc p0.fR).map .t)] h (fun _=>spec_l9Record_ok) (fun r1 h=>?_)
    refine Runs.alln ?_
    obtain rfl:=oi h
    exact Wp.ret RetB
   refine Runs.alln ?_
   obtain rfl:=oi h
   exact Wp.ret RetB
  refine Runs.alln ?_
  obtain rfl:=oi h
  exact Wp.ret RetB
 refine Wp.sk ?_
 refine Wp.sr ?_
 refine Runs.cl false 2 24 [.i p0.fWhat,.i 0,.i 1] h (fun _=>spec_l1In_ok) (fun r2 h=>?_)
 refine Runs.c2 1 25 h (fun h=>?_) (fun h=>?_)
 ·refine Runs.cl false 2 28 [.i p0.fAt,.i 0,.i 240] h (fun _=>spec_l1In_ok) (fun r3 h=>?_)
  refine Runs.c2 2 30 h (fun h=>?_) (fun h=>?_)
  ·refine Runs.ln 2 5 (eInt .u8) p0.fB ?_
   refine Runs.c2 6 39 h (fun h=>?_) (fun h=>?_)
   ·refine Runs.alln ?_
    obtain rfl:=oi h
    exact Wp.ret RetB
   refine Runs.alln ?_
   obtain rfl:=oi h
   exact Wp.ret RetB
  refine Runs.alln ?_
  obtain rfl:=oi h
  exact Wp.ret RetB
 refine Runs.alln ?_
 obtain rfl:=oi h
 exact Wp.ret RetB
theorem spec_DiskOk_ok {u p0 r} (h:spec_DiskOk u p0=some r):CallOK Tryz.prog 50 [V.g (Disk.enc p0)] (V.b r) []:=by
 unfold spec_DiskOk at h
 refine ofb Tryz.f50 false ?_
 refine Wp.sa ?_
 refine Wp.seq ?_
 refine Wp.j2 (fun x3 p0=>spec_DiskOk_j1 u x3 p0=some r) (fun x3 p0=>⟨[(1,.obj 1 0),(2,.b false),(37,.b x3)],[(1,((Disk.enc p0).map .t))],[]⟩) (fun x3 p0 h=>?_) ?_
 ·refine Wp.c2 h (fun h=>?_) (fun h=>?_)
  ·refine Wp.sa ?_
   obtain rfl:=oi h
   exact Wp.ret RetB
  refine Wp.sk ?_
  refine Wp.j0 (spec_DiskOk_j2 u=some r) ⟨[(2,.b false)],[],[]⟩ (fun h=>?_) ?_
  ·refine Wp.sa ?_
   obtain rfl:=oi h
   exact Wp.ret RetB
  refine Wp.sa ?_
  refine Wp.block ?_
  refine Wp.l2 (fun k_spec_DiskOk_l3 x5 p0=>spec_DiskOk_l3 u k_spec_DiskOk_l3 x5 p0=some r) (fun x5 p0=>⟨[(1,.obj 1 0),(2,.b false),(3,.i x5)],[(1,((Disk.enc p0).map .t))],[]⟩) (fun k_spec_DiskOk_l3 x5 p0 h=>?_) h (lo []) (fun _ _  h=>nomatch h)
  rw [spec_DiskOk_l3] at h
  refine Wp.seq ?_
  refine Wp.sr ?_
  refine Runs.ln 3 85 Put.enc p0.fP ?_
  refine Runs.alln ?_
  refine Wp.c2 h (fun h=>?_) (fun h=>?_)
  ·refine Wp.sk ?_
   refine Wp.seq ?_
   refine Wp.block ?_
   refine Wp.sr ?_
   refine Runs.ix 3 85 6 Put.enc h (fun y7 h _=>?_)
   refine Runs.cl false 1 50 [.agg ((Put.enc y7).map .t)] h (fun _=>spec_l9Put_ok) (fun r8 h=>?_)
   refine Runs.alln ?_
   refine Wp.c2 h (fun h=>?_) (fun h=>?_)
   ·refine Wp.sa ?_
    obtain rfl:=oi h
    exact Wp.ret RetB
   refine Wp.skip ?_
   refine blkN ?_
   refine thenN ?_
   refine Wp.rg [] [] ?_
   refine Runs.alln ?_
   exact ⟨_,_,h,lo []⟩
  refine Wp.exit ?_
  refine thenE ?_
  refine thenE ?_
  refine blkE ?_
  refine thenN ?_
  exact ⟨h,lo []⟩
 refine Wp.regionA (pOf []) (rhoOf [(1,.obj 1),(4,.obj 1),(5,.frz),(6,.frz),(7,.frz),(8,.frz),(9,.obj 1),(10,.frz),(11,.frz),(13,.frz),(14,.frz),(15,.obj 1),(16,.frz),(17,.frz),(19,.frz),(20,.frz),(21,.obj 1),(22,.obj 1),(23,.frz),(24,.frz),(25,.obj 1),(26,.obj 1),(27,.frz),(28,.frz),(29,.frz),(31,.frz),(32,.frz),(33,.obj 1),(34,.frz),(35,.frz)]) kr kr ?_
 refine Runs.ln 2 5 (eInt .u8) p0.fA ?_
 refine Runs.c2 2 8 h (fun h=>?_) (fun h=>?_)
 ·refine Runs.alln ?_
  exact ⟨_,_,h,lo []⟩
 refine Runs.ln 2 5 (eInt .u8) p0.fB ?_
 refine Runs.c2 3 14 h (fun h=>?_) (fun h=>?_)
 ·refine Runs.alln ?_
  exact ⟨_,_,h,lo []⟩
 refine Runs.cl false 2 17 [.agg ((Record.enc p0.fR).map .t)] h (fun _=>spec_l9Record_ok) (fun r1 h=>?_)
 refine Runs.c2 3 20 h (fun h=>?_) (fun h=>?_)
 ·refine Runs.alln ?_
  exact ⟨_,_,h,lo []⟩
 refine Runs.cl false 7 28 [.agg ((Disk.enc p0).map .t),.i p0.fR.fSlot] h (fun _=>spec_l9Slot_ok) (fun r2 h=>?_)
 refine Runs.ln 0 5 (eInt .u8) r2 ?_
 refine Runs.c2 3 32 h (fun h=>?_) (fun h=>?_)
 ·refine Runs.alln ?_
  exact ⟨_,_,h,lo []⟩
 refine Runs.ln 2 85 Put.enc p0.fP ?_
 refine Runs.alln ?_
 exact ⟨_,_,h,lo []⟩
theorem spec_Spare_ok {u p0 r} (h:spec_Spare u p0=some r):CallOK Tryz.prog 39 [V.g (Disk.enc p0)] (V.i r) []:=by
 unfold spec_Spare at h
 refine ofb Tryz.f39 false ?_
 refine Wp.sa ?_
 refine Wp.sa ?_
 obtain rfl:=oi h
 exact Wp.ret RetB
theorem spec_l9Add_okd {u p0 p1 r} (h:spec_l9Add u p0 p1=some r):DOK Tryz.prog 84 [V.g (Disk.enc p0),V.g (Put.enc p1)] (.tup [V.w [5,5,0,0,0,85] (Disk.enc r.1),V.b r.2]):=by
 unfold spec_l9Add at h
 refine DOK.of_bodyK (fn:=Tryz.f84) (m:=true) kr rfl kr kr kr ?_
 refine Wp.sa ?_
 refine Wp.sr ?_
 refine Runs.batch 1 kr ?_
 obtain ⟨r1,e_r1,h⟩:=bind_some h
 refine Runs.callDK 8 40 [] [.agg [.ext false (.sl 1 (p0.fA.map (eInt .u8))),.ext false (.sl 1 (p0.fB.map (eInt .u8))),.i p0.fR.fGen,.i p0.fR.fSlot,.i p0.fR.fLen,.ext false (.sl 6 (p0.fP.map Put.enc))]] [.agg ((Disk.enc p0).map .t)] (V.w [5,5,0,0,0,85] (Disk.enc r1)) rfl rfl kr kr kr kr kr (spec_l9Copy_okd e_r1) kr ?_
 refine Runs.alln ?_
 refine Wp.seq ?_
 refine Wp.regionA (pOf []) (rhoOf [(3,.obj 3),(6,.obj 6),(9,.obj 6),(10,.own 8),(11,.frz),(12,.own 12),(13,.own 13),(14,.own 14),(15,.obj 6)]) kr kr ?_
 refine Runs.batch 3 kr ?_
 obtain ⟨r2,e_r2,h⟩:=bind_some h
 refine Runs.callDK 12 85 [] [.agg [.i p1.fWhat,.i p1.fAt,.ext false (.sl 1 (p1.fB.map (eInt .u8))),.i p1.fR.fGen,.i p1.fR.fSlot,.i p1.fR.fLen]] [.agg ((Put.enc p1).map .t)] (V.w [0,0,5,0,0,0] (Put.enc r2)) rfl rfl kr kr kr kr kr (spec_l9CopyPut_okd e_r2) kr ?_
 refine Runs.ap (ys:=[r2]) 1 14 85 6 524293 Put.enc h (fun h=>?_)
 refine Runs.alln ?_
 refine Wp.seq ?_
 refine Wp.sr ?_
 refine Runs.cb 1 17 [.agg [.own 524288,.own 524289,.i r1.fR.fGen,.i r1.fR.fSlot,.i r1.fR.fLen,.own 917504]] h (fun _=>spec_DiskOk_ok) (fun r4 h=>?_)
 refine Runs.alln ?_
 refine Wp.c2 h (fun h=>?_) (fun h=>?_)
 ·refine Wp.sr ?_
  refine Runs.batch 1 kr ?_
  obtain ⟨r5,e_r5,h⟩:=bind_some h
  refine Runs.callDK 20 40 [] [.agg [.ext false (.sl 1 (p0.fA.map (eInt .u8))),.ext false (.sl 1 (p0.fB.map (eInt .u8))),.i p0.fR.fGen,.i p0.fR.fSlot,.i p0.fR.fLen,.ext false (.sl 6 (p0.fP.map Put.enc))]] [.agg ((Disk.enc p0).map .t)] (V.w [5,5,0,0,0,85] (Disk.enc r5)) rfl rfl kr kr kr kr kr (spec_l9Copy_okd e_r5) kr ?_
  refine Runs.alln ?_
  obtain rfl:=oi h
  exact Wp.ret RetB
 refine Wp.sk ?_
 refine Wp.sa ?_
 obtain rfl:=oi h
 exact Wp.ret RetB
theorem spec_PutBytes_okd {u p0 p1 p2 p3 r} (h:spec_PutBytes u p0 p1 p2 p3=some r):DOK Tryz.prog 55 [V.g (Disk.enc p0),V.i p1,V.i p2,.one (.s p3)] (.tup [V.w [5,5,0,0,0,85] (Disk.enc r.1),V.b r.2]):=by
 unfold spec_PutBytes at h
 refine DOK.of_bodyK (fn:=Tryz.f55) (m:=true) kr rfl kr kr kr ?_
 refine Wp.sa ?_
 refine Wp.seq ?_
 refine Wp.cl false 1 11 [.i p1,.i 0,.i 1] h (fun _=>spec_l1In_ok) (fun r1 h=>?_)
 refine Wp.c2 h (fun h=>?_) (fun h=>?_)
 ·refine Wp.sr ?_
  refine Runs.batch 1 kr ?_
  obtain ⟨r2,e_r2,h⟩:=bind_some h
  refine Runs.callDK 14 40 [] [.agg [.ext false (.sl 1 (p0.fA.map (eInt .u8))),.ext false (.sl 1 (p0.fB.map (eInt .u8))),.i p0.fR.fGen,.i p0.fR.fSlot,.i p0.fR.fLen,.ext false (.sl 6 (p0.fP.map Put.enc))]] [.agg ((Disk.enc p0).map .t)] (V.w [5,5,0,0,0,85] (Disk.enc r2)) rfl rfl kr kr kr kr kr (spec_l9Copy_okd e_r2) kr ?_
  refine Runs.alln ?_
  obtain rfl:=oi h
  exact Wp.ret RetB
 refine Wp.sk ?_
 refine Wp.sr ?_
 refine Runs.batch 5 kr ?_
 obtain ⟨r3,e_r3,h⟩:=bind_some h
 refine Runs.callDK 20 84 [] [.agg [.ext false (.sl 1 (p0.fA.map (eInt .u8))),.ext false (.sl 1 (p0.fB.map (eInt .u8))),.i p0.fR.fGen,.i p0.fR.fSlot,.i p0.fR.fLen,.ext false (.sl 6 (p0.fP.map Put.enc))],.agg [.i p1,.i p2,.ext false (.sl 1 (p3.map (eInt .u8))),.i 0,.i 0,.i 0]] [.agg ((Disk.enc p0).map .t),.agg [.i p1,.i p2,.s p3,.i 0,.i 0,.i 0]] (.tup [V.w [5,5,0,0,0,85] (Disk.enc r3.1),V.b r3.2]) rfl rfl kr kr kr kr kr (spec_l9Add_okd e_r3) kr ?_
 refine Runs.alln ?_
 obtain rfl:=oi h
 exact Wp.ret RetB
theorem spec_StageAll_okd {u p0 p1 p2 r} (h:spec_StageAll u p0 p1 p2=some r):DOK Tryz.prog 10 [V.g (Disk.enc p0),.one (.s p1),V.i p2] (.tup [V.w [5,5,0,0,0,85] (Disk.enc r.1),V.b r.2]):=by
 unfold spec_StageAll at h
 refine DOK.of_bodyK (fn:=Tryz.f10) (m:=true) kr rfl kr kr kr ?_
 refine Wp.sa ?_
 refine Wp.sr ?_
 refine Runs.batch 1 kr ?_
 obtain ⟨r1,e_r1,h⟩:=bind_some h
 refine Runs.callDK 17 40 [] [.agg [.ext false (.sl 1 (p0.fA.map (eInt .u8))),.ext false (.sl 1 (p0.fB.map (eInt .u8))),.i p0.fR.fGen,.i p0.fR.fSlot,.i p0.fR.fLen,.ext false (.sl 6 (p0.fP.map Put.enc))]] [.agg ((Disk.enc p0).map .t)] (V.w [5,5,0,0,0,85] (Disk.enc r1)) rfl rfl kr kr kr kr kr (spec_l9Copy_okd e_r1) kr ?_
 refine Runs.alln ?_
 refine Wp.seq ?_
 refine Wp.j5 (fun p1 p2 x4 r1 p0=>spec_StageAll_j1 u p1 p2 x4 r1 p0=some r) (fun p1 p2 x4 r1 p0=>⟨[(1,.ext false (.sl 1 (p1.map (eInt .u8)))),(2,.i p2),(3,.obj 3 0),(6,.obj 6 0),(7,.b false),(8,.obj 8 0),(33,.b x4)],[(3,[.ext false (.sl 1 (p0.fA.map (eInt .u8))),.ext false (.sl 1 (p0.fB.map (eInt .u8))),.i p0.fR.fGen,.i p0.fR.fSlot,.i p0.fR.fLen,.ext false (.sl 6 (p0.fP.map Put.enc))]),(6,[.nil,.nil,.i 0,.i 0,.i 0,.nil]),(8,[.own 524800,.own 524801,.i r1.fR.fGen,.i r1.fR.fSlot,.i r1.fR.fLen,.own 524805])],[(524800,.live 5 1 (r1.fA.map (eInt .u8))),(524801,.live 5 1 (r1.fB.map (eInt .u8))),(524805,.live 85 6 (r1.fP.map Put.enc))]⟩) (fun p1 p2 x4 r1 p0 h=>?_) ?_
 ·refine Wp.c2 h (fun h=>?_) (fun h=>?_)
  ·refine Wp.sa ?_
   obtain rfl:=oi h
   exact Wp.ret RetB
  refine Wp.sk ?_
  refine Wp.j6 (fun x32 x33 x34 x35 x36 x37=>spec_StageAll_j2 u x32 x33 x34 x35 x36 x37=some r) (fun x32 x33 x34 x35 x36 x37=>⟨[(6,.obj 6 0),(7,.b false),(8,.obj 8 0)],[(6,[.nil,.nil,.i 0,.i 0,.i 0,.nil]),(8,[.own 524800,.own 524801,.i x34,.i x35,.i x36,.own 524805])],[(524800,.live 5 1 (x32.map (eInt .u8))),(524801,.live 5 1 (x33.map (eInt .u8))),(524805,.live 85 6 (x37.map Put.enc))]⟩) (fun x32 x33 x34 x35 x36 x37 h=>?_) ?_
  ·refine Wp.sa ?_
   obtain rfl:=oi h
   exact Wp.ret RetB
  refine Wp.sa ?_
  refine Wp.block ?_
  refine Wp.l10 (fun k_spec_StageAll_l3 p1 p2 x12 x13 x14 x15 x16 x17 x18 p0=>spec_StageAll_l3 u k_spec_StageAll_l3 p1 p2 x12 x13 x14 x15 x16 x17 x18 p0=some r) (fun p1 p2 x12 x13 x14 x15 x16 x17 x18 p0=>⟨[(1,.ext false (.sl 1 (p1.map (eInt .u8)))),(2,.i p2),(3,.obj 3 0),(6,.obj 6 0),(7,.b false),(8,.obj 8 0),(9,.i x12)],[(3,[.ext false (.sl 1 (p0.fA.map (eInt .u8))),.ext false (.sl 1 (p0.fB.map (eInt .u8))),.i p0.fR.fGen,.i p0.fR.fSlot,.i p0.fR.fLen,.ext false (.sl 6 (p0.fP.map Put.enc))]),(6,[.nil,.nil,.i 0,.i 0,.i 0,.nil]),(8,[.own 524800,.own 524801,.i x15,.i x16,.i x17,.own 524805])],[(524800,.live 5 1 (x13.map (eInt .u8))),(524801,.live 5 1 (x14.map (eInt .u8))),(524805,.live 85 6 (x18.map Put.enc))]⟩) (fun k_spec_StageAll_l3 p1 p2 x12 x13 x14 x15 x16 x17 x18 p0 h=>?_) h (lo []) (fun _ _ _ _ _ _ _ _ _ _  h=>nomatch h)
  rw [spec_StageAll_l3] at h
  refine Wp.seq ?_
  refine Wp.sr ?_
  refine Runs.batch 3 kr ?_
  refine Runs.lenX (e:=5) (eInt .u8) p1 false 1 rfl rfl rfl kr kr kr kr ?_
  refine Runs.cl false 0 39 [.i p2,.i ((p1.length:Int))] h (fun _=>spec_Blocks_ok) (fun r26 h=>?_)
  refine Runs.alln ?_
  refine Wp.c2 h (fun h=>?_) (fun h=>?_)
  ·refine Wp.sk ?_
   refine Wp.seq ?_
   refine Wp.block ?_
   refine Wp.sr ?_
   refine Runs.batch 2 kr ?_
   refine Runs.lenX (e:=5) (eInt .u8) p1 false 1 rfl rfl rfl kr kr kr kr ?_
   refine Runs.cl false 1 48 [.i p2,.i ((p1.length:Int)),.i x12] h (fun _=>spec_SpanOf_ok) (fun r27 h=>?_)
   refine Runs.alln ?_
   refine Wp.sr ?_
   refine Runs.batch 3 kr ?_
   obtain ⟨r28,e_r28,h⟩:=bind_some h
   refine Runs.callDK 55 54 [] [.ext false (.sl 1 (p1.map (eInt .u8))),.i p2,.i x12] [.one (.s p1),.one (.i p2),.one (.i x12)] (.tup [.one (.ow 5 1 (r28.1.map (eInt .u8))),V.b r28.2]) rfl rfl kr kr kr kr kr (spec_BlockAt_okd e_r28) kr ?_
   refine Runs.alln ?_
   refine Wp.seq ?_
   refine Wp.le (Le.trans (Le.frzO 8 0 524800 5 1 [.own 524800,.own 524801,.i x15,.i x16,.i x17,.own 524805] (x13.map (eInt .u8)) kr kr kr) (Le.trans (Le.frzO 8 1 524801 5 1 [.s x13,.own 524801,.i x15,.i x16,.i x17,.own 524805] (x14.map (eInt .u8)) kr kr kr) (Le.frzO 8 5 524805 85 6 [.s x13,.s x14,.i x15,.i x16,.i x17,.own 524805] (x18.map Put.enc) kr kr kr))) ?_
   refine Wp.regionA (pOf []) (rhoOf [(3,.obj 3),(8,.obj 8),(10,.frz),(12,.own 55),(14,.obj 14),(59,.frz),(60,.frz),(61,.frz),(62,.frz),(63,.own 55),(65,.own 64),(66,.frz)]) kr kr ?_
   refine Runs.cb 2 61 [.agg [.ext false (.sl 1 (p0.fA.map (eInt .u8))),.ext false (.sl 1 (p0.fB.map (eInt .u8))),.i p0.fR.fGen,.i p0.fR.fSlot,.i p0.fR.fLen,.ext false (.sl 6 (p0.fP.map Put.enc))]] h (fun _=>spec_Spare_ok) (fun r29 h=>?_)
   refine Runs.batch 2 kr ?_
   obtain ⟨r30,e_r30,h⟩:=bind_some h
   refine Runs.callDK 64 55 [] [.agg [.s x13,.s x14,.i x15,.i x16,.i x17,.t (.sl 6 (x18.map Put.enc))],.i r29,.i r27.1,.own 3604480] [.agg [.s x13,.s x14,.i x15,.i x16,.i x17,.t (.sl 6 (x18.map Put.enc))],.one (.i r29),.one (.i r27.1),.one (.s r28.1)] (.tup [V.w [5,5,0,0,0,85] (Disk.enc r30.1),V.b r30.2]) rfl rfl kr kr kr kr kr (spec_PutBytes_okd e_r30) kr ?_
   refine Runs.alln ?_
   refine Wp.seq ?_
   refine Wp.sa ?_
   refine Wp.c2 h (fun h=>?_) (fun h=>?_)
   ·refine Wp.sr ?_
    refine Runs.batch 1 kr ?_
    obtain ⟨r31,e_r31,h⟩:=bind_some h
    refine Runs.callDK 70 40 [] [.agg [.ext false (.sl 1 (p0.fA.map (eInt .u8))),.ext false (.sl 1 (p0.fB.map (eInt .u8))),.i p0.fR.fGen,.i p0.fR.fSlot,.i p0.fR.fLen,.ext false (.sl 6 (p0.fP.map Put.enc))]] [.agg ((Disk.enc p0).map .t)] (V.w [5,5,0,0,0,85] (Disk.enc r31)) rfl rfl kr kr kr kr kr (spec_l9Copy_okd e_r31) kr ?_
    refine Runs.alln ?_
    obtain rfl:=oi h
    exact Wp.ret RetB
   refine Wp.sk ?_
   refine Wp.rg [] [] ?_
   refine Runs.all kr ?_
   refine blkN ?_
   refine thenN ?_
   refine Wp.rg [] [] ?_
   refine Runs.alln ?_
   exact ⟨_,_,_,_,_,_,_,_,_,_,h,lo [(524800,4194304),(524801,4194305),(524805,4194309)]⟩
  refine Wp.exit ?_
  refine thenE ?_
  refine thenE ?_
  refine blkE ?_
  refine thenN ?_
  exact ⟨_,_,_,_,_,_,h,lo []⟩
 refine Wp.rg [] [] ?_
 refine Runs.cb 1 19 [.agg [.ext false (.sl 1 (p0.fA.map (eInt .u8))),.ext false (.sl 1 (p0.fB.map (eInt .u8))),.i p0.fR.fGen,.i p0.fR.fSlot,.i p0.fR.fLen,.ext false (.sl 6 (p0.fP.map Put.enc))]] h (fun _=>spec_DiskOk_ok) (fun r2 h=>?_)
 refine Runs.c2 2 21 h (fun h=>?_) (fun h=>?_)
 ·refine Runs.alln ?_
  exact ⟨_,_,_,_,_,h,lo [(524800,1114112),(524801,1114113),(524805,1114117)]⟩
 refine Runs.batch 2 kr ?_
 refine Runs.lenX (e:=85) Put.enc p0.fP false 6 rfl rfl rfl kr kr kr kr ?_
 refine Runs.c2 3 27 h (fun h=>?_) (fun h=>?_)
 ·refine Runs.alln ?_
  exact ⟨_,_,_,_,_,h,lo [(524800,1114112),(524801,1114113),(524805,1114117)]⟩
 refine Runs.batch 2 kr ?_
 refine Runs.lenX (e:=5) (eInt .u8) p1 false 1 rfl rfl rfl kr kr kr kr ?_
 refine Runs.cl false 0 31 [.i p2,.i ((p1.length:Int))] h (fun _=>spec_SizeOk_ok) (fun r3 h=>?_)
 refine Runs.alln ?_
 exact ⟨_,_,_,_,_,h,lo [(524800,1114112),(524801,1114113),(524805,1114117)]⟩
theorem spec_l9Lay_okd {u p0 p1 p2 r} (h:spec_l9Lay u p0 p1 p2=some r):DOK Tryz.prog 129 [.one (.s p0),V.i p1,.one (.s p2)] (.one (.ow 5 1 (r.map (eInt .u8)))):=by
 unfold spec_l9Lay at h
 refine DOK.of_bodyK (fn:=Tryz.f129) (m:=true) kr rfl kr kr kr ?_
 refine Wp.sa ?_
 refine Wp.sr ?_
 refine Runs.batch 2 kr ?_
 obtain ⟨_,e_1,h⟩:=bind_some h
 refine Runs.appT (y:=.ext false (.sl 1 (p0.map (eInt .u8)))) (eInt .u8) 11 1 5 1 1 589824 (([]:List Int)) p0 rfl rfl rfl rfl kr kr kr kr kr (rows_extI _ _ _) (.inl rfl) kr (of_decide_eq_true (chk_some e_1)) kr kr ?_
 refine Runs.alln ?_
 refine Wp.j3 (fun p1 p2 x5=>spec_l9Lay_j1 u p1 p2 x5=some r) (fun p1 p2 x5=>⟨[(1,.i p1),(2,.ext false (.sl 1 (p2.map (eInt .u8)))),(6,.nil),(7,.own 458753)],[],[(458753,.live 5 1 (x5.map (eInt .u8)))]⟩) (fun p1 p2 x5 h=>?_) ?_
 ·refine Wp.j1 (fun x14=>spec_l9Lay_j2 u x14=some r) (fun x14=>⟨[(6,.nil),(7,.own 458753)],[],[(458753,.live 5 1 (x14.map (eInt .u8)))]⟩) (fun x14 h=>?_) ?_
  ·refine Wp.sa ?_
   obtain rfl:=oi h
   exact Wp.ret RetB
  refine Wp.sa ?_
  refine Wp.block ?_
  refine Wp.l4 (fun k_spec_l9Lay_l3 p1 p2 x8 x9=>spec_l9Lay_l3 u k_spec_l9Lay_l3 p1 p2 x8 x9=some r) (fun p1 p2 x8 x9=>⟨[(1,.i p1),(2,.ext false (.sl 1 (p2.map (eInt .u8)))),(6,.nil),(7,.own 458753),(8,.i x9)],[],[(458753,.live 5 1 (x8.map (eInt .u8)))]⟩) (fun k_spec_l9Lay_l3 p1 p2 x8 x9 h=>?_) h (lo []) (fun _ _ _ _  h=>nomatch h)
  rw [spec_l9Lay_l3] at h
  refine Wp.seq ?_
  refine Wp.sr ?_
  refine Runs.batch 2 kr ?_
  refine Runs.lenX (e:=5) (eInt .u8) p2 false 1 rfl rfl rfl kr kr kr kr ?_
  refine Runs.alln ?_
  refine Wp.c2 h (fun h=>?_) (fun h=>?_)
  ·refine Wp.sk ?_
   refine Wp.seq ?_
   refine Wp.block ?_
   refine Wp.rg [] [] ?_
   refine Runs.batch 6 kr ?_
   obtain ⟨y12,e_y12,h⟩:=bind_some h
   refine Runs.idxX (e:=5) (kk:=.i64) (sz:=1) (eInt .u8) p2 x9 false rfl kr kr kr kr kr kr e_y12 ?_
   refine Runs.ixo 1 5 1 458753 5 (eInt .u8) h (fun y13 h e_y13=>?_)
   refine Runs.storeT (e:=5) (sz:=1) (m:=1) (eInt .u8) x8 458753 (Int.toNat (bAdd .i64 p1 x9)) 0 y12 (.t (.int .u8 y12)) [.int .u8 y12] rfl kr kr kr kr kr kr kr kr ((idx_some e_y13).2) kr kr ?_
   refine Runs.all kr ?_
   refine blkN ?_
   refine thenN ?_
   refine Wp.rg [] [] ?_
   refine Runs.alln ?_
   exact ⟨_,_,_,_,h,lo []⟩
  refine Wp.exit ?_
  refine thenE ?_
  refine thenE ?_
  refine blkE ?_
  refine thenN ?_
  exact ⟨_,h,lo []⟩
 refine Wp.block ?_
 refine Wp.l3 (fun k_spec_l9Lay_l4 p1 p2 x3=>spec_l9Lay_l4 u k_spec_l9Lay_l4 p1 p2 x3=some r) (fun p1 p2 x3=>⟨[(1,.i p1),(2,.ext false (.sl 1 (p2.map (eInt .u8)))),(6,.nil),(7,.own 458753)],[],[(458753,.live 5 1 (x3.map (eInt .u8)))]⟩) (fun k_spec_l9Lay_l4 p1 p2 x3 h=>?_) h (lo [(458753,720896)]) (fun _ _ _  h=>nomatch h)
 rw [spec_l9Lay_l4] at h
 refine Wp.seq ?_
 refine Wp.sr ?_
 refine Runs.ln 1 5 (eInt .u8) x3 ?_
 refine Runs.batch 2 kr ?_
 refine Runs.lenX (e:=5) (eInt .u8) p2 false 1 rfl rfl rfl kr kr kr kr ?_
 refine Runs.alln ?_
 refine Wp.c2 h (fun h=>?_) (fun h=>?_)
 ·refine Wp.sk ?_
  refine Wp.block ?_
  refine Wp.rg [] [] ?_
  refine Runs.ap 2 21 5 1 458753 (eInt .u8) h (fun h=>?_)
  refine Runs.all kr ?_
  refine blkN ?_
  refine thenN ?_
  exact ⟨_,_,_,h,lo [(458753,1376256)]⟩
 refine Wp.exit ?_
 refine thenE ?_
 refine thenE ?_
 refine blkE ?_
 refine thenN ?_
 exact ⟨_,_,_,h,lo []⟩
theorem spec_OnePut_okd {u p0 p1 r} (h:spec_OnePut u p0 p1=some r):DOK Tryz.prog 83 [V.g (Disk.enc p0),V.g (Put.enc p1)] (V.w [5,5,0,0,0,85] (Disk.enc r)):=by
 unfold spec_OnePut at h
 refine DOK.of_bodyK (fn:=Tryz.f83) (m:=true) kr rfl kr kr kr ?_
 refine Wp.sa ?_
 refine Wp.sr ?_
 refine Runs.batch 1 kr ?_
 obtain ⟨r1,e_r1,h⟩:=bind_some h
 refine Runs.callDK 7 40 [] [.agg [.ext false (.sl 1 (p0.fA.map (eInt .u8))),.ext false (.sl 1 (p0.fB.map (eInt .u8))),.i p0.fR.fGen,.i p0.fR.fSlot,.i p0.fR.fLen,.ext false (.sl 6 (p0.fP.map Put.enc))]] [.agg ((Disk.enc p0).map .t)] (V.w [5,5,0,0,0,85] (Disk.enc r1)) rfl rfl kr kr kr kr kr (spec_l9Copy_okd e_r1) kr ?_
 refine Runs.alln ?_
 refine Wp.j6 (fun x5 x6 x7 x8 x9 r1=>spec_OnePut_j1 u x5 x6 x7 x8 x9 r1=some r) (fun x5 x6 x7 x8 x9 r1=>⟨[(4,.obj 4 0),(5,.obj 5 0)],[(4,[.nil,.nil,.i 0,.i 0,.i 0,.nil]),(5,[.own 328192,.own 328193,.i x7,.i x8,.i x9,.own 328197])],[(328192,.live 5 1 (x5.map (eInt .u8))),(328193,.live 5 1 (x6.map (eInt .u8))),(328197,.live 85 6 (r1.fP.map Put.enc))]⟩) (fun x5 x6 x7 x8 x9 r1 h=>?_) ?_
 ·refine Wp.sa ?_
  obtain rfl:=oi h
  exact Wp.ret RetB
 refine Wp.block ?_
 refine Wp.sr ?_
 refine Runs.cb 1 13 [.agg [.i p1.fWhat,.i p1.fAt,.ext false (.sl 1 (p1.fB.map (eInt .u8))),.i p1.fR.fGen,.i p1.fR.fSlot,.i p1.fR.fLen]] h (fun _=>spec_l9Put_ok) (fun r2 h=>?_)
 refine Runs.alln ?_
 refine Wp.c2 h (fun h=>?_) (fun h=>?_)
 ·refine Wp.skip ?_
  refine blkN ?_
  refine thenN ?_
  exact ⟨_,_,_,_,_,_,h,lo [(328192,458752),(328193,458753),(328197,458757)]⟩
 refine Wp.sa ?_
 refine Wp.c2 h (fun h=>?_) (fun h=>?_)
 ·refine Wp.rg [] [] ?_
  refine Runs.batch 6 kr ?_
  obtain ⟨r3,e_r3,h⟩:=bind_some h
  refine Runs.callDK 25 129 [] [.ext false (.sl 1 (p0.fA.map (eInt .u8))),.i p1.fAt,.ext false (.sl 1 (p1.fB.map (eInt .u8)))] [.one (.s p0.fA),.one (.i p1.fAt),.one (.s p1.fB)] (.one (.ow 5 1 (r3.map (eInt .u8)))) rfl rfl kr kr kr kr kr (spec_l9Lay_okd e_r3) kr ?_
  refine Runs.all kr ?_
  refine blkN ?_
  refine thenN ?_
  exact ⟨_,_,_,_,_,_,h,lo [(328192,1638400),(328193,458753),(328197,458757)]⟩
 refine Wp.sa ?_
 refine Wp.c2 h (fun h=>?_) (fun h=>?_)
 ·refine Wp.rg [] [] ?_
  refine Runs.batch 6 kr ?_
  obtain ⟨r4,e_r4,h⟩:=bind_some h
  refine Runs.callDK 37 129 [] [.ext false (.sl 1 (p0.fB.map (eInt .u8))),.i p1.fAt,.ext false (.sl 1 (p1.fB.map (eInt .u8)))] [.one (.s p0.fB),.one (.i p1.fAt),.one (.s p1.fB)] (.one (.ow 5 1 (r4.map (eInt .u8)))) rfl rfl kr kr kr kr kr (spec_l9Lay_okd e_r4) kr ?_
  refine Runs.all kr ?_
  refine blkN ?_
  refine thenN ?_
  exact ⟨_,_,_,_,_,_,h,lo [(328192,458752),(328193,2424832),(328197,458757)]⟩
 refine Wp.rg [] [] ?_
 refine Runs.all kr ?_
 refine blkN ?_
 refine thenN ?_
 exact ⟨_,_,_,_,_,_,h,lo [(328192,458752),(328193,458753),(328197,458757)]⟩
theorem spec_Sure_okd {u p0 r} (h:spec_Sure u p0=some r):DOK Tryz.prog 37 [V.g (Disk.enc p0)] (V.w [5,5,0,0,0,85] (Disk.enc r)):=by
 unfold spec_Sure at h
 refine DOK.of_bodyK (fn:=Tryz.f37) (m:=true) kr rfl kr kr kr ?_
 refine Wp.sa ?_
 refine Wp.sr ?_
 refine Runs.batch 1 kr ?_
 obtain ⟨r1,e_r1,h⟩:=bind_some h
 refine Runs.callDK 6 40 [] [.agg [.ext false (.sl 1 (p0.fA.map (eInt .u8))),.ext false (.sl 1 (p0.fB.map (eInt .u8))),.i p0.fR.fGen,.i p0.fR.fSlot,.i p0.fR.fLen,.ext false (.sl 6 (p0.fP.map Put.enc))]] [.agg ((Disk.enc p0).map .t)] (V.w [5,5,0,0,0,85] (Disk.enc r1)) rfl rfl kr kr kr kr kr (spec_l9Copy_okd e_r1) kr ?_
 refine Runs.alln ?_
 refine Wp.seq ?_
 refine Wp.sr ?_
 refine Runs.cb 1 8 [.agg [.ext false (.sl 1 (p0.fA.map (eInt .u8))),.ext false (.sl 1 (p0.fB.map (eInt .u8))),.i p0.fR.fGen,.i p0.fR.fSlot,.i p0.fR.fLen,.ext false (.sl 6 (p0.fP.map Put.enc))]] h (fun _=>spec_DiskOk_ok) (fun r2 h=>?_)
 refine Runs.alln ?_
 refine Wp.c2 h (fun h=>?_) (fun h=>?_)
 ·refine Wp.sa ?_
  obtain rfl:=oi h
  exact Wp.ret RetB
 refine Wp.sk ?_
 refine Wp.j6 (fun x26 x27 x28 x29 x30 x31=>spec_Sure_j1 u x26 x27 x28 x29 x30 x31=some r) (fun x26 x27 x28 x29 x30 x31=>⟨[(2,.obj 2 0),(3,.obj 3 0)],[(2,[.nil,.nil,.i 0,.i 0,.i 0,.nil]),(3,[.own 197120,.own 197121,.i x28,.i x29,.i x30,.own 197125])],[(197120,.live 5 1 (x26.map (eInt .u8))),(197121,.live 5 1 (x27.map (eInt .u8))),(197125,.live 85 6 (x31.map Put.enc))]⟩) (fun x26 x27 x28 x29 x30 x31 h=>?_) ?_
 ·refine Wp.sa ?_
  refine Wp.sa ?_
  obtain rfl:=oi h
  exact Wp.ret RetB
 refine Wp.sa ?_
 refine Wp.block ?_
 refine Wp.l8 (fun k_spec_Sure_l2 x10 p0 x11 x12 x13 x14 x15 x16=>spec_Sure_l2 u k_spec_Sure_l2 x10 p0 x11 x12 x13 x14 x15 x16=some r) (fun x10 p0 x11 x12 x13 x14 x15 x16=>⟨[(1,.obj 1 0),(2,.obj 2 0),(3,.obj 3 0),(4,.i x10)],[(1,[.ext false (.sl 1 (p0.fA.map (eInt .u8))),.ext false (.sl 1 (p0.fB.map (eInt .u8))),.i p0.fR.fGen,.i p0.fR.fSlot,.i p0.fR.fLen,.ext false (.sl 6 (p0.fP.map Put.enc))]),(2,[.nil,.nil,.i 0,.i 0,.i 0,.nil]),(3,[.own 197120,.own 197121,.i x13,.i x14,.i x15,.own 197125])],[(197120,.live 5 1 (x11.map (eInt .u8))),(197121,.live 5 1 (x12.map (eInt .u8))),(197125,.live 85 6 (x16.map Put.enc))]⟩) (fun k_spec_Sure_l2 x10 p0 x11 x12 x13 x14 x15 x16 h=>?_) h (lo [(197120,393216),(197121,393217),(197125,393221)]) (fun _ _ _ _ _ _ _ _  h=>nomatch h)
 rw [spec_Sure_l2] at h
 refine Wp.seq ?_
 refine Wp.sr ?_
 refine Runs.batch 3 kr ?_
 refine Runs.lenX (e:=85) Put.enc p0.fP false 6 rfl rfl rfl kr kr kr kr ?_
 refine Runs.alln ?_
 refine Wp.c2 h (fun h=>?_) (fun h=>?_)
 ·refine Wp.sk ?_
  refine Wp.seq ?_
  refine Wp.block ?_
  refine Wp.le (Le.trans (Le.frzO 3 0 197120 5 1 [.own 197120,.own 197121,.i x13,.i x14,.i x15,.own 197125] (x11.map (eInt .u8)) kr kr kr) (Le.trans (Le.frzO 3 1 197121 5 1 [.s x11,.own 197121,.i x13,.i x14,.i x15,.own 197125] (x12.map (eInt .u8)) kr kr kr) (Le.frzO 3 5 197125 85 6 [.s x11,.s x12,.i x13,.i x14,.i x15,.own 197125] (x16.map Put.enc) kr kr kr))) ?_
  refine Wp.regionA (pOf []) (rhoOf [(1,.obj 1),(3,.obj 3),(4,.frz),(18,.frz),(19,.obj 1),(20,.frz),(21,.frz),(22,.frz),(23,.frz),(24,.own 24)]) kr kr ?_
  refine Runs.batch 4 kr ?_
  obtain ⟨y24,e_y24,h⟩:=bind_some h
  refine Runs.idxX (e:=85) (kk:=.i64) (sz:=6) Put.enc p0.fP x10 false rfl kr kr kr kr kr kr e_y24 ?_
  refine Runs.batch 1 kr ?_
  obtain ⟨r25,e_r25,h⟩:=bind_some h
  refine Runs.callDK 24 83 [] [.agg [.s x11,.s x12,.i x13,.i x14,.i x15,.t (.sl 6 (x16.map Put.enc))],.agg [.i y24.fWhat,.i y24.fAt,.ext false (.sl 1 (y24.fB.map (eInt .u8))),.i y24.fR.fGen,.i y24.fR.fSlot,.i y24.fR.fLen]] [.agg [.s x11,.s x12,.i x13,.i x14,.i x15,.t (.sl 6 (x16.map Put.enc))],.agg ((Put.enc y24).map .t)] (V.w [5,5,0,0,0,85] (Disk.enc r25)) rfl rfl kr kr kr kr kr (spec_OnePut_okd e_r25) kr ?_
  refine Runs.all kr ?_
  refine blkN ?_
  refine thenN ?_
  refine Wp.rg [] [] ?_
  refine Runs.alln ?_
  exact ⟨_,_,_,_,_,_,_,_,h,lo [(197120,1572864),(197121,1572865),(197125,1572869)]⟩
 refine Wp.exit ?_
 refine thenE ?_
 refine thenE ?_
 refine blkE ?_
 refine thenN ?_
 exact ⟨_,_,_,_,_,_,h,lo []⟩
theorem spec_l9CopyPut_ok {u p0 r} (h:spec_l9CopyPut u p0=some r):CallOK Tryz.prog 85 [V.g (Put.enc p0)] (V.w [0,0,5,0,0,0] (Put.enc r)) []:=by
 unfold spec_l9CopyPut at h
 refine ofb Tryz.f85 true ?_
 refine Wp.sa ?_
 refine Wp.sa ?_
 refine Wp.sr ?_
 refine Runs.ap 3 8 5 1 327680 (eInt .u8) h (fun h=>?_)
 refine Runs.alln ?_
 refine Wp.sa ?_
 obtain rfl:=oi h
 exact Wp.ret RetB
theorem spec_l9Copy_ok {u p0 r} (h:spec_l9Copy u p0=some r):CallOK Tryz.prog 40 [V.g (Disk.enc p0)] (V.w [5,5,0,0,0,85] (Disk.enc r)) []:=by
 unfold spec_l9Copy at h
 refine ofb Tryz.f40 true ?_
 refine Wp.sa ?_
 refine Wp.seq ?_
 refine Wp.regionA (pOf []) (rhoOf [(1,.obj 1),(3,.obj 3),(6,.own 6),(7,.obj 1),(8,.frz),(9,.own 9),(10,.own 10),(11,.obj 1),(12,.frz),(13,.own 13),(14,.obj 1),(15,.frz),(16,.own 16)]) kr kr ?_
 refine Runs.ap 3 9 5 1 393216 (eInt .u8) h (fun h=>?_)
 refine Runs.ap 3 13 5 1 655360 (eInt .u8) h (fun h=>?_)
 refine Runs.alln ?_
 refine Wp.j2 (fun p0 x11=>spec_l9Copy_j1 u p0 x11=some r) (fun p0 x11=>⟨[(2,.obj 2 0),(3,.obj 3 0)],[(2,[.nil,.nil,.i 0,.i 0,.i 0,.nil]),(3,[.own 197120,.own 197121,.i p0.fR.fGen,.i p0.fR.fSlot,.i p0.fR.fLen,.own 197125])],[(197120,.live 5 1 (((([]:List Int))++p0.fA).map (eInt .u8))),(197121,.live 5 1 (((([]:List Int))++p0.fB).map (eInt .u8))),(197125,.live 85 6 (x11.map Put.enc))]⟩) (fun p0 x11 h=>?_) ?_
 ·refine Wp.sa ?_
  obtain rfl:=oi h
  exact Wp.ret RetB
 refine Wp.sa ?_
 refine Wp.block ?_
 refine Wp.l3 (fun k_spec_l9Copy_l2 x5 p0 x6=>spec_l9Copy_l2 u k_spec_l9Copy_l2 x5 p0 x6=some r) (fun x5 p0 x6=>⟨[(1,.obj 1 0),(2,.obj 2 0),(3,.obj 3 0),(4,.i x5)],[(1,((Disk.enc p0).map .t)),(2,[.nil,.nil,.i 0,.i 0,.i 0,.nil]),(3,[.own 197120,.own 197121,.i p0.fR.fGen,.i p0.fR.fSlot,.i p0.fR.fLen,.own 197125])],[(197120,.live 5 1 (((([]:List Int))++p0.fA).map (eInt .u8))),(197121,.live 5 1 (((([]:List Int))++p0.fB).map (eInt .u8))),(197125,.live 85 6 (x6.map Put.enc))]⟩) (fun k_spec_l9Copy_l2 x5 p0 x6 h=>?_) h (lo [(197120,589824),(197121,851968),(197125,1048576)]) (fun _ _ _  h=>nomatch h)
 rw [spec_l9Copy_l2] at h
 refine Wp.seq ?_
 refine Wp.sr ?_
 refine Runs.ln 3 85 Put.enc p0.fP ?_
 refine Runs.alln ?_
 refine Wp.c2 h (fun h=>?_) (fun h=>?_)
 ·refine Wp.sk ?_
  refine Wp.seq ?_
  refine Wp.block ?_
  refine Wp.sr ?_
  refine Runs.ix 3 85 6 Put.enc h (fun y9 h _=>?_)
  refine Runs.cl false 1 30 [.agg ((Put.enc y9).map .t)] h (fun _=>spec_l9CopyPut_ok) (fun r10 h=>?_)
  refine Runs.alln ?_
  refine Wp.rg [] [] ?_
  refine Runs.ap (ys:=[r10]) 4 35 85 6 197125 Put.enc h (fun h=>?_)
  refine Runs.all kr ?_
  refine blkN ?_
  refine thenN ?_
  refine Wp.rg [] [] ?_
  refine Runs.alln ?_
  exact ⟨_,_,_,h,lo [(197125,2293760)]⟩
 refine Wp.exit ?_
 refine thenE ?_
 refine thenE ?_
 refine blkE ?_
 refine thenN ?_
 exact ⟨_,_,h,lo []⟩
theorem spec_BlockAt_ok {u p0 p1 p2 r} (h:spec_BlockAt u p0 p1 p2=some r):CallOK Tryz.prog 54 [.one (.s p0),V.i p1,V.i p2] (.tup [.one (.ow 5 1 (r.1.map (eInt .u8))),V.b r.2]) []:=by
 unfold spec_BlockAt at h
 refine ofb Tryz.f54 true ?_
 refine Wp.sa ?_
 refine Wp.sr ?_
 refine Runs.ln 2 5 (eInt .u8) p0 ?_
 refine Runs.cl false 1 15 [.i p1,.i ((p0.length:Int)),.i p2] h (fun _=>spec_SpanOf_ok) (fun r1 h=>?_)
 refine Runs.alln ?_
 refine Wp.seq ?_
 refine Wp.sa ?_
 refine Wp.c2 h (fun h=>?_) (fun h=>?_)
 ·refine Wp.sa ?_
  obtain rfl:=oi h
  exact Wp.ret RetB
 refine Wp.sk ?_
 refine Wp.sr ?_
 refine Runs.batch 6 kr ?_
 obtain ⟨_,e_2,h⟩:=bind_some h
 refine Runs.subsl (e:=5) (ax:=.s p0) (alo:=(some (.i r1.1))) (ahi:=(some (.i (bAdd .i64 r1.1 r1.2)))) (eInt .u8) p0 1 r1.1 (bAdd .i64 r1.1 r1.2) rfl kr kr kr kr kr kr kr kr kr kr kr (chk_some e_2) ?_
 refine Runs.ap 0 28 5 1 1376256 (eInt .u8) h (fun h=>?_)
 refine Runs.alln ?_
 obtain rfl:=oi h
 exact Wp.ret RetB
theorem spec_StageAll_ok {u p0 p1 p2 r} (h:spec_StageAll u p0 p1 p2=some r):CallOK Tryz.prog 10 [V.g (Disk.enc p0),.one (.s p1),V.i p2] (.tup [V.w [5,5,0,0,0,85] (Disk.enc r.1),V.b r.2]) []:=by
 unfold spec_StageAll at h
 refine ofb Tryz.f10 true ?_
 refine Wp.sa ?_
 refine Wp.cl false 1 17 [.agg ((Disk.enc p0).map .t)] h (fun _=>spec_l9Copy_ok) (fun r1 h=>?_)
 refine Wp.seq ?_
 refine Wp.j5 (fun p1 p2 x4 r1 p0=>spec_StageAll_j1 u p1 p2 x4 r1 p0=some r) (fun p1 p2 x4 r1 p0=>⟨[(1,.s p1),(2,.i p2),(3,.obj 3 0),(6,.obj 6 0),(7,.b false),(8,.obj 8 0),(33,.b x4)],[(3,((Disk.enc p0).map .t)),(6,[.nil,.nil,.i 0,.i 0,.i 0,.nil]),(8,[.own 524800,.own 524801,.i r1.fR.fGen,.i r1.fR.fSlot,.i r1.fR.fLen,.own 524805])],[(524800,.live 5 1 (r1.fA.map (eInt .u8))),(524801,.live 5 1 (r1.fB.map (eInt .u8))),(524805,.live 85 6 (r1.fP.map Put.enc))]⟩) (fun p1 p2 x4 r1 p0 h=>?_) ?_
 ·refine Wp.c2 h (fun h=>?_) (fun h=>?_)
  ·refine Wp.sa ?_
   obtain rfl:=oi h
   exact Wp.ret RetB
  refine Wp.sk ?_
  refine Wp.j6 (fun x32 x33 x34 x35 x36 x37=>spec_StageAll_j2 u x32 x33 x34 x35 x36 x37=some r) (fun x32 x33 x34 x35 x36 x37=>⟨[(6,.obj 6 0),(7,.b false),(8,.obj 8 0)],[(6,[.nil,.nil,.i 0,.i 0,.i 0,.nil]),(8,[.own 524800,.own 524801,.i x34,.i x35,.i x36,.own 524805])],[(524800,.live 5 1 (x32.map (eInt .u8))),(524801,.live 5 1 (x33.map (eInt .u8))),(524805,.live 85 6 (x37.map Put.enc))]⟩) (fun x32 x33 x34 x35 x36 x37 h=>?_) ?_
  ·refine Wp.sa ?_
   obtain rfl:=oi h
   exact Wp.ret RetB
  refine Wp.sa ?_
  refine Wp.block ?_
  refine Wp.l10 (fun k_spec_StageAll_l3 p1 p2 x12 x13 x14 x15 x16 x17 x18 p0=>spec_StageAll_l3 u k_spec_StageAll_l3 p1 p2 x12 x13 x14 x15 x16 x17 x18 p0=some r) (fun p1 p2 x12 x13 x14 x15 x16 x17 x18 p0=>⟨[(1,.s p1),(2,.i p2),(3,.obj 3 0),(6,.obj 6 0),(7,.b false),(8,.obj 8 0),(9,.i x12)],[(3,((Disk.enc p0).map .t)),(6,[.nil,.nil,.i 0,.i 0,.i 0,.nil]),(8,[.own 524800,.own 524801,.i x15,.i x16,.i x17,.own 524805])],[(524800,.live 5 1 (x13.map (eInt .u8))),(524801,.live 5 1 (x14.map (eInt .u8))),(524805,.live 85 6 (x18.map Put.enc))]⟩) (fun k_spec_StageAll_l3 p1 p2 x12 x13 x14 x15 x16 x17 x18 p0 h=>?_) h (lo []) (fun _ _ _ _ _ _ _ _ _ _  h=>nomatch h)
  rw [spec_StageAll_l3] at h
  refine Wp.seq ?_
  refine Wp.sr ?_
  refine Runs.ln 3 5 (eInt .u8) p1 ?_
  refine Runs.cl false 0 39 [.i p2,.i ((p1.length:Int))] h (fun _=>spec_Blocks_ok) (fun r26 h=>?_)
  refine Runs.alln ?_
  refine Wp.c2 h (fun h=>?_) (fun h=>?_)
  ·refine Wp.sk ?_
   refine Wp.seq ?_
   refine Wp.block ?_
   refine Wp.sr ?_
   refine Runs.ln 2 5 (eInt .u8) p1 ?_
   refine Runs.cl false 1 48 [.i p2,.i ((p1.length:Int)),.i x12] h (fun _=>spec_SpanOf_ok) (fun r27 h=>?_)
   refine Runs.alln ?_
   refine Wp.cl false 3 55 [.s p1,.i p2,.i x12] h (fun _=>spec_BlockAt_ok) (fun r28 h=>?_)
   refine Wp.seq ?_
   refine Wp.le (Le.trans (Le.frzO 8 0 524800 5 1 [.own 524800,.own 524801,.i x15,.i x16,.i x17,.own 524805] (x13.map (eInt .u8)) kr kr kr) (Le.trans (Le.frzO 8 1 524801 5 1 [.s x13,.own 524801,.i x15,.i x16,.i x17,.own 524805] (x14.map (eInt .u8)) kr kr kr) (Le.frzO 8 5 524805 85 6 [.s x13,.s x14,.i x15,.i x16,.i x17,.own 524805] (x18.map Put.enc) kr kr kr))) ?_
   refine Wp.regionA (pOf []) (rhoOf [(3,.obj 3),(8,.obj 8),(10,.frz),(12,.own 55),(14,.obj 14),(59,.frz),(60,.frz),(61,.frz),(62,.frz),(63,.own 55),(65,.own 64),(66,.frz)]) kr kr ?_
   refine Runs.cl false 2 61 [.agg ((Disk.enc p0).map .t)] h (fun _=>spec_Spare_ok) (fun r29 h=>?_)
   refine Runs.batch 2 kr ?_
   obtain ⟨r30,e_r30,h⟩:=bind_some h
   refine Runs.callDK 64 55 [] [.agg [.s x13,.s x14,.i x15,.i x16,.i x17,.t (.sl 6 (x18.map Put.enc))],.i r29,.i r27.1,.own 3604480] [.agg [.s x13,.s x14,.i x15,.i x16,.i x17,.t (.sl 6 (x18.map Put.enc))],.one (.i r29),.one (.i r27.1),.one (.s r28.1)] (.tup [V.w [5,5,0,0,0,85] (Disk.enc r30.1),V.b r30.2]) rfl rfl kr kr kr kr kr (spec_PutBytes_okd e_r30) kr ?_
   refine Runs.alln ?_
   refine Wp.seq ?_
   refine Wp.sa ?_
   refine Wp.c2 h (fun h=>?_) (fun h=>?_)
   ·refine Wp.cl false 1 70 [.agg ((Disk.enc p0).map .t)] h (fun _=>spec_l9Copy_ok) (fun r31 h=>?_)
    obtain rfl:=oi h
    exact Wp.ret RetB
   refine Wp.sk ?_
   refine Wp.rg [] [] ?_
   refine Runs.all kr ?_
   refine blkN ?_
   refine thenN ?_
   refine Wp.rg [] [] ?_
   refine Runs.alln ?_
   exact ⟨_,_,_,_,_,_,_,_,_,_,h,lo [(524800,4194304),(524801,4194305),(524805,4194309)]⟩
  refine Wp.exit ?_
  refine thenE ?_
  refine thenE ?_
  refine blkE ?_
  refine thenN ?_
  exact ⟨_,_,_,_,_,_,h,lo []⟩
 refine Wp.rg [] [] ?_
 refine Runs.cl false 1 19 [.agg ((Disk.enc p0).map .t)] h (fun _=>spec_DiskOk_ok) (fun r2 h=>?_)
 refine Runs.c2 2 21 h (fun h=>?_) (fun h=>?_)
 ·refine Runs.alln ?_
  exact ⟨_,_,_,_,_,h,lo [(524800,1114112),(524801,1114113),(524805,1114117)]⟩
 refine Runs.ln 2 85 Put.enc p0.fP ?_
 refine Runs.c2 3 27 h (fun h=>?_) (fun h=>?_)
 ·refine Runs.alln ?_
  exact ⟨_,_,_,_,_,h,lo [(524800,1114112),(524801,1114113),(524805,1114117)]⟩
 refine Runs.ln 2 5 (eInt .u8) p1 ?_
 refine Runs.cl false 0 31 [.i p2,.i ((p1.length:Int))] h (fun _=>spec_SizeOk_ok) (fun r3 h=>?_)
 refine Runs.alln ?_
 exact ⟨_,_,_,_,_,h,lo [(524800,1114112),(524801,1114113),(524805,1114117)]⟩
theorem spec_l9Lay_ok {u p0 p1 p2 r} (h:spec_l9Lay u p0 p1 p2=some r):CallOK Tryz.prog 129 [.one (.s p0),V.i p1,.one (.s p2)] (.one (.ow 5 1 (r.map (eInt .u8)))) []:=by
 unfold spec_l9Lay at h
 refine ofb Tryz.f129 true ?_
 refine Wp.sa ?_
 refine Wp.sr ?_
 refine Runs.ap 2 11 5 1 589824 (eInt .u8) h (fun h=>?_)
 refine Runs.alln ?_
 refine Wp.j3 (fun p1 p2 x5=>spec_l9Lay_j1 u p1 p2 x5=some r) (fun p1 p2 x5=>⟨[(1,.i p1),(2,.s p2),(6,.nil),(7,.own 458753)],[],[(458753,.live 5 1 (x5.map (eInt .u8)))]⟩) (fun p1 p2 x5 h=>?_) ?_
 ·refine Wp.j1 (fun x14=>spec_l9Lay_j2 u x14=some r) (fun x14=>⟨[(6,.nil),(7,.own 458753)],[],[(458753,.live 5 1 (x14.map (eInt .u8)))]⟩) (fun x14 h=>?_) ?_
  ·refine Wp.sa ?_
   obtain rfl:=oi h
   exact Wp.ret RetB
  refine Wp.sa ?_
  refine Wp.block ?_
  refine Wp.l4 (fun k_spec_l9Lay_l3 p1 p2 x8 x9=>spec_l9Lay_l3 u k_spec_l9Lay_l3 p1 p2 x8 x9=some r) (fun p1 p2 x8 x9=>⟨[(1,.i p1),(2,.s p2),(6,.nil),(7,.own 458753),(8,.i x9)],[],[(458753,.live 5 1 (x8.map (eInt .u8)))]⟩) (fun k_spec_l9Lay_l3 p1 p2 x8 x9 h=>?_) h (lo []) (fun _ _ _ _  h=>nomatch h)
  rw [spec_l9Lay_l3] at h
  refine Wp.seq ?_
  refine Wp.sr ?_
  refine Runs.ln 2 5 (eInt .u8) p2 ?_
  refine Runs.alln ?_
  refine Wp.c2 h (fun h=>?_) (fun h=>?_)
  ·refine Wp.sk ?_
   refine Wp.seq ?_
   refine Wp.block ?_
   refine Wp.rg [] [] ?_
   refine Runs.ix 6 5 1 (eInt .u8) h (fun y12 h _=>?_)
   refine Runs.ixo 1 5 1 458753 5 (eInt .u8) h (fun y13 h e_y13=>?_)
   refine Runs.storeT (e:=5) (sz:=1) (m:=1) (eInt .u8) x8 458753 (Int.toNat (bAdd .i64 p1 x9)) 0 y12 (.t (.int .u8 y12)) [.int .u8 y12] rfl kr kr kr kr kr kr kr kr ((idx_some e_y13).2) kr kr ?_
   refine Runs.all kr ?_
   refine blkN ?_
   refine thenN ?_
   refine Wp.rg [] [] ?_
   refine Runs.alln ?_
   exact ⟨_,_,_,_,h,lo []⟩
  refine Wp.exit ?_
  refine thenE ?_
  refine thenE ?_
  refine blkE ?_
  refine thenN ?_
  exact ⟨_,h,lo []⟩
 refine Wp.block ?_
 refine Wp.l3 (fun k_spec_l9Lay_l4 p1 p2 x3=>spec_l9Lay_l4 u k_spec_l9Lay_l4 p1 p2 x3=some r) (fun p1 p2 x3=>⟨[(1,.i p1),(2,.s p2),(6,.nil),(7,.own 458753)],[],[(458753,.live 5 1 (x3.map (eInt .u8)))]⟩) (fun k_spec_l9Lay_l4 p1 p2 x3 h=>?_) h (lo [(458753,720896)]) (fun _ _ _  h=>nomatch h)
 rw [spec_l9Lay_l4] at h
 refine Wp.seq ?_
 refine Wp.sr ?_
 refine Runs.ln 1 5 (eInt .u8) x3 ?_
 refine Runs.ln 2 5 (eInt .u8) p2 ?_
 refine Runs.alln ?_
 refine Wp.c2 h (fun h=>?_) (fun h=>?_)
 ·refine Wp.sk ?_
  refine Wp.block ?_
  refine Wp.rg [] [] ?_
  refine Runs.ap 2 21 5 1 458753 (eInt .u8) h (fun h=>?_)
  refine Runs.all kr ?_
  refine blkN ?_
  refine thenN ?_
  exact ⟨_,_,_,h,lo [(458753,1376256)]⟩
 refine Wp.exit ?_
 refine thenE ?_
 refine thenE ?_
 refine blkE ?_
 refine thenN ?_
 exact ⟨_,_,_,h,lo []⟩
theorem spec_OnePut_ok {u p0 p1 r} (h:spec_OnePut u p0 p1=some r):CallOK Tryz.prog 83 [V.g (Disk.enc p0),V.g (Put.enc p1)] (V.w [5,5,0,0,0,85] (Disk.enc r)) []:=by
 unfold spec_OnePut at h
 refine ofb Tryz.f83 true ?_
 refine Wp.sa ?_
 refine Wp.cl false 1 7 [.agg ((Disk.enc p0).map .t)] h (fun _=>spec_l9Copy_ok) (fun r1 h=>?_)
 refine Wp.j6 (fun x5 x6 x7 x8 x9 r1=>spec_OnePut_j1 u x5 x6 x7 x8 x9 r1=some r) (fun x5 x6 x7 x8 x9 r1=>⟨[(4,.obj 4 0),(5,.obj 5 0)],[(4,[.nil,.nil,.i 0,.i 0,.i 0,.nil]),(5,[.own 328192,.own 328193,.i x7,.i x8,.i x9,.own 328197])],[(328192,.live 5 1 (x5.map (eInt .u8))),(328193,.live 5 1 (x6.map (eInt .u8))),(328197,.live 85 6 (r1.fP.map Put.enc))]⟩) (fun x5 x6 x7 x8 x9 r1 h=>?_) ?_
 ·refine Wp.sa ?_
  obtain rfl:=oi h
  exact Wp.ret RetB
 refine Wp.block ?_
 refine Wp.cl false 1 13 [.agg ((Put.enc p1).map .t)] h (fun _=>spec_l9Put_ok) (fun r2 h=>?_)
 refine Wp.c2 h (fun h=>?_) (fun h=>?_)
 ·refine Wp.skip ?_
  refine blkN ?_
  refine thenN ?_
  exact ⟨_,_,_,_,_,_,h,lo [(328192,458752),(328193,458753),(328197,458757)]⟩
 refine Wp.sa ?_
 refine Wp.c2 h (fun h=>?_) (fun h=>?_)
 ·refine Wp.rg [] [] ?_
  refine Runs.cl false 6 25 [.s p0.fA,.i p1.fAt,.s p1.fB] h (fun _=>spec_l9Lay_ok) (fun r3 h=>?_)
  refine Runs.all kr ?_
  refine blkN ?_
  refine thenN ?_
  exact ⟨_,_,_,_,_,_,h,lo [(328192,1638400),(328193,458753),(328197,458757)]⟩
 refine Wp.sa ?_
 refine Wp.c2 h (fun h=>?_) (fun h=>?_)
 ·refine Wp.rg [] [] ?_
  refine Runs.cl false 6 37 [.s p0.fB,.i p1.fAt,.s p1.fB] h (fun _=>spec_l9Lay_ok) (fun r4 h=>?_)
  refine Runs.all kr ?_
  refine blkN ?_
  refine thenN ?_
  exact ⟨_,_,_,_,_,_,h,lo [(328192,458752),(328193,2424832),(328197,458757)]⟩
 refine Wp.rg [] [] ?_
 refine Runs.all kr ?_
 refine blkN ?_
 refine thenN ?_
 exact ⟨_,_,_,_,_,_,h,lo [(328192,458752),(328193,458753),(328197,458757)]⟩
theorem spec_Sure_ok {u p0 r} (h:spec_Sure u p0=some r):CallOK Tryz.prog 37 [V.g (Disk.enc p0)] (V.w [5,5,0,0,0,85] (Disk.enc r)) []:=by
 unfold spec_Sure at h
 refine ofb Tryz.f37 true ?_
 refine Wp.sa ?_
 refine Wp.cl false 1 6 [.agg ((Disk.enc p0).map .t)] h (fun _=>spec_l9Copy_ok) (fun r1 h=>?_)
 refine Wp.seq ?_
 refine Wp.cl false 1 8 [.agg ((Disk.enc p0).map .t)] h (fun _=>spec_DiskOk_ok) (fun r2 h=>?_)
 refine Wp.c2 h (fun h=>?_) (fun h=>?_)
 ·refine Wp.sa ?_
  obtain rfl:=oi h
  exact Wp.ret RetB
 refine Wp.sk ?_
 refine Wp.j6 (fun x26 x27 x28 x29 x30 x31=>spec_Sure_j1 u x26 x27 x28 x29 x30 x31=some r) (fun x26 x27 x28 x29 x30 x31=>⟨[(2,.obj 2 0),(3,.obj 3 0)],[(2,[.nil,.nil,.i 0,.i 0,.i 0,.nil]),(3,[.own 197120,.own 197121,.i x28,.i x29,.i x30,.own 197125])],[(197120,.live 5 1 (x26.map (eInt .u8))),(197121,.live 5 1 (x27.map (eInt .u8))),(197125,.live 85 6 (x31.map Put.enc))]⟩) (fun x26 x27 x28 x29 x30 x31 h=>?_) ?_
 ·refine Wp.sa ?_
  refine Wp.sa ?_
  obtain rfl:=oi h
  exact Wp.ret RetB
 refine Wp.sa ?_
 refine Wp.block ?_
 refine Wp.l8 (fun k_spec_Sure_l2 x10 p0 x11 x12 x13 x14 x15 x16=>spec_Sure_l2 u k_spec_Sure_l2 x10 p0 x11 x12 x13 x14 x15 x16=some r) (fun x10 p0 x11 x12 x13 x14 x15 x16=>⟨[(1,.obj 1 0),(2,.obj 2 0),(3,.obj 3 0),(4,.i x10)],[(1,((Disk.enc p0).map .t)),(2,[.nil,.nil,.i 0,.i 0,.i 0,.nil]),(3,[.own 197120,.own 197121,.i x13,.i x14,.i x15,.own 197125])],[(197120,.live 5 1 (x11.map (eInt .u8))),(197121,.live 5 1 (x12.map (eInt .u8))),(197125,.live 85 6 (x16.map Put.enc))]⟩) (fun k_spec_Sure_l2 x10 p0 x11 x12 x13 x14 x15 x16 h=>?_) h (lo [(197120,393216),(197121,393217),(197125,393221)]) (fun _ _ _ _ _ _ _ _  h=>nomatch h)
 rw [spec_Sure_l2] at h
 refine Wp.seq ?_
 refine Wp.sr ?_
 refine Runs.ln 3 85 Put.enc p0.fP ?_
 refine Runs.alln ?_
 refine Wp.c2 h (fun h=>?_) (fun h=>?_)
 ·refine Wp.sk ?_
  refine Wp.seq ?_
  refine Wp.block ?_
  refine Wp.le (Le.trans (Le.frzO 3 0 197120 5 1 [.own 197120,.own 197121,.i x13,.i x14,.i x15,.own 197125] (x11.map (eInt .u8)) kr kr kr) (Le.trans (Le.frzO 3 1 197121 5 1 [.s x11,.own 197121,.i x13,.i x14,.i x15,.own 197125] (x12.map (eInt .u8)) kr kr kr) (Le.frzO 3 5 197125 85 6 [.s x11,.s x12,.i x13,.i x14,.i x15,.own 197125] (x16.map Put.enc) kr kr kr))) ?_
  refine Wp.regionA (pOf []) (rhoOf [(1,.obj 1),(3,.obj 3),(4,.frz),(18,.frz),(19,.obj 1),(20,.frz),(21,.frz),(22,.frz),(23,.frz),(24,.own 24)]) kr kr ?_
  refine Runs.ix 4 85 6 Put.enc h (fun y24 h _=>?_)
  refine Runs.cl false 1 24 [.agg [.s x11,.s x12,.i x13,.i x14,.i x15,.t (.sl 6 (x16.map Put.enc))],.agg ((Put.enc y24).map .t)] h (fun _=>spec_OnePut_ok) (fun r25 h=>?_)
  refine Runs.all kr ?_
  refine blkN ?_
  refine thenN ?_
  refine Wp.rg [] [] ?_
  refine Runs.alln ?_
  exact ⟨_,_,_,_,_,_,_,_,h,lo [(197120,1572864),(197121,1572865),(197125,1572869)]⟩
 refine Wp.exit ?_
 refine thenE ?_
 refine thenE ?_
 refine blkE ?_
 refine thenN ?_
 exact ⟨_,_,_,_,_,_,h,lo []⟩
theorem spec_l9Add_ok {u p0 p1 r} (h:spec_l9Add u p0 p1=some r):CallOK Tryz.prog 84 [V.g (Disk.enc p0),V.g (Put.enc p1)] (.tup [V.w [5,5,0,0,0,85] (Disk.enc r.1),V.b r.2]) []:=by
 unfold spec_l9Add at h
 refine ofb Tryz.f84 true ?_
 refine Wp.sa ?_
 refine Wp.cl false 1 8 [.agg ((Disk.enc p0).map .t)] h (fun _=>spec_l9Copy_ok) (fun r1 h=>?_)
 refine Wp.seq ?_
 refine Wp.regionA (pOf []) (rhoOf [(3,.obj 3),(6,.obj 6),(9,.obj 6),(10,.own 8),(11,.frz),(12,.own 12),(13,.own 13),(14,.own 14),(15,.obj 6)]) kr kr ?_
 refine Runs.cl false 3 12 [.agg ((Put.enc p1).map .t)] h (fun _=>spec_l9CopyPut_ok) (fun r2 h=>?_)
 refine Runs.ap (ys:=[r2]) 1 14 85 6 524293 Put.enc h (fun h=>?_)
 refine Runs.alln ?_
 refine Wp.seq ?_
 refine Wp.sr ?_
 refine Runs.cb 1 17 [.agg [.own 524288,.own 524289,.i r1.fR.fGen,.i r1.fR.fSlot,.i r1.fR.fLen,.own 917504]] h (fun _=>spec_DiskOk_ok) (fun r4 h=>?_)
 refine Runs.alln ?_
 refine Wp.c2 h (fun h=>?_) (fun h=>?_)
 ·refine Wp.cl false 1 20 [.agg ((Disk.enc p0).map .t)] h (fun _=>spec_l9Copy_ok) (fun r5 h=>?_)
  obtain rfl:=oi h
  exact Wp.ret RetB
 refine Wp.sk ?_
 refine Wp.sa ?_
 obtain rfl:=oi h
 exact Wp.ret RetB
theorem spec_PutRecord_ok {u p0 p1 r} (h:spec_PutRecord u p0 p1=some r):CallOK Tryz.prog 38 [V.g (Disk.enc p0),V.g (Record.enc p1)] (.tup [V.w [5,5,0,0,0,85] (Disk.enc r.1),V.b r.2]) []:=by
 unfold spec_PutRecord at h
 refine ofb Tryz.f38 true ?_
 refine Wp.sa ?_
 refine Wp.cl false 3 9 [.agg ((Disk.enc p0).map .t),.agg [.i 2,.i 0,.nil,.i p1.fGen,.i p1.fSlot,.i p1.fLen]] h (fun _=>spec_l9Add_ok) (fun r1 h=>?_)
 obtain rfl:=oi h
 exact Wp.ret RetB
theorem spec_NextCommit_ok {u p0 p1 p2 p3 r} (h:spec_NextCommit u p0 p1 p2 p3=some r):CallOK Tryz.prog 7 [V.g (Disk.enc p0),V.g (Manifest.enc p1),V.g (Build.enc p2),V.i p3] (.tup [V.w [5,5,0,0,0,85] (Disk.enc r.1),V.i r.2]) []:=by
 unfold spec_NextCommit at h
 refine ofb Tryz.f7 true ?_
 refine Wp.sa ?_
 refine Wp.j2 (fun p3 p0=>spec_NextCommit_j1 u p3 p0=some r) (fun p3 p0=>⟨[(3,.i p3),(4,.obj 4 0),(8,.obj 8 0),(9,.i 0)],[(4,((Disk.enc p0).map .t)),(8,[.nil,.nil,.i 0,.i 0,.i 0,.nil])],[]⟩) (fun p3 p0 h=>?_) ?_
 ·refine Wp.cl false 1 56 [.agg ((Disk.enc p0).map .t)] h (fun _=>spec_l9Copy_ok) (fun r7 h=>?_)
  obtain rfl:=oi h
  exact Wp.ret RetB
 refine Wp.sa ?_
 refine Wp.block ?_
 refine Wp.sa ?_
 refine Wp.c2 h (fun h=>?_) (fun h=>?_)
 ·refine Wp.cl false 2 19 [.agg ((Manifest.enc p1).map .t),.agg [.i p2.fHave,.s p2.fBuf]] h (fun _=>spec_Whole_ok) (fun r1 h=>?_)
  refine Wp.c2 h (fun h=>?_) (fun h=>?_)
  ·refine Wp.cl false 5 26 [.agg ((Disk.enc p0).map .t),.s p2.fBuf,.i p1.fSize] h (fun _=>spec_StageAll_ok) (fun r2 h=>?_)
   refine Wp.sa ?_
   refine Wp.c2 h (fun h=>?_) (fun h=>?_)
   ·refine Wp.sa ?_
    obtain rfl:=oi h
    exact Wp.ret RetB
   refine Wp.skip ?_
   refine blkN ?_
   refine thenN ?_
   exact ⟨_,_,h,lo []⟩
  refine Wp.skip ?_
  refine blkN ?_
  refine thenN ?_
  exact ⟨_,_,h,lo []⟩
 refine Wp.sa ?_
 refine Wp.c2 h (fun h=>?_) (fun h=>?_)
 ·refine Wp.cl false 1 34 [.agg ((Disk.enc p0).map .t)] h (fun _=>spec_Sure_ok) (fun r3 h=>?_)
  obtain rfl:=oi h
  exact Wp.ret RetB
 refine Wp.sa ?_
 refine Wp.c2 h (fun h=>?_) (fun h=>?_)
 ·refine Wp.seq ?_
  refine Wp.regionA (pOf []) (rhoOf [(4,.obj 4),(5,.obj 5),(12,.obj 12),(38,.frz),(39,.obj 5),(40,.frz),(41,.frz),(42,.frz),(43,.obj 5),(44,.frz),(45,.frz),(47,.own 46),(48,.frz)]) kr kr ?_
  refine Runs.cl false 4 42 [.agg ((Disk.enc p0).map .t)] h (fun _=>spec_Spare_ok) (fun r4 h=>?_)
  refine Runs.cl false 3 46 [.agg ((Disk.enc p0).map .t),.agg [.i p1.fGen,.i r4,.i p1.fLen]] h (fun _=>spec_PutRecord_ok) (fun r5 h=>?_)
  refine Runs.alln ?_
  refine Wp.sa ?_
  refine Wp.c2 h (fun h=>?_) (fun h=>?_)
  ·refine Wp.sa ?_
   obtain rfl:=oi h
   exact Wp.ret RetB
  refine Wp.skip ?_
  refine blkN ?_
  refine thenN ?_
  exact ⟨_,_,h,lo []⟩
 refine Wp.sa ?_
 refine Wp.c2 h (fun h=>?_) (fun h=>?_)
 ·refine Wp.cl false 1 54 [.agg ((Disk.enc p0).map .t)] h (fun _=>spec_Sure_ok) (fun r6 h=>?_)
  obtain rfl:=oi h
  exact Wp.ret RetB
 refine Wp.skip ?_
 refine blkN ?_
 refine thenN ?_
 exact ⟨_,_,h,lo []⟩
theorem spec_l11Draw_ok {u p0 r} (h:spec_l11Draw u p0=some r):CallOK Tryz.prog 27 [.ptr (cw [0,0,0] (l1Cur.enc p0))] (.tup [V.w [5,5,0,0,0,85] (Disk.enc r.1),V.g (Manifest.enc r.2.1),V.g (Build.enc r.2.2.1),V.i r.2.2.2.1,.one (.s r.2.2.2.2.1),.one (.s r.2.2.2.2.2.1)]) [cw [0,0,0] (l1Cur.enc r.2.2.2.2.2.2)]:=by
 unfold spec_l11Draw at h
 refine ofb Tryz.f27 true ?_
 refine Wp.sa ?_
 refine Wp.cl false 1 17 [.obj 900 0] h (fun _=>spec_l6Draw_ok) (fun r1 h=>?_)
 refine Wp.sr ?_
 refine Runs.cx false 2 22 [.obj 900 0] [.own 1115136] h (fun _=>spec_l7Old_okx) (fun r2 h=>?_)
 refine Runs.alln ?_
 refine Wp.sr ?_
 refine Runs.batch 1 kr ?_
 obtain ⟨r3,e_r3,h⟩:=bind_some h
 refine Runs.callDK 24 41 [] [.i 0,.own 1441792] [.one (.i 0),.one (.s r2.1)] (V.w [5,5,0,0,0,85] (Disk.enc r3)) rfl rfl kr kr kr kr kr (spec_DiskNew_okd e_r3) kr ?_
 refine Runs.alln ?_
 refine Wp.cl false 2 27 [.agg [.i r1.1.fGen,.i r1.1.fSize,.i r1.1.fLen,.own 1114115],.own 1115136] h (fun _=>spec_BuildFrom_ok) (fun r4 h=>?_)
 refine Wp.j6 (fun r1 r2 r5 r3 x7 x8=>spec_l11Draw_j1 u r1 r2 r5 r3 x7 x8=some r) (fun r1 r2 r5 r3 x7 x8=>⟨[(0,.obj 900 0),(2,.obj 2 0),(3,.obj 3 0),(4,.obj 4 0),(5,.i 0),(6,.nil),(7,.nil),(8,.obj 8 0),(9,.s r1.2.1),(10,.s r2.1),(11,.obj 11 0),(12,.obj 12 0)],[(2,[.nil,.nil,.i 0,.i 0,.i 0,.nil]),(3,[.i 0,.i 0,.i 0,.nil]),(4,[.i 0,.nil]),(8,((Manifest.enc r1.1).map .t)),(11,[.own 721408,.own 721409,.i r3.fR.fGen,.i r3.fR.fSlot,.i r3.fR.fLen,.own 721413]),(12,[.i x7,.own 786945]),(900,((l1Cur.enc r5.2).map .t))],[(721408,.live 5 1 (r3.fA.map (eInt .u8))),(721409,.live 5 1 (r3.fB.map (eInt .u8))),(721413,.live 85 6 (r3.fP.map Put.enc)),(786945,.live 5 1 (x8.map (eInt .u8)))]⟩) (fun r1 r2 r5 r3 x7 x8 h=>?_) ?_
 ·refine Wp.sa ?_
  refine Wp.j12 (fun r1 r2 x35 r9 x36 x37 x38 x39 x40 x41 x7 x8=>spec_l11Draw_j2 u r1 r2 x35 r9 x36 x37 x38 x39 x40 x41 x7 x8=some r) (fun r1 r2 x35 r9 x36 x37 x38 x39 x40 x41 x7 x8=>⟨[(2,.obj 2 0),(3,.obj 3 0),(4,.obj 4 0),(5,.i 0),(6,.nil),(7,.nil),(8,.obj 8 0),(9,.s r1.2.1),(10,.s r2.1),(11,.obj 11 0),(12,.obj 12 0),(13,.i x35)],[(2,[.nil,.nil,.i 0,.i 0,.i 0,.nil]),(3,[.i 0,.i 0,.i 0,.nil]),(4,[.i 0,.nil]),(8,((Manifest.enc r1.1).map .t)),(11,[.own 721408,.own 721409,.i x38,.i x39,.i x40,.own 721413]),(12,[.i x7,.s x8]),(900,((l1Cur.enc r9.2).map .t))],[(721408,.live 5 1 (x36.map (eInt .u8))),(721409,.live 5 1 (x37.map (eInt .u8))),(721413,.live 85 6 (x41.map Put.enc))]⟩) (fun r1 r2 x35 r9 x36 x37 x38 x39 x40 x41 x7 x8 h=>?_) ?_
  ·refine Wp.seq ?_
   refine Wp.regionA (pOf []) (rhoOf [(2,.obj 2),(3,.obj 3),(4,.obj 4),(8,.obj 8),(9,.frz),(10,.frz),(11,.obj 11),(12,.obj 12),(13,.frz),(47,.own 11),(48,.frz),(49,.frz),(50,.frz),(51,.frz),(52,.frz)]) kr kr ?_
   refine Runs.alln ?_
   obtain rfl:=oi h
   exact Wp.ret RetB
  refine Wp.cl false 1 34 [.obj 900 0,.i 5] h (fun _=>spec_l1Below_ok) (fun r9 h=>?_)
  refine Wp.block ?_
  refine Wp.l13 (fun k_spec_l11Draw_l3 r1 r2 x18 x19 r9 x20 x21 x22 x23 x24 x25 x7 x8=>spec_l11Draw_l3 u k_spec_l11Draw_l3 r1 r2 x18 x19 r9 x20 x21 x22 x23 x24 x25 x7 x8=some r) (fun r1 r2 x18 x19 r9 x20 x21 x22 x23 x24 x25 x7 x8=>⟨[(2,.obj 2 0),(3,.obj 3 0),(4,.obj 4 0),(5,.i 0),(6,.nil),(7,.nil),(8,.obj 8 0),(9,.s r1.2.1),(10,.s r2.1),(11,.obj 11 0),(12,.obj 12 0),(13,.i x18),(14,.i x19)],[(2,[.nil,.nil,.i 0,.i 0,.i 0,.nil]),(3,[.i 0,.i 0,.i 0,.nil]),(4,[.i 0,.nil]),(8,((Manifest.enc r1.1).map .t)),(11,[.own 721408,.own 721409,.i x22,.i x23,.i x24,.own 721413]),(12,[.i x7,.s x8]),(900,((l1Cur.enc r9.2).map .t))],[(721408,.live 5 1 (x20.map (eInt .u8))),(721409,.live 5 1 (x21.map (eInt .u8))),(721413,.live 85 6 (x25.map Put.enc))]⟩) (fun k_spec_l11Draw_l3 r1 r2 x18 x19 r9 x20 x21 x22 x23 x24 x25 x7 x8 h=>?_) h (Le.trans (Le.frzO 12 1 786945 5 1 [.i x7,.own 786945] (x8.map (eInt .u8)) kr kr kr) (lo [])) (fun _ _ _ _ _ _ _ _ _ _ _ _ _  h=>nomatch h)
  rw [spec_l11Draw_l3] at h
  refine Wp.seq ?_
  refine Wp.sa ?_
  refine Wp.c2 h (fun h=>?_) (fun h=>?_)
  ·refine Wp.sk ?_
   refine Wp.seq ?_
   refine Wp.block ?_
   refine Wp.rg [] [] ?_
   refine Runs.cl false 4 44 [.agg [.own 721408,.own 721409,.i x22,.i x23,.i x24,.own 721413],.agg ((Manifest.enc r1.1).map .t),.agg [.i x7,.s x8],.i x18] h (fun _=>spec_NextCommit_ok) (fun r34 h=>?_)
   refine Runs.all kr ?_
   refine blkN ?_
   refine thenN ?_
   refine Wp.rg [] [] ?_
   refine Runs.alln ?_
   exact ⟨_,_,_,_,_,_,_,_,_,_,_,_,_,h,lo [(721408,2883584),(721409,2883585),(721413,2883589)]⟩
  refine Wp.exit ?_
  refine thenE ?_
  refine thenE ?_
  refine blkE ?_
  refine thenN ?_
  exact ⟨_,_,_,_,_,_,_,_,_,_,_,_,h,lo []⟩
 refine Wp.cl false 1 29 [.obj 900 0,.i 5] h (fun _=>spec_l1Once_ok) (fun r5 h=>?_)
 refine Wp.c2 h (fun h=>?_) (fun h=>?_)
 ·refine Wp.rg [] [] ?_
  refine Runs.cl false 2 32 [.agg [.i r1.1.fGen,.i r1.1.fSize,.i r1.1.fLen,.own 1114115],.own 1441792] h (fun _=>spec_BuildFrom_ok) (fun r6 h=>?_)
  refine Runs.alln ?_
  exact ⟨_,_,_,_,_,_,h,Le.trans (Le.see 9 1115136 1 (r1.2.1.map (eInt .u8)) kr kr kr) (Le.trans (Le.see 10 1441792 1 (r2.1.map (eInt .u8)) kr kr kr) (Le.trans (Le.seeO 8 3 1114115 2 [.i r1.1.fGen,.i r1.1.fSize,.i r1.1.fLen,.own 1114115] (r1.1.fSums.map Sum.enc) kr kr kr) (lo [(721408,1572864),(721409,1572865),(721413,1572869),(786945,2097153)])))⟩
 refine Wp.sk ?_
 exact ⟨_,_,_,_,_,_,h,Le.trans (Le.see 9 1115136 1 (r1.2.1.map (eInt .u8)) kr kr kr) (Le.trans (Le.frz 10 1441792 5 1 (r2.1.map (eInt .u8)) kr kr kr) (Le.trans (Le.seeO 8 3 1114115 2 [.i r1.1.fGen,.i r1.1.fSize,.i r1.1.fLen,.own 1114115] (r1.1.fSums.map Sum.enc) kr kr kr) (lo [(721408,1572864),(721409,1572865),(721413,1572869),(786945,1769473)])))⟩
theorem spec_l9OnePut_ok {u p0 r} (h:spec_l9OnePut u p0=some r):CallOK Tryz.prog 111 [.ptr (cw [0,0,0] (l1Cur.enc p0))] (V.w [0,0,5,0,0,0] (Put.enc r.1)) [cw [0,0,0] (l1Cur.enc r.2)]:=by
 unfold spec_l9OnePut at h
 refine ofb Tryz.f111 true ?_
 refine Wp.sa ?_
 refine Wp.seq ?_
 refine Wp.cl false 1 4 [.obj 900 0,.i 4] h (fun _=>spec_l1Once_ok) (fun r1 h=>?_)
 refine Wp.c2 h (fun h=>?_) (fun h=>?_)
 ·refine Wp.sr ?_
  refine Runs.cl false 1 6 [.obj 900 0,.i 4] h (fun _=>spec_l1Below_ok) (fun r2 h=>?_)
  refine Runs.cl false 1 8 [.obj 900 0,.i 2] h (fun _=>spec_l1Below_ok) (fun r3 h=>?_)
  refine Runs.cl false 1 10 [.obj 900 0,.i 6] h (fun _=>spec_l1Below_ok) (fun r4 h=>?_)
  refine Runs.alln ?_
  obtain rfl:=oi h
  exact Wp.ret RetB
 refine Wp.sk ?_
 refine Wp.sr ?_
 refine Runs.cl false 1 14 [.obj 900 0,.i 2] h (fun _=>spec_l1Below_ok) (fun r5 h=>?_)
 refine Runs.cl false 1 16 [.obj 900 0,.i 9] h (fun _=>spec_l1Below_ok) (fun r6 h=>?_)
 refine Runs.cl false 1 18 [.obj 900 0,.i 5] h (fun _=>spec_l3Bytes_ok) (fun r7 h=>?_)
 refine Runs.alln ?_
 obtain rfl:=oi h
 exact Wp.ret RetB
theorem spec_l9Draw_ok {u p0 r} (h:spec_l9Draw u p0=some r):CallOK Tryz.prog 70 [.ptr (cw [0,0,0] (l1Cur.enc p0))] (V.w [5,5,0,0,0,85] (Disk.enc r.1)) [cw [0,0,0] (l1Cur.enc r.2)]:=by
 unfold spec_l9Draw at h
 refine ofb Tryz.f70 true ?_
 refine Wp.sa ?_
 refine Wp.sr ?_
 refine Runs.cl false 1 8 [.obj 900 0,.i 3] h (fun _=>spec_l1Below_ok) (fun r1 h=>?_)
 refine Runs.cl false 1 10 [.obj 900 0,.i 9] h (fun _=>spec_l3Bytes_ok) (fun r2 h=>?_)
 obtain ⟨r3,e_r3,h⟩:=bind_some h
 refine Runs.callDK 11 41 [] [.i r1.1,.own 655360] [.one (.i r1.1),.one (.s r2.1)] (V.w [5,5,0,0,0,85] (Disk.enc r3)) rfl rfl kr kr kr kr kr (spec_DiskNew_okd e_r3) kr ?_
 refine Runs.alln ?_
 refine Wp.j9 (fun x47 x48 x49 x50 x51 x52 x53 x54 x55=>spec_l9Draw_j1 u x47 x48 x49 x50 x51 x52 x53 x54 x55=some r) (fun x47 x48 x49 x50 x51 x52 x53 x54 x55=>⟨[(2,.obj 2 0),(3,.obj 3 0)],[(2,[.nil,.nil,.i 0,.i 0,.i 0,.nil]),(3,[.own 197120,.own 197121,.i x49,.i x50,.i x51,.own 197125]),(900,[.s x53,.i x54,.i x55])],[(197120,.live 5 1 (x47.map (eInt .u8))),(197121,.live 5 1 (x48.map (eInt .u8))),(197125,.live 85 6 (x52.map Put.enc))]⟩) (fun x47 x48 x49 x50 x51 x52 x53 x54 x55 h=>?_) ?_
 ·refine Wp.sa ?_
  obtain rfl:=oi h
  exact Wp.ret RetB
 refine Wp.cl false 1 13 [.obj 900 0,.i 5] h (fun _=>spec_l1Below_ok) (fun r4 h=>?_)
 refine Wp.block ?_
 refine Wp.l10 (fun k_spec_l9Draw_l2 x15 x16 x17 x18 x19 x20 x21 x22 x23 x24=>spec_l9Draw_l2 u k_spec_l9Draw_l2 x15 x16 x17 x18 x19 x20 x21 x22 x23 x24=some r) (fun x15 x16 x17 x18 x19 x20 x21 x22 x23 x24=>⟨[(0,.obj 900 0),(2,.obj 2 0),(3,.obj 3 0),(4,.i x15)],[(2,[.nil,.nil,.i 0,.i 0,.i 0,.nil]),(3,[.own 197120,.own 197121,.i x18,.i x19,.i x20,.own 197125]),(900,[.s x22,.i x23,.i x24])],[(197120,.live 5 1 (x16.map (eInt .u8))),(197121,.live 5 1 (x17.map (eInt .u8))),(197125,.live 85 6 (x21.map Put.enc))]⟩) (fun k_spec_l9Draw_l2 x15 x16 x17 x18 x19 x20 x21 x22 x23 x24 h=>?_) h (lo [(197120,720896),(197121,720897),(197125,720901)]) (fun _ _ _ _ _ _ _ _ _ _  h=>nomatch h)
 rw [spec_l9Draw_l2] at h
 refine Wp.seq ?_
 refine Wp.sa ?_
 refine Wp.c2 h (fun h=>?_) (fun h=>?_)
 ·refine Wp.sk ?_
  refine Wp.j8 (fun x15 x41 x42 x43 x44 x45 x46 r38=>spec_l9Draw_j3 u (fun z0 z1 z2 z3 z4 z5 z6 z7 z8 z9=>spec_l9Draw_l2 u k_spec_l9Draw_l2 z0 z1 z2 z3 z4 z5 z6 z7 z8 z9) x15 x41 x42 x43 x44 x45 x46 r38=some r) (fun x15 x41 x42 x43 x44 x45 x46 r38=>⟨[(0,.obj 900 0),(2,.obj 2 0),(3,.obj 3 0),(4,.i x15)],[(2,[.nil,.nil,.i 0,.i 0,.i 0,.nil]),(3,[.own 197120,.own 197121,.i x43,.i x44,.i x45,.own 197125]),(900,((l1Cur.enc r38.2).map .t))],[(197120,.live 5 1 (x41.map (eInt .u8))),(197121,.live 5 1 (x42.map (eInt .u8))),(197125,.live 85 6 (x46.map Put.enc))]⟩) (fun x15 x41 x42 x43 x44 x45 x46 r38 h=>?_) ?_
  ·refine Wp.rg [] [] ?_
   refine Runs.alln ?_
   exact ⟨_,_,_,_,_,_,_,_,_,_,h,lo []⟩
  refine Wp.block ?_
  refine Wp.cl false 1 19 [.obj 900 0] h (fun _=>spec_l9OnePut_ok) (fun r35 h=>?_)
  refine Wp.sr ?_
  refine Runs.batch 2 kr ?_
  obtain ⟨r36,e_r36,h⟩:=bind_some h
  refine Runs.callDK 23 84 [] [.agg [.own 197120,.own 197121,.i x18,.i x19,.i x20,.own 197125],.agg [.i r35.1.fWhat,.i r35.1.fAt,.own 1245186,.i r35.1.fR.fGen,.i r35.1.fR.fSlot,.i r35.1.fR.fLen]] [.agg [.s x16,.s x17,.i x18,.i x19,.i x20,.t (.sl 6 (x21.map Put.enc))],.agg ((Put.enc r35.1).map .t)] (.tup [V.w [5,5,0,0,0,85] (Disk.enc r36.1),V.b r36.2]) rfl rfl kr kr kr kr kr (spec_l9Add_okd e_r36) kr ?_
  refine Runs.alln ?_
  refine Wp.sr ?_
  refine Runs.batch 1 kr ?_
  obtain ⟨r37,e_r37,h⟩:=bind_some h
  refine Runs.callDK 27 37 [] [.agg [.own 1507328,.own 1507329,.i r36.1.fR.fGen,.i r36.1.fR.fSlot,.i r36.1.fR.fLen,.own 1507333]] [.agg ((Disk.enc r36.1).map .t)] (V.w [5,5,0,0,0,85] (Disk.enc r37)) rfl rfl kr kr kr kr kr (spec_Sure_okd e_r37) kr ?_
  refine Runs.alln ?_
  refine Wp.j5 (fun x15 x40 r36 r38 r37=>spec_l9Draw_j4 u (fun z0 z1 z2 z3 z4 z5 z6 z7 z8 z9=>spec_l9Draw_l2 u k_spec_l9Draw_l2 z0 z1 z2 z3 z4 z5 z6 z7 z8 z9) x15 x40 r36 r38 r37=some r) (fun x15 x40 r36 r38 r37=>⟨[(0,.obj 900 0),(2,.obj 2 0),(3,.obj 3 0),(4,.i x15),(6,.obj 6 0),(33,.b x40)],[(2,[.nil,.nil,.i 0,.i 0,.i 0,.nil]),(3,[.own 197120,.own 197121,.i r36.1.fR.fGen,.i r36.1.fR.fSlot,.i r36.1.fR.fLen,.own 197125]),(6,[.own 393728,.own 393729,.i r37.fR.fGen,.i r37.fR.fSlot,.i r37.fR.fLen,.own 393733]),(900,((l1Cur.enc r38.2).map .t))],[(197120,.live 5 1 (r36.1.fA.map (eInt .u8))),(197121,.live 5 1 (r36.1.fB.map (eInt .u8))),(197125,.live 85 6 (r36.1.fP.map Put.enc)),(393728,.live 5 1 (r37.fA.map (eInt .u8))),(393729,.live 5 1 (r37.fB.map (eInt .u8))),(393733,.live 85 6 (r37.fP.map Put.enc))]⟩) (fun x15 x40 r36 r38 r37 h=>?_) ?_
  ·refine Wp.c2 h (fun h=>?_) (fun h=>?_)
   ·refine Wp.rg [] [] ?_
    refine Runs.all kr ?_
    refine blkN ?_
    refine thenN ?_
    exact ⟨_,_,_,_,_,_,_,_,h,lo [(197120,393728),(197121,393729),(197125,393733)]⟩
   refine Wp.skip ?_
   refine blkN ?_
   refine thenN ?_
   exact ⟨_,_,_,_,_,_,_,_,h,lo []⟩
  refine Wp.rg [] [] ?_
  refine Runs.cl false 1 29 [.obj 900 0,.i 5] h (fun _=>spec_l1Once_ok) (fun r38 h=>?_)
  refine Runs.c2 1 30 h (fun h=>?_) (fun h=>?_)
  ·refine Runs.cb 1 32 [.agg [.own 1769472,.own 1769473,.i r37.fR.fGen,.i r37.fR.fSlot,.i r37.fR.fLen,.own 1769477]] h (fun _=>spec_DiskOk_ok) (fun r39 h=>?_)
   refine Runs.alln ?_
   exact ⟨_,_,_,_,_,h,lo [(197120,1507328),(197121,1507329),(197125,1507333),(393728,1769472),(393729,1769473),(393733,1769477)]⟩
  refine Runs.alln ?_
  exact ⟨_,_,_,_,_,h,lo [(197120,1507328),(197121,1507329),(197125,1507333),(393728,1769472),(393729,1769473),(393733,1769477)]⟩
 refine Wp.exit ?_
 refine thenE ?_
 refine thenE ?_
 refine blkE ?_
 refine thenN ?_
 exact ⟨_,_,_,_,_,_,_,_,_,h,lo []⟩
theorem spec_l9Any_ok {u p0 r} (h:spec_l9Any u p0=some r):CallOK Tryz.prog 29 [.ptr (cw [0,0,0] (l1Cur.enc p0))] (V.w [5,5,0,0,0,85] (Disk.enc r.1)) [cw [0,0,0] (l1Cur.enc r.2)]:=by
 unfold spec_l9Any at h
 refine ofb Tryz.f29 true ?_
 refine Wp.sa ?_
 refine Wp.cl false 1 5 [.obj 900 0] h (fun _=>spec_l9Draw_ok) (fun r1 h=>?_)
 refine Wp.j8 (fun r1 x8 x9 x10 x11 x12 x13 x14=>spec_l9Any_j1 u r1 x8 x9 x10 x11 x12 x13 x14=some r) (fun r1 x8 x9 x10 x11 x12 x13 x14=>⟨[(2,.obj 2 0),(3,.obj 3 0)],[(2,[.nil,.nil,.i 0,.i 0,.i 0,.nil]),(3,[.own 197120,.own 197121,.i x8,.i x9,.i x10,.own 197125]),(900,[.s x12,.i x13,.i x14])],[(197120,.live 5 1 (r1.1.fA.map (eInt .u8))),(197121,.live 5 1 (r1.1.fB.map (eInt .u8))),(197125,.live 85 6 (x11.map Put.enc))]⟩) (fun r1 x8 x9 x10 x11 x12 x13 x14 h=>?_) ?_
 ·refine Wp.sa ?_
  obtain rfl:=oi h
  exact Wp.ret RetB
 refine Wp.cl false 1 7 [.obj 900 0,.i 12] h (fun _=>spec_l1Below_ok) (fun r2 h=>?_)
 refine Wp.block ?_
 refine Wp.sa ?_
 refine Wp.c2 h (fun h=>?_) (fun h=>?_)
 ·refine Wp.rg [] [] ?_
  refine Runs.cx false 2 12 [.obj 900 0] [.own 720896] h (fun _=>spec_l1Int_okx) (fun r3 h=>?_)
  refine Runs.all kr ?_
  refine blkN ?_
  refine thenN ?_
  exact ⟨_,_,_,_,_,_,_,_,h,lo [(197120,327680),(197121,327681),(197125,327685)]⟩
 refine Wp.sa ?_
 refine Wp.c2 h (fun h=>?_) (fun h=>?_)
 ·refine Wp.rg [] [] ?_
  refine Runs.cx false 2 19 [.obj 900 0] [.own 1179648] h (fun _=>spec_l1Int_okx) (fun r4 h=>?_)
  refine Runs.all kr ?_
  refine blkN ?_
  refine thenN ?_
  exact ⟨_,_,_,_,_,_,_,_,h,lo [(197120,327680),(197121,327681),(197125,327685)]⟩
 refine Wp.sa ?_
 refine Wp.c2 h (fun h=>?_) (fun h=>?_)
 ·refine Wp.rg [] [] ?_
  refine Runs.cx false 2 26 [.obj 900 0] [.own 1638400] h (fun _=>spec_l1Int_okx) (fun r5 h=>?_)
  refine Runs.all kr ?_
  refine blkN ?_
  refine thenN ?_
  exact ⟨_,_,_,_,_,_,_,_,h,lo [(197120,327680),(197121,327681),(197125,327685)]⟩
 refine Wp.sa ?_
 refine Wp.c2 h (fun h=>?_) (fun h=>?_)
 ·refine Wp.regionA (pOf [900]) (rhoOf [(0,.obj 900),(3,.obj 3),(31,.obj 3),(32,.own 5),(33,.obj 900),(34,.own 34),(35,.frz),(36,.obj 900),(37,.own 37),(38,.frz),(39,.own 39),(40,.own 39),(41,.own 41),(42,.own 42),(43,.obj 3)]) kr kr ?_
  refine Runs.cx false 4 35 [.obj 900 0] [.own 2228224] h (fun _=>spec_l1Int_okx) (fun r6 h=>?_)
  refine Runs.cx false 2 38 [.obj 900 0] [.own 2424832] h (fun _=>spec_l1Int_okx) (fun r7 h=>?_)
  refine Runs.ap (ys:=[(Put.mk r6.1 r7.1 (([1]:List Int)) ((Record.mk 0 0 0)))]) 3 42 85 6 327685 Put.enc h (fun h=>?_)
  refine Runs.all kr ?_
  refine blkN ?_
  refine thenN ?_
  exact ⟨_,_,_,_,_,_,_,_,h,lo [(197120,327680),(197121,327681),(197125,2752512)]⟩
 refine Wp.skip ?_
 refine blkN ?_
 refine thenN ?_
 exact ⟨_,_,_,_,_,_,_,_,h,lo [(197120,327680),(197121,327681),(197125,327685)]⟩
theorem spec_l8Put_okx {u p0 p1 p2 p3 r} (h:spec_l8Put u p0 p1 p2 p3=some r):XOK Tryz.prog 102 [V.g (Manifest.enc p0),.ptr (cw [0,5] (Build.enc p1))] [V.i p2,.one (.s p3)] (V.b r.1) [cw [0,5] (Build.enc r.2)]:=by
 unfold spec_l8Put at h
 refine obx Tryz.f102 false ?_
 refine Wp.sa ?_
 refine Wp.seq ?_
 refine Wp.j5 (fun p2 p3 x5 p0 p1=>spec_l8Put_j1 u p2 p3 x5 p0 p1=some r) (fun p2 p3 x5 p0 p1=>⟨[(1,.obj 901 0),(2,.i p2),(3,.ext false (.sl 1 (p3.map (eInt .u8)))),(4,.obj 4 0),(8,.b false),(41,.b x5)],[(4,((Manifest.enc p0).map .t)),(901,[.i p1.fHave,.own 59048449])],[(59048449,.live 5 1 (p1.fBuf.map (eInt .u8)))]⟩) (fun p2 p3 x5 p0 p1 h=>?_) ?_
 ·refine Wp.c2 h (fun h=>?_) (fun h=>?_)
  ·refine Wp.sa ?_
   obtain rfl:=oi h
   exact Wp.ret RetB
  refine Wp.sk ?_
  refine Wp.cl false 5 48 [.i p0.fSize,.i p0.fLen,.i p2] h (fun _=>spec_SpanOf_ok) (fun r6 h=>?_)
  refine Wp.j3 (fun p2 p1 x15=>spec_l8Put_j2 u p2 p1 x15=some r) (fun p2 p1 x15=>⟨[(1,.obj 901 0),(2,.i p2),(8,.b false)],[(901,[.i p1.fHave,.own 59048449])],[(59048449,.live 5 1 (x15.map (eInt .u8)))]⟩) (fun p2 p1 x15 h=>?_) ?_
  ·refine Wp.cl false 6 75 [.i p1.fHave,.i p2] h (fun _=>spec_WithPart_ok) (fun r16 h=>?_)
   refine Wp.sa ?_
   obtain rfl:=oi h
   exact Wp.ret RetB
  refine Wp.sa ?_
  refine Wp.block ?_
  refine Wp.l6 (fun k_spec_l8Put_l3 p2 p3 r6 x9 p1 x10=>spec_l8Put_l3 u k_spec_l8Put_l3 p2 p3 r6 x9 p1 x10=some r) (fun p2 p3 r6 x9 p1 x10=>⟨[(1,.obj 901 0),(2,.i p2),(3,.ext false (.sl 1 (p3.map (eInt .u8)))),(8,.b false),(9,.i r6.1),(11,.i x9)],[(901,[.i p1.fHave,.own 59048449])],[(59048449,.live 5 1 (x10.map (eInt .u8)))]⟩) (fun k_spec_l8Put_l3 p2 p3 r6 x9 p1 x10 h=>?_) h (lo []) (fun _ _ _ _ _ _  h=>nomatch h)
  rw [spec_l8Put_l3] at h
  refine Wp.seq ?_
  refine Wp.sr ?_
  refine Runs.batch 2 kr ?_
  refine Runs.lenX (e:=5) (eInt .u8) p3 false 1 rfl rfl rfl kr kr kr kr ?_
  refine Runs.alln ?_
  refine Wp.c2 h (fun h=>?_) (fun h=>?_)
  ·refine Wp.sk ?_
   refine Wp.seq ?_
   refine Wp.block ?_
   refine Wp.regionA (pOf []) (rhoOf [(1,.obj 901),(3,.frz),(9,.frz),(11,.frz),(57,.obj 901),(58,.obj 901),(59,.obj 901),(60,.own 901),(61,.frz),(62,.frz),(63,.frz),(64,.frz),(65,.frz),(66,.frz),(67,.frz),(68,.el 901)]) kr kr ?_
   refine Runs.batch 9 kr ?_
   obtain ⟨y13,e_y13,h⟩:=bind_some h
   refine Runs.idxX (e:=5) (kk:=.i64) (sz:=1) (eInt .u8) p3 x9 false rfl kr kr kr kr kr kr e_y13 ?_
   refine Runs.ixo 1 5 1 59048449 5 (eInt .u8) h (fun y14 h e_y14=>?_)
   refine Runs.storeT (e:=5) (sz:=1) (m:=1) (eInt .u8) x10 59048449 (Int.toNat (bAdd .i64 r6.1 x9)) 0 y13 (.t (.int .u8 y13)) [.int .u8 y13] rfl kr kr kr kr kr kr kr kr ((idx_some e_y14).2) kr kr ?_
   refine Runs.all kr ?_
   refine blkN ?_
   refine thenN ?_
   refine Wp.rg [] [] ?_
   refine Runs.alln ?_
   exact ⟨_,_,_,_,_,_,h,lo []⟩
  refine Wp.exit ?_
  refine thenE ?_
  refine thenE ?_
  refine blkE ?_
  refine thenN ?_
  exact ⟨_,_,_,h,lo []⟩
 refine Wp.regionA (pOf []) (rhoOf [(1,.obj 901),(2,.frz),(3,.frz),(4,.obj 4),(12,.frz),(13,.obj 4),(14,.frz),(15,.frz),(16,.frz),(17,.frz),(18,.frz),(19,.frz),(20,.obj 901),(21,.obj 901),(22,.obj 901),(23,.frz),(24,.frz),(26,.frz),(27,.frz),(28,.frz),(29,.frz),(30,.obj 4),(31,.frz),(32,.frz),(33,.frz),(34,.frz),(36,.frz),(37,.frz),(38,.frz),(39,.frz)]) kr kr ?_
 refine Runs.ln 3 117 Sum.enc p0.fSums ?_
 refine Runs.cl false 1 17 [.i p2,.i 0,.i (bSub .i64 ((p0.fSums.length:Int)) 1)] h (fun _=>spec_l1In_ok) (fun r1 h=>?_)
 refine Runs.c2 2 19 h (fun h=>?_) (fun h=>?_)
 ·refine Runs.alln ?_
  exact ⟨_,_,_,_,_,h,lo [(59048449,59047937)]⟩
 refine Runs.cl false 5 25 [.i p1.fHave,.i p2] h (fun _=>spec_InSet_ok) (fun r2 h=>?_)
 refine Runs.c2 2 27 h (fun h=>?_) (fun h=>?_)
 ·refine Runs.alln ?_
  exact ⟨_,_,_,_,_,h,lo [(59048449,59047937)]⟩
 refine Runs.cb 1 29 [.ext false (.sl 1 (p3.map (eInt .u8)))] h (fun _=>spec_SumOf_ok) (fun r3 h=>?_)
 refine Runs.ix 3 117 2 Sum.enc h (fun y4 h _=>?_)
 refine Runs.c2 4 37 h (fun h=>?_) (fun h=>?_)
 ·refine Runs.alln ?_
  exact ⟨_,_,_,_,_,h,lo [(59048449,59047937)]⟩
 refine Runs.batch 1 kr ?_
 refine Runs.lenX (e:=5) (eInt .u8) p3 false 1 rfl rfl rfl kr kr kr kr ?_
 refine Runs.alln ?_
 exact ⟨_,_,_,_,_,h,lo [(59048449,59047937)]⟩
theorem spec_l8Draw_ok {u p0 r} (h:spec_l8Draw u p0=some r):CallOK Tryz.prog 72 [.ptr (cw [0,0,0] (l1Cur.enc p0))] (.tup [V.g (Manifest.enc r.1),V.w [0,5] (Build.enc r.2.1),.one (.ow 5 1 (r.2.2.1.map (eInt .u8)))]) [cw [0,0,0] (l1Cur.enc r.2.2.2)]:=by
 unfold spec_l8Draw at h
 refine ofb Tryz.f72 true ?_
 refine Wp.sa ?_
 refine Wp.cl false 1 13 [.obj 900 0] h (fun _=>spec_l6Draw_ok) (fun r1 h=>?_)
 refine Wp.seq ?_
 refine Wp.le (Le.frzO 5 3 851971 117 2 [.i r1.1.fGen,.i r1.1.fSize,.i r1.1.fLen,.own 851971] (r1.1.fSums.map Sum.enc) kr kr kr) ?_
 refine Wp.regionA (pOf [900]) (rhoOf [(0,.obj 900),(5,.obj 5),(6,.own 13),(7,.obj 7),(16,.frz),(17,.obj 900),(18,.own 13),(19,.own 19),(20,.own 20)]) kr kr ?_
 refine Runs.cx false 3 19 [.obj 900 0] [.own 852992] h (fun _=>spec_l7Old_okx) (fun r2 h=>?_)
 refine Runs.cl false 0 20 [.agg ((Manifest.enc r1.1).map .t),.own 1245184] h (fun _=>spec_BuildFrom_ok) (fun r3 h=>?_)
 refine Runs.alln ?_
 refine Wp.j6 (fun r1 x27 x28 x29 x30 x31=>spec_l8Draw_j1 u r1 x27 x28 x29 x30 x31=some r) (fun r1 x27 x28 x29 x30 x31=>⟨[(2,.obj 2 0),(3,.obj 3 0),(4,.nil),(5,.obj 5 0),(6,.own 393217),(7,.obj 7 0)],[(2,[.i 0,.i 0,.i 0,.nil]),(3,[.i 0,.nil]),(5,((Manifest.enc r1.1).map .t)),(7,[.i x30,.own 459265]),(900,[.s x27,.i x28,.i x29])],[(393217,.live 5 1 (r1.2.1.map (eInt .u8))),(459265,.live 5 1 (x31.map (eInt .u8)))]⟩) (fun r1 x27 x28 x29 x30 x31 h=>?_) ?_
 ·refine Wp.seq ?_
  refine Wp.regionA (pOf []) (rhoOf [(2,.obj 2),(3,.obj 3),(5,.obj 5),(6,.own 6),(7,.obj 7),(42,.frz),(43,.own 7),(44,.own 6)]) kr kr ?_
  refine Runs.alln ?_
  obtain rfl:=oi h
  exact Wp.ret RetB
 refine Wp.sa ?_
 refine Wp.block ?_
 refine Wp.l7 (fun k_spec_l8Draw_l2 r1 x10 x11 x12 x13 x14 x15=>spec_l8Draw_l2 u k_spec_l8Draw_l2 r1 x10 x11 x12 x13 x14 x15=some r) (fun r1 x10 x11 x12 x13 x14 x15=>⟨[(0,.obj 900 0),(2,.obj 2 0),(3,.obj 3 0),(4,.nil),(5,.obj 5 0),(6,.own 393217),(7,.obj 7 0),(8,.i x10)],[(2,[.i 0,.i 0,.i 0,.nil]),(3,[.i 0,.nil]),(5,((Manifest.enc r1.1).map .t)),(7,[.i x14,.own 459265]),(900,[.s x11,.i x12,.i x13])],[(393217,.live 5 1 (r1.2.1.map (eInt .u8))),(459265,.live 5 1 (x15.map (eInt .u8)))]⟩) (fun k_spec_l8Draw_l2 r1 x10 x11 x12 x13 x14 x15 h=>?_) h (lo [(393217,852992),(459265,1310721)]) (fun _ _ _ _ _ _ _  h=>nomatch h)
 rw [spec_l8Draw_l2] at h
 refine Wp.seq ?_
 refine Wp.sr ?_
 refine Runs.ln 3 117 Sum.enc r1.1.fSums ?_
 refine Runs.alln ?_
 refine Wp.c2 h (fun h=>?_) (fun h=>?_)
 ·refine Wp.sk ?_
  refine Wp.j5 (fun r1 x10 r22 x25 x26=>spec_l8Draw_j3 u (fun z0 z1 z2 z3 z4 z5 z6=>spec_l8Draw_l2 u k_spec_l8Draw_l2 z0 z1 z2 z3 z4 z5 z6) r1 x10 r22 x25 x26=some r) (fun r1 x10 r22 x25 x26=>⟨[(0,.obj 900 0),(2,.obj 2 0),(3,.obj 3 0),(4,.nil),(5,.obj 5 0),(6,.own 393217),(7,.obj 7 0),(8,.i x10)],[(2,[.i 0,.i 0,.i 0,.nil]),(3,[.i 0,.nil]),(5,((Manifest.enc r1.1).map .t)),(7,[.i x25,.own 459265]),(900,((l1Cur.enc r22.2).map .t))],[(393217,.live 5 1 (r1.2.1.map (eInt .u8))),(459265,.live 5 1 (x26.map (eInt .u8)))]⟩) (fun r1 x10 r22 x25 x26 h=>?_) ?_
  ·refine Wp.rg [] [] ?_
   refine Runs.alln ?_
   exact ⟨_,_,_,_,_,_,_,h,lo []⟩
  refine Wp.block ?_
  refine Wp.cl false 1 29 [.obj 900 0,.i 3] h (fun _=>spec_l1Once_ok) (fun r22 h=>?_)
  refine Wp.c2 h (fun h=>?_) (fun h=>?_)
  ·refine Wp.sr ?_
   refine Runs.batch 4 kr ?_
   obtain ⟨r23,e_r23,h⟩:=bind_some h
   refine Runs.callDK 35 54 [] [.own 393217,.i r1.1.fSize,.i x10] [.one (.s r1.2.1),.one (.i r1.1.fSize),.one (.i x10)] (.tup [.one (.ow 5 1 (r23.1.map (eInt .u8))),V.b r23.2]) rfl rfl kr kr kr kr kr (spec_BlockAt_okd e_r23) kr ?_
   refine Runs.alln ?_
   refine Wp.rg [] [] ?_
   refine Runs.cx true 3 41 [.agg ((Manifest.enc r1.1).map .t),.obj 7 0] [.i x10,.own 2293760] h (fun _=>spec_l8Put_okx) (fun r24 h=>?_)
   refine Runs.all kr ?_
   refine blkN ?_
   refine thenN ?_
   exact ⟨_,_,_,_,_,h,lo [(459265,2688449)]⟩
  refine Wp.skip ?_
  refine blkN ?_
  refine thenN ?_
  exact ⟨_,_,_,_,_,h,lo []⟩
 refine Wp.exit ?_
 refine thenE ?_
 refine thenE ?_
 refine blkE ?_
 refine thenN ?_
 exact ⟨_,_,_,_,_,_,h,lo []⟩
theorem spec_l5Set_ok {u p0 r} (h:spec_l5Set u p0=some r):CallOK Tryz.prog 112 [.ptr (cw [0,0,0] (l1Cur.enc p0))] (V.i r.1) [cw [0,0,0] (l1Cur.enc r.2)]:=by
 unfold spec_l5Set at h
 refine ofb Tryz.f112 false ?_
 refine Wp.sa ?_
 refine Wp.seq ?_
 refine Wp.cl false 1 4 [.obj 900 0,.i 3] h (fun _=>spec_l1Once_ok) (fun r1 h=>?_)
 refine Wp.c2 h (fun h=>?_) (fun h=>?_)
 ·refine Wp.sr ?_
  refine Runs.cx false 2 7 [.obj 900 0] [.own 393216] h (fun _=>spec_l1Int_okx) (fun r2 h=>?_)
  refine Runs.alln ?_
  obtain rfl:=oi h
  exact Wp.ret RetB
 refine Wp.sk ?_
 refine Wp.sr ?_
 refine Runs.cl false 1 9 [.obj 900 0,.i 65536] h (fun _=>spec_l1Below_ok) (fun r3 h=>?_)
 refine Runs.cl false 1 11 [.obj 900 0,.i 20] h (fun _=>spec_l1Below_ok) (fun r4 h=>?_)
 obtain ⟨_,e_5,h⟩:=bind_some h
 refine Runs.num .shl (.int .i64 r3.1) (.int .i64 r4.1) (.int .i64 (bShl .i64 r3.1 r4.1)) rfl kr kr kr kr (bin_shl _ _ _ _ _ (chk_some e_5)) ?_
 refine Runs.alln ?_
 obtain rfl:=oi h
 exact Wp.ret RetB
theorem spec_l5Any_ok {u p0 r} (h:spec_l5Any u p0=some r):CallOK Tryz.prog 73 [.ptr (cw [0,0,0] (l1Cur.enc p0))] (V.i r.1) [cw [0,0,0] (l1Cur.enc r.2)]:=by
 unfold spec_l5Any at h
 refine ofb Tryz.f73 false ?_
 refine Wp.sa ?_
 refine Wp.seq ?_
 refine Wp.cl false 1 4 [.obj 900 0,.i 8] h (fun _=>spec_l1Once_ok) (fun r1 h=>?_)
 refine Wp.c2 h (fun h=>?_) (fun h=>?_)
 ·refine Wp.sr ?_
  refine Runs.cx false 2 7 [.obj 900 0] [.own 393216] h (fun _=>spec_l1Int_okx) (fun r2 h=>?_)
  refine Runs.alln ?_
  obtain rfl:=oi h
  exact Wp.ret RetB
 refine Wp.sk ?_
 refine Wp.cl false 1 9 [.obj 900 0] h (fun _=>spec_l5Set_ok) (fun r3 h=>?_)
 obtain rfl:=oi h
 exact Wp.ret RetB
theorem spec_l6Any_ok {u p0 r} (h:spec_l6Any u p0=some r):CallOK Tryz.prog 74 [.ptr (cw [0,0,0] (l1Cur.enc p0))] (V.w [0,0,0,117] (Manifest.enc r.1)) [cw [0,0,0] (l1Cur.enc r.2)]:=by
 unfold spec_l6Any at h
 refine ofb Tryz.f74 true ?_
 refine Wp.sa ?_
 refine Wp.cl false 1 7 [.obj 900 0] h (fun _=>spec_l6Draw_ok) (fun r1 h=>?_)
 refine Wp.j7 (fun x8 x9 x10 x11 x12 x13 x14=>spec_l6Any_j1 u x8 x9 x10 x11 x12 x13 x14=some r) (fun x8 x9 x10 x11 x12 x13 x14=>⟨[(2,.obj 2 0),(3,.obj 3 0)],[(2,[.i 0,.i 0,.i 0,.nil]),(3,[.i x8,.i x9,.i x10,.own 197123]),(900,[.s x12,.i x13,.i x14])],[(197123,.live 117 2 (x11.map Sum.enc))]⟩) (fun x8 x9 x10 x11 x12 x13 x14 h=>?_) ?_
 ·refine Wp.sa ?_
  obtain rfl:=oi h
  exact Wp.ret RetB
 refine Wp.cl false 1 11 [.obj 900 0,.i 10] h (fun _=>spec_l1Below_ok) (fun r2 h=>?_)
 refine Wp.block ?_
 refine Wp.sa ?_
 refine Wp.c2 h (fun h=>?_) (fun h=>?_)
 ·refine Wp.rg [] [] ?_
  refine Runs.cx false 2 16 [.obj 900 0] [.own 983040] h (fun _=>spec_l1Int_okx) (fun r3 h=>?_)
  refine Runs.all kr ?_
  refine blkN ?_
  refine thenN ?_
  exact ⟨_,_,_,_,_,_,_,h,lo [(197123,458755)]⟩
 refine Wp.sa ?_
 refine Wp.c2 h (fun h=>?_) (fun h=>?_)
 ·refine Wp.rg [] [] ?_
  refine Runs.cx false 2 22 [.obj 900 0] [.own 1376256] h (fun _=>spec_l1Int_okx) (fun r4 h=>?_)
  refine Runs.all kr ?_
  refine blkN ?_
  refine thenN ?_
  exact ⟨_,_,_,_,_,_,_,h,lo [(197123,458755)]⟩
 refine Wp.sa ?_
 refine Wp.c2 h (fun h=>?_) (fun h=>?_)
 ·refine Wp.rg [] [] ?_
  refine Runs.all kr ?_
  refine blkN ?_
  refine thenN ?_
  exact ⟨_,_,_,_,_,_,_,h,lo [(197123,458755)]⟩
 refine Wp.sa ?_
 refine Wp.c2 h (fun h=>?_) (fun h=>?_)
 ·refine Wp.rg [] [] ?_
  refine Runs.ap (ys:=[(Sum.mk 1 257)]) 4 36 117 2 458755 Sum.enc h (fun h=>?_)
  refine Runs.all kr ?_
  refine blkN ?_
  refine thenN ?_
  exact ⟨_,_,_,_,_,_,_,h,lo [(197123,2359296)]⟩
 refine Wp.sa ?_
 refine Wp.c2 h (fun h=>?_) (fun h=>?_)
 ·refine Wp.sr ?_
  refine Runs.ln 2 117 Sum.enc r1.1.fSums ?_
  refine Runs.alln ?_
  refine Wp.c2 h (fun h=>?_) (fun h=>?_)
  ·refine Wp.regionA (pOf []) (rhoOf [(3,.obj 3),(44,.obj 3),(45,.own 7),(46,.obj 3),(47,.own 7),(48,.el 7),(49,.el 7),(50,.frz),(51,.frz),(52,.el 7),(53,.el 7)]) kr kr ?_
   refine Runs.ixo 4 117 2 458755 117 Sum.enc h (fun y6 h e_y6=>?_)
   refine Runs.ld 1 2 1 458755 0 117 false Sum.enc ((idx_some e_y6).2) ?_
   refine Runs.ixo 1 117 2 458755 117 Sum.enc h (fun y7 h e_y7=>?_)
   refine Runs.batch 1 kr ?_
   refine Runs.storeT (e:=117) (sz:=2) (m:=1) Sum.enc r1.1.fSums 458755 (Int.toNat 0) 0 ((Sum.mk (bAdd .i64 y6.fW 1) y7.fS)) (.i (bAdd .i64 y6.fW 1)) [.int .i64 (bAdd .i64 y6.fW 1)] rfl kr kr kr kr kr kr kr kr ((idx_some e_y7).2) kr kr ?_
   refine Runs.all kr ?_
   refine blkN ?_
   refine thenN ?_
   exact ⟨_,_,_,_,_,_,_,h,lo [(197123,458755)]⟩
  refine Wp.skip ?_
  refine blkN ?_
  refine thenN ?_
  exact ⟨_,_,_,_,_,_,_,h,lo [(197123,458755)]⟩
 refine Wp.skip ?_
 refine blkN ?_
 refine thenN ?_
 exact ⟨_,_,_,_,_,_,_,h,lo [(197123,458755)]⟩
theorem spec_l8Any_ok {u p0 r} (h:spec_l8Any u p0=some r):CallOK Tryz.prog 30 [.ptr (cw [0,0,0] (l1Cur.enc p0))] (.tup [V.g (Manifest.enc r.1),V.w [0,5] (Build.enc r.2.1),.one (.ow 5 1 (r.2.2.1.map (eInt .u8)))]) [cw [0,0,0] (l1Cur.enc r.2.2.2)]:=by
 unfold spec_l8Any at h
 refine ofb Tryz.f30 true ?_
 refine Wp.sa ?_
 refine Wp.cl false 1 10 [.obj 900 0] h (fun _=>spec_l8Draw_ok) (fun r1 h=>?_)
 refine Wp.j10 (fun r1 x8 x9 x10 x11 x12 x13 x14 x15 x16=>spec_l8Any_j1 u r1 x8 x9 x10 x11 x12 x13 x14 x15 x16=some r) (fun r1 x8 x9 x10 x11 x12 x13 x14 x15 x16=>⟨[(2,.obj 2 0),(3,.obj 3 0),(4,.nil),(5,.obj 5 0),(6,.obj 6 0),(7,.own 458753)],[(2,[.i 0,.i 0,.i 0,.nil]),(3,[.i 0,.nil]),(5,[.i x11,.i x12,.i x13,.t (.sl 2 (x14.map Sum.enc))]),(6,[.i x15,.own 393729]),(900,[.s x8,.i x9,.i x10])],[(393729,.live 5 1 (x16.map (eInt .u8))),(458753,.live 5 1 (r1.2.2.1.map (eInt .u8)))]⟩) (fun r1 x8 x9 x10 x11 x12 x13 x14 x15 x16 h=>?_) ?_
 ·refine Wp.seq ?_
  refine Wp.regionA (pOf []) (rhoOf [(2,.obj 2),(3,.obj 3),(5,.obj 5),(6,.obj 6),(7,.own 7),(46,.frz),(47,.own 6),(48,.own 7)]) kr kr ?_
  refine Runs.alln ?_
  obtain rfl:=oi h
  exact Wp.ret RetB
 refine Wp.cl false 1 15 [.obj 900 0,.i 12] h (fun _=>spec_l1Below_ok) (fun r2 h=>?_)
 refine Wp.block ?_
 refine Wp.sa ?_
 refine Wp.c2 h (fun h=>?_) (fun h=>?_)
 ·refine Wp.rg [] [] ?_
  refine Runs.cl false 1 19 [.obj 900 0] h (fun _=>spec_l5Any_ok) (fun r3 h=>?_)
  refine Runs.all kr ?_
  refine blkN ?_
  refine thenN ?_
  exact ⟨_,_,_,_,_,_,_,_,_,_,h,lo [(458753,657408),(393729,656385)]⟩
 refine Wp.sa ?_
 refine Wp.c2 h (fun h=>?_) (fun h=>?_)
 ·refine Wp.rg [] [] ?_
  refine Runs.ap 3 26 5 1 656385 (eInt .u8) h (fun h=>?_)
  refine Runs.all kr ?_
  refine blkN ?_
  refine thenN ?_
  exact ⟨_,_,_,_,_,_,_,_,_,_,h,lo [(458753,657408),(393729,1703936)]⟩
 refine Wp.sa ?_
 refine Wp.c2 h (fun h=>?_) (fun h=>?_)
 ·refine Wp.sr ?_
  refine Runs.ln 2 5 (eInt .u8) r1.2.1.fBuf ?_
  refine Runs.alln ?_
  refine Wp.c2 h (fun h=>?_) (fun h=>?_)
  ·refine Wp.regionA (pOf []) (rhoOf [(6,.obj 6),(34,.obj 6),(35,.own 10),(36,.obj 6),(37,.own 10),(38,.el 10),(39,.frz),(40,.frz),(41,.el 10)]) kr kr ?_
   refine Runs.ixo 4 5 1 656385 5 (eInt .u8) h (fun y5 h e_y5=>?_)
   refine Runs.ld 0 1 1 656385 0 5 false (eInt .u8) ((idx_some e_y5).2) ?_
   refine Runs.ixo 1 5 1 656385 5 (eInt .u8) h (fun y6 h e_y6=>?_)
   refine Runs.storeT (e:=5) (sz:=1) (m:=1) (eInt .u8) r1.2.1.fBuf 656385 (Int.toNat 0) 0 (bAdd .u8 y5 1) (.t (.int .u8 (bAdd .u8 y5 1))) [.int .u8 (bAdd .u8 y5 1)] rfl kr kr kr kr kr kr kr kr ((idx_some e_y6).2) kr kr ?_
   refine Runs.all kr ?_
   refine blkN ?_
   refine thenN ?_
   exact ⟨_,_,_,_,_,_,_,_,_,_,h,lo [(458753,657408),(393729,656385)]⟩
  refine Wp.skip ?_
  refine blkN ?_
  refine thenN ?_
  exact ⟨_,_,_,_,_,_,_,_,_,_,h,lo [(458753,657408),(393729,656385)]⟩
 refine Wp.sa ?_
 refine Wp.c2 h (fun h=>?_) (fun h=>?_)
 ·refine Wp.rg [] [] ?_
  refine Runs.cl false 1 45 [.obj 900 0] h (fun _=>spec_l6Any_ok) (fun r7 h=>?_)
  refine Runs.all kr ?_
  refine blkN ?_
  refine thenN ?_
  exact ⟨_,_,_,_,_,_,_,_,_,_,h,Le.trans (Le.frzO 5 3 2949123 117 2 [.i r7.1.fGen,.i r7.1.fSize,.i r7.1.fLen,.own 2949123] (r7.1.fSums.map Sum.enc) kr kr kr) (lo [(458753,657408),(393729,656385)])⟩
 refine Wp.skip ?_
 refine blkN ?_
 refine thenN ?_
 exact ⟨_,_,_,_,_,_,_,_,_,_,h,lo [(458753,657408),(393729,656385)]⟩
theorem spec_DrawNextCommit_ok {u p0 r} (h:spec_DrawNextCommit u p0=some r):CallOK Tryz.prog 5 [.one (.s p0)] (.tup [V.w [5,5,0,0,0,85] (Disk.enc r.1),V.g (Manifest.enc r.2.1),V.g (Build.enc r.2.2.1),V.i r.2.2.2]) []:=by
 unfold spec_DrawNextCommit at h
 refine ofb Tryz.f5 true ?_
 refine Wp.sa ?_
 refine Wp.cl false 1 14 [.s p0] h (fun _=>spec_l1New_ok) (fun r1 h=>?_)
 refine Wp.cl false 1 17 [.obj 14 0] h (fun _=>spec_l11Draw_ok) (fun r2 h=>?_)
 refine Wp.j13 (fun x7 x8 x9 x10 x11 x12 x13 x14 x15 x16 x17 x18 x19=>spec_DrawNextCommit_j1 u x7 x8 x9 x10 x11 x12 x13 x14 x15 x16 x17 x18 x19=some r) (fun x7 x8 x9 x10 x11 x12 x13 x14 x15 x16 x17 x18 x19=>⟨[(2,.obj 2 0),(3,.obj 3 0),(4,.obj 4 0),(5,.i 0),(7,.obj 7 0),(8,.obj 8 0),(9,.obj 9 0),(10,.i x7)],[(2,[.nil,.nil,.i 0,.i 0,.i 0,.nil]),(3,[.i 0,.i 0,.i 0,.nil]),(4,[.i 0,.nil]),(7,[.own 459264,.own 459265,.i x16,.i x17,.i x18,.own 459269]),(8,[.i x8,.i x9,.i x10,.t (.sl 2 (x11.map Sum.enc))]),(9,[.i x12,.s x13])],[(459264,.live 5 1 (x14.map (eInt .u8))),(459265,.live 5 1 (x15.map (eInt .u8))),(459269,.live 85 6 (x19.map Put.enc))]⟩) (fun x7 x8 x9 x10 x11 x12 x13 x14 x15 x16 x17 x18 x19 h=>?_) ?_
 ·refine Wp.seq ?_
  refine Wp.regionA (pOf []) (rhoOf [(2,.obj 2),(3,.obj 3),(4,.obj 4),(7,.obj 7),(8,.obj 8),(9,.obj 9),(10,.frz),(43,.own 7),(44,.frz),(45,.frz),(46,.frz)]) kr kr ?_
  refine Runs.alln ?_
  obtain rfl:=oi h
  exact Wp.ret RetB
 refine Wp.cl false 1 25 [.obj 14 0,.i 12] h (fun _=>spec_l1Below_ok) (fun r3 h=>?_)
 refine Wp.block ?_
 refine Wp.sa ?_
 refine Wp.c2 h (fun h=>?_) (fun h=>?_)
 ·refine Wp.rg [] [] ?_
  refine Runs.cl false 1 29 [.obj 14 0,.i 8] h (fun _=>spec_l1Below_ok) (fun r4 h=>?_)
  refine Runs.all kr ?_
  refine blkN ?_
  refine thenN ?_
  exact ⟨_,_,_,_,_,_,_,_,_,_,_,_,_,h,lo [(459264,1114112),(459265,1114113),(459269,1114117)]⟩
 refine Wp.sa ?_
 refine Wp.c2 h (fun h=>?_) (fun h=>?_)
 ·refine Wp.rg [] [] ?_
  refine Runs.cl false 1 34 [.obj 14 0] h (fun _=>spec_l9Any_ok) (fun r5 h=>?_)
  refine Runs.all kr ?_
  refine blkN ?_
  refine thenN ?_
  exact ⟨_,_,_,_,_,_,_,_,_,_,_,_,_,h,lo [(459264,2228224),(459265,2228225),(459269,2228229)]⟩
 refine Wp.sa ?_
 refine Wp.c2 h (fun h=>?_) (fun h=>?_)
 ·refine Wp.rg [] [] ?_
  refine Runs.cl false 1 39 [.obj 14 0] h (fun _=>spec_l8Any_ok) (fun r6 h=>?_)
  refine Runs.all kr ?_
  refine blkN ?_
  refine thenN ?_
  exact ⟨_,_,_,_,_,_,_,_,_,_,_,_,_,h,Le.trans (Le.frzO 9 1 2556929 5 1 [.i r6.2.1.fHave,.own 2556929] (r6.2.1.fBuf.map (eInt .u8)) kr kr kr) (lo [(459264,1114112),(459265,1114113),(459269,1114117)])⟩
 refine Wp.skip ?_
 refine blkN ?_
 refine thenN ?_
 exact ⟨_,_,_,_,_,_,_,_,_,_,_,_,_,h,lo [(459264,1114112),(459265,1114113),(459269,1114117)]⟩
theorem impl_isZeroMan_ok {u p0 r} (h:impl_isZeroMan u p0=some r):CallOK Tryz.prog 135 [V.g (Manifest.enc p0)] (V.b r) []:=by
 unfold impl_isZeroMan at h
 refine ofb Tryz.f135 false ?_
 refine Wp.sa ?_
 refine Wp.sr ?_
 refine Runs.c2 4 6 h (fun h=>?_) (fun h=>?_)
 ·refine Runs.c2 5 11 h (fun h=>?_) (fun h=>?_)
  ·refine Runs.c2 5 16 h (fun h=>?_) (fun h=>?_)
   ·refine Runs.ln 2 117 Sum.enc p0.fSums ?_
    refine Runs.alln ?_
    obtain rfl:=oi h
    exact Wp.ret RetB
   refine Runs.alln ?_
   obtain rfl:=oi h
   exact Wp.ret RetB
  refine Runs.alln ?_
  obtain rfl:=oi h
  exact Wp.ret RetB
 refine Runs.alln ?_
 obtain rfl:=oi h
 exact Wp.ret RetB
theorem impl_within_ok {u p0 p1 p2 r} (h:impl_within u p0 p1 p2=some r):CallOK Tryz.prog 62 [V.i p0,V.i p1,V.i p2] (V.b r) []:=by
 unfold impl_within at h
 refine ofb Tryz.f62 false ?_
 refine Wp.sa ?_
 refine Wp.sr ?_
 refine Runs.c2 4 10 h (fun h=>?_) (fun h=>?_)
 ·refine Runs.alln ?_
  obtain rfl:=oi h
  exact Wp.ret RetB
 refine Runs.alln ?_
 obtain rfl:=oi h
 exact Wp.ret RetB
theorem impl_SizeOk_ok {u p0 p1 r} (h:impl_SizeOk u p0 p1=some r):CallOK Tryz.prog 47 [V.i p0,V.i p1] (V.b r) []:=by
 unfold impl_SizeOk at h
 refine ofb Tryz.f47 false ?_
 refine Wp.sa ?_
 refine Wp.sr ?_
 refine Runs.cl false 1 6 [.i p0,.i 2,.i 6] h (fun _=>impl_within_ok) (fun r1 h=>?_)
 refine Runs.c2 1 7 h (fun h=>?_) (fun h=>?_)
 ·refine Runs.cl false 3 11 [.i p1,.i 0,.i (bMul .i64 40 p0)] h (fun _=>impl_within_ok) (fun r2 h=>?_)
  refine Runs.alln ?_
  obtain rfl:=oi h
  exact Wp.ret RetB
 refine Runs.alln ?_
 obtain rfl:=oi h
 exact Wp.ret RetB
theorem impl_CeilDiv_ok {u p0 p1 r} (h:impl_CeilDiv u p0 p1=some r):CallOK Tryz.prog 67 [V.i p0,V.i p1] (V.i r) []:=by
 unfold impl_CeilDiv at h
 refine ofb Tryz.f67 false ?_
 refine Wp.sa ?_
 refine Wp.seq ?_
 refine Wp.j3 (fun p0 p1 x3=>impl_CeilDiv_j1 u p0 p1 x3=some r) (fun p0 p1 x3=>⟨[(0,.i p0),(1,.i p1),(4,.i 0),(12,.b x3)],[],[]⟩) (fun p0 p1 x3 h=>?_) ?_
 ·refine Wp.c2 h (fun h=>?_) (fun h=>?_)
  ·refine Wp.sa ?_
   obtain rfl:=oi h
   exact Wp.ret RetB
  refine Wp.sk ?_
  refine Wp.sr ?_
  refine Runs.batch 5 kr ?_
  obtain ⟨_,e_4,h⟩:=bind_some h
  refine Runs.num .quo (.int .i64 (bSub .i64 (bAdd .i64 p0 p1) 1)) (.int .i64 p1) (.int .i64 (bQuo .i64 (bSub .i64 (bAdd .i64 p0 p1) 1) p1)) rfl kr kr kr kr (bin_quo _ _ _ _ (by simpa using chk_some e_4)) ?_
  refine Runs.alln ?_
  obtain rfl:=oi h
  exact Wp.ret RetB
 refine Wp.rg [] [] ?_
 refine Runs.cl false 1 6 [.i p0,.i 0,.i 1000000000000] h (fun _=>impl_within_ok) (fun r1 h=>?_)
 refine Runs.c2 2 8 h (fun h=>?_) (fun h=>?_)
 ·refine Runs.alln ?_
  exact ⟨_,_,_,h,lo []⟩
 refine Runs.cl false 1 10 [.i p1,.i 1,.i 1000000000000] h (fun _=>impl_within_ok) (fun r2 h=>?_)
 refine Runs.alln ?_
 exact ⟨_,_,_,h,lo []⟩
theorem impl_Blocks_ok {u p0 p1 r} (h:impl_Blocks u p0 p1=some r):CallOK Tryz.prog 25 [V.i p0,V.i p1] (V.i r) []:=by
 unfold impl_Blocks at h
 refine ofb Tryz.f25 false ?_
 refine Wp.sa ?_
 refine Wp.seq ?_
 refine Wp.cl false 2 7 [.i p0,.i p1] h (fun _=>impl_SizeOk_ok) (fun r1 h=>?_)
 refine Wp.c2 h (fun h=>?_) (fun h=>?_)
 ·refine Wp.sa ?_
  obtain rfl:=oi h
  exact Wp.ret RetB
 refine Wp.sk ?_
 refine Wp.cl false 2 11 [.i p1,.i p0] h (fun _=>impl_CeilDiv_ok) (fun r2 h=>?_)
 obtain rfl:=oi h
 exact Wp.ret RetB
theorem impl_BytesOf_ok {u p0 r} (h:impl_BytesOf u p0=some r):CallOK Tryz.prog 136 [V.i p0] (.tup [.one (.ow 5 1 (r.1.map (eInt .u8))),V.b r.2]) []:=by
 unfold impl_BytesOf at h
 refine ofb Tryz.f136 true ?_
 refine Wp.sa ?_
 refine Wp.sa ?_
 refine Wp.j2 (fun p0 x5=>impl_BytesOf_j1 u p0 x5=some r) (fun p0 x5=>⟨[(0,.i p0),(2,.nil),(3,.b false),(4,.i x5)],[],[]⟩) (fun p0 x5 h=>?_) ?_
 ·refine Wp.seq ?_
  refine Wp.j3 (fun p0 x5 x6=>impl_BytesOf_j2 u p0 x5 x6=some r) (fun p0 x5 x6=>⟨[(0,.i p0),(2,.nil),(3,.b false),(4,.i x5),(26,.b x6)],[],[]⟩) (fun p0 x5 x6 h=>?_) ?_
  ·refine Wp.c2 h (fun h=>?_) (fun h=>?_)
   ·refine Wp.sa ?_
    obtain rfl:=oi h
    exact Wp.ret RetB
   refine Wp.sk ?_
   refine Wp.sr ?_
   refine Runs.batch 1 kr ?_
   obtain ⟨_,e_7,h⟩:=bind_some h
   obtain ⟨_,e_8,h⟩:=bind_some h
   refine Runs.mkS (eInt .u8) (0:Int) 28 5 1 1 x5 x5 rfl rfl kr kr kr kr kr kr (chk_some e_7) (of_decide_eq_true (chk_some e_8)) kr ?_
   refine Runs.alln ?_
   refine Wp.j1 (fun x17=>impl_BytesOf_j3 u x17=some r) (fun x17=>⟨[(2,.nil),(3,.b false),(5,.own 327681)],[],[(327681,.live 5 1 (x17.map (eInt .u8)))]⟩) (fun x17 h=>?_) ?_
   ·refine Wp.sa ?_
    obtain rfl:=oi h
    exact Wp.ret RetB
   refine Wp.sr ?_
   refine Runs.ln 1 5 (eInt .u8) (List.replicate (Int.toNat x5) (0:Int)) ?_
   refine Runs.alln ?_
   refine Wp.block ?_
   refine Wp.l4 (fun k_impl_BytesOf_l4 p0 x5 x11 x12=>impl_BytesOf_l4 u k_impl_BytesOf_l4 p0 x5 x11 x12=some r) (fun p0 x5 x11 x12=>⟨[(0,.i p0),(2,.nil),(3,.b false),(4,.i x5),(5,.own 327681),(30,.i (((List.replicate (Int.toNat x5) (0:Int)).length:Int))),(31,.i x12)],[],[(327681,.live 5 1 (x11.map (eInt .u8)))]⟩) (fun k_impl_BytesOf_l4 p0 x5 x11 x12 h=>?_) h (lo [(327681,1835008)]) (fun _ _ _ _  h=>nomatch h)
   rw [impl_BytesOf_l4] at h
   refine Wp.sa ?_
   refine Wp.seq ?_
   refine Wp.c2 h (fun h=>?_) (fun h=>?_)
   ·refine Wp.sk ?_
    refine Wp.seq ?_
    refine Wp.block ?_
    refine Wp.sa ?_
    refine Wp.rg [] [] ?_
    refine Runs.batch 8 kr ?_
    obtain ⟨_,e_15,h⟩:=bind_some h
    refine Runs.num .shr (.int .i64 p0) (.int .i64 (bMul .i64 8 (bSub .i64 (bSub .i64 x5 1) x12))) (.int .i64 (bShr .i64 p0 (bMul .i64 8 (bSub .i64 (bSub .i64 x5 1) x12)))) rfl kr kr kr kr (bin_shr _ _ _ _ _ (chk_some e_15)) ?_
    refine Runs.ixo 1 5 1 327681 5 (eInt .u8) h (fun y16 h e_y16=>?_)
    refine Runs.storeT (e:=5) (sz:=1) (m:=1) (eInt .u8) x11 327681 (Int.toNat x12) 0 (IntKind.wrap .u8 (bShr .i64 p0 (bMul .i64 8 (bSub .i64 (bSub .i64 x5 1) x12)))) (.t (.int .u8 (IntKind.wrap .u8 (bShr .i64 p0 (bMul .i64 8 (bSub .i64 (bSub .i64 x5 1) x12)))))) [.int .u8 (IntKind.wrap .u8 (bShr .i64 p0 (bMul .i64 8 (bSub .i64 (bSub .i64 x5 1) x12))))] rfl kr kr kr kr kr kr kr kr ((idx_some e_y16).2) kr kr ?_
    refine Runs.all kr ?_
    refine blkN ?_
    refine thenN ?_
    refine Wp.rg [] [] ?_
    refine Runs.alln ?_
    exact ⟨_,_,_,_,h,lo []⟩
   refine Wp.exit ?_
   refine thenE ?_
   refine thenE ?_
   refine blkE ?_
   refine thenN ?_
   exact ⟨_,h,lo []⟩
  refine Wp.rg [] [] ?_
  refine Runs.c2 3 20 h (fun h=>?_) (fun h=>?_)
  ·refine Runs.alln ?_
   exact ⟨_,_,_,h,lo []⟩
  refine Runs.batch 3 kr ?_
  obtain ⟨_,e_6,h⟩:=bind_some h
  refine Runs.num .shr (.int .i64 p0) (.int .i64 (bMul .i64 8 x5)) (.int .i64 (bShr .i64 p0 (bMul .i64 8 x5))) rfl kr kr kr kr (bin_shr _ _ _ _ _ (chk_some e_6)) ?_
  refine Runs.alln ?_
  exact ⟨_,_,_,h,lo []⟩
 refine Wp.block ?_
 refine Wp.l2 (fun k_impl_BytesOf_l5 p0 x2=>impl_BytesOf_l5 u k_impl_BytesOf_l5 p0 x2=some r) (fun p0 x2=>⟨[(0,.i p0),(2,.nil),(3,.b false),(4,.i x2)],[],[]⟩) (fun k_impl_BytesOf_l5 p0 x2 h=>?_) h (lo []) (fun _ _  h=>nomatch h)
 rw [impl_BytesOf_l5] at h
 refine Wp.seq ?_
 refine Wp.j3 (fun p0 x2 x4=>impl_BytesOf_j6 u (fun z0 z1=>impl_BytesOf_l5 u k_impl_BytesOf_l5 z0 z1) p0 x2 x4=some r) (fun p0 x2 x4=>⟨[(0,.i p0),(2,.nil),(3,.b false),(4,.i x2),(15,.b x4)],[],[]⟩) (fun p0 x2 x4 h=>?_) ?_
 ·refine Wp.c2 h (fun h=>?_) (fun h=>?_)
  ·refine Wp.sk ?_
   refine Wp.block ?_
   refine Wp.rg [] [] ?_
   refine Runs.all kr ?_
   refine blkN ?_
   refine thenN ?_
   exact ⟨_,_,h,lo []⟩
  refine Wp.exit ?_
  refine thenE ?_
  refine thenE ?_
  refine blkE ?_
  refine thenN ?_
  exact ⟨_,_,h,lo []⟩
 refine Wp.rg [] [] ?_
 refine Runs.c2 3 9 h (fun h=>?_) (fun h=>?_)
 ·refine Runs.batch 3 kr ?_
  obtain ⟨_,e_4,h⟩:=bind_some h
  refine Runs.num .shr (.int .i64 p0) (.int .i64 (bMul .i64 8 x2)) (.int .i64 (bShr .i64 p0 (bMul .i64 8 x2))) rfl kr kr kr kr (bin_shr _ _ _ _ _ (chk_some e_4)) ?_
  refine Runs.alln ?_
  exact ⟨_,_,_,h,lo []⟩
 refine Runs.alln ?_
 exact ⟨_,_,_,h,lo []⟩
theorem impl_SpanOf_ok {u p0 p1 p2 r} (h:impl_SpanOf u p0 p1 p2=some r):CallOK Tryz.prog 90 [V.i p0,V.i p1,V.i p2] (.tup [V.i r.1,V.i r.2]) []:=by
 unfold impl_SpanOf at h
 refine ofb Tryz.f90 false ?_
 refine Wp.sa ?_
 refine Wp.seq ?_
 refine Wp.sr ?_
 refine Runs.cl false 3 11 [.i p0,.i p1] h (fun _=>impl_Blocks_ok) (fun r1 h=>?_)
 refine Runs.cl false 1 13 [.i p2,.i 0,.i (bSub .i64 r1 1)] h (fun _=>impl_within_ok) (fun r2 h=>?_)
 refine Runs.alln ?_
 refine Wp.c2 h (fun h=>?_) (fun h=>?_)
 ·refine Wp.sa ?_
  obtain rfl:=oi h
  exact Wp.ret RetB
 refine Wp.sk ?_
 refine Wp.sa ?_
 obtain rfl:=oi h
 exact Wp.ret RetB
theorem impl_Wrap_ok {u p0 p1 r} (h:impl_Wrap u p0 p1=some r):CallOK Tryz.prog 146 [V.i p0,V.i p1] (V.i r) []:=by
 unfold impl_Wrap at h
 refine ofb Tryz.f146 false ?_
 refine Wp.sa ?_
 refine Wp.seq ?_
 refine Wp.cl false 1 6 [.i p1,.i 1,.i 1000000000000] h (fun _=>impl_within_ok) (fun r1 h=>?_)
 refine Wp.c2 h (fun h=>?_) (fun h=>?_)
 ·refine Wp.sa ?_
  obtain rfl:=oi h
  exact Wp.ret RetB
 refine Wp.sk ?_
 refine Wp.sr ?_
 refine Runs.batch 2 kr ?_
 obtain ⟨_,e_2,h⟩:=bind_some h
 refine Runs.num .rem (.int .i64 p0) (.int .i64 p1) (.int .i64 (bRem .i64 p0 p1)) rfl kr kr kr kr (bin_rem _ _ _ _ (by simpa using chk_some e_2)) ?_
 refine Runs.batch 3 kr ?_
 obtain ⟨_,e_3,h⟩:=bind_some h
 refine Runs.num .rem (.int .i64 (bAdd .i64 (bRem .i64 p0 p1) p1)) (.int .i64 p1) (.int .i64 (bRem .i64 (bAdd .i64 (bRem .i64 p0 p1) p1) p1)) rfl kr kr kr kr (bin_rem _ _ _ _ (by simpa using chk_some e_3)) ?_
 refine Runs.alln ?_
 obtain rfl:=oi h
 exact Wp.ret RetB
theorem impl_weak_ok {u p0 p1 r} (h:impl_weak u p0 p1=some r):CallOK Tryz.prog 144 [V.i p0,V.i p1] (V.i r) []:=by
 unfold impl_weak at h
 refine ofb Tryz.f144 false ?_
 refine Wp.sa ?_
 refine Wp.sr ?_
 refine Runs.cl false 1 6 [.i p0,.i 251] h (fun _=>impl_Wrap_ok) (fun r1 h=>?_)
 refine Runs.cl false 1 8 [.i p1,.i 251] h (fun _=>impl_Wrap_ok) (fun r2 h=>?_)
 refine Runs.alln ?_
 obtain rfl:=oi h
 exact Wp.ret RetB
theorem impl_WeakOf_ok {u p0 r} (h:impl_WeakOf u p0=some r):CallOK Tryz.prog 137 [.one (.s p0)] (V.i r) []:=by
 unfold impl_WeakOf at h
 refine ofb Tryz.f137 false ?_
 refine Wp.sa ?_
 refine Wp.sa ?_
 refine Wp.j2 (fun x11 x12=>impl_WeakOf_j1 u x11 x12=some r) (fun x11 x12=>⟨[(2,.i 0),(3,.i x11),(4,.i x12)],[],[]⟩) (fun x11 x12 h=>?_) ?_
 ·refine Wp.cl false 2 25 [.i x11,.i x12] h (fun _=>impl_weak_ok) (fun r13 h=>?_)
  obtain rfl:=oi h
  exact Wp.ret RetB
 refine Wp.sr ?_
 refine Runs.ln 1 5 (eInt .u8) p0 ?_
 refine Runs.alln ?_
 refine Wp.block ?_
 refine Wp.l4 (fun k_impl_WeakOf_l2 x4 x5 p0 x6=>impl_WeakOf_l2 u k_impl_WeakOf_l2 x4 x5 p0 x6=some r) (fun x4 x5 p0 x6=>⟨[(2,.i 0),(3,.i x4),(4,.i x5),(7,.s p0),(8,.i ((p0.length:Int))),(9,.i x6)],[],[]⟩) (fun k_impl_WeakOf_l2 x4 x5 p0 x6 h=>?_) h (lo []) (fun _ _ _ _  h=>nomatch h)
 rw [impl_WeakOf_l2] at h
 refine Wp.sa ?_
 refine Wp.seq ?_
 refine Wp.c2 h (fun h=>?_) (fun h=>?_)
 ·refine Wp.sk ?_
  refine Wp.seq ?_
  refine Wp.block ?_
  refine Wp.sr ?_
  refine Runs.ix 0 5 1 (eInt .u8) h (fun y10 h _=>?_)
  refine Runs.alln ?_
  refine Wp.sa ?_
  refine Wp.rg [] [] ?_
  refine Runs.all kr ?_
  refine blkN ?_
  refine thenN ?_
  refine Wp.rg [] [] ?_
  refine Runs.alln ?_
  exact ⟨_,_,_,_,h,lo []⟩
 refine Wp.exit ?_
 refine thenE ?_
 refine thenE ?_
 refine blkE ?_
 refine thenN ?_
 exact ⟨_,_,h,lo []⟩
theorem impl_ManOk_ok {u p0 r} (h:impl_ManOk u p0=some r):CallOK Tryz.prog 113 [V.g (Manifest.enc p0)] (V.b r) []:=by
 unfold impl_ManOk at h
 refine ofb Tryz.f113 false ?_
 refine Wp.sa ?_
 refine Wp.seq ?_
 refine Wp.cl false 1 10 [.agg ((Manifest.enc p0).map .t)] h (fun _=>impl_isZeroMan_ok) (fun r1 h=>?_)
 refine Wp.c2 h (fun h=>?_) (fun h=>?_)
 ·refine Wp.sa ?_
  obtain rfl:=oi h
  exact Wp.ret RetB
 refine Wp.sk ?_
 refine Wp.seq ?_
 refine Wp.j2 (fun x5 p0=>impl_ManOk_j1 u x5 p0=some r) (fun x5 p0=>⟨[(1,.obj 1 0),(2,.b false),(33,.b x5)],[(1,((Manifest.enc p0).map .t))],[]⟩) (fun x5 p0 h=>?_) ?_
 ·refine Wp.c2 h (fun h=>?_) (fun h=>?_)
  ·refine Wp.sa ?_
   obtain rfl:=oi h
   exact Wp.ret RetB
  refine Wp.sk ?_
  refine Wp.j0 (impl_ManOk_j2 u=some r) ⟨[(2,.b false)],[],[]⟩ (fun h=>?_) ?_
  ·refine Wp.sa ?_
   obtain rfl:=oi h
   exact Wp.ret RetB
  refine Wp.sr ?_
  refine Runs.ln 2 117 Sum.enc p0.fSums ?_
  refine Runs.alln ?_
  refine Wp.block ?_
  refine Wp.l2 (fun k_impl_ManOk_l3 p0 x7=>impl_ManOk_l3 u k_impl_ManOk_l3 p0 x7=some r) (fun p0 x7=>⟨[(1,.obj 1 0),(2,.b false),(35,.t (.sl 2 (p0.fSums.map Sum.enc))),(36,.i ((p0.fSums.length:Int))),(37,.i x7)],[(1,((Manifest.enc p0).map .t))],[]⟩) (fun k_impl_ManOk_l3 p0 x7 h=>?_) h (lo []) (fun _ _  h=>nomatch h)
  rw [impl_ManOk_l3] at h
  refine Wp.sa ?_
  refine Wp.seq ?_
  refine Wp.c2 h (fun h=>?_) (fun h=>?_)
  ·refine Wp.sk ?_
   refine Wp.seq ?_
   refine Wp.block ?_
   refine Wp.sr ?_
   refine Runs.ix 1 117 2 Sum.enc h (fun y9 h _=>?_)
   refine Runs.alln ?_
   refine Wp.cl false 2 45 [.i y9.fS] h (fun _=>impl_BytesOf_ok) (fun r10 h=>?_)
   refine Wp.cl false 5 54 [.i p0.fSize,.i p0.fLen,.i x7] h (fun _=>impl_SpanOf_ok) (fun r11 h=>?_)
   refine Wp.j3 (fun p0 x7 x13=>impl_ManOk_j4 u (fun z0 z1=>impl_ManOk_l3 u k_impl_ManOk_l3 z0 z1) p0 x7 x13=some r) (fun p0 x7 x13=>⟨[(1,.obj 1 0),(2,.b false),(35,.t (.sl 2 (p0.fSums.map Sum.enc))),(36,.i ((p0.fSums.length:Int))),(37,.i x7),(71,.b x13)],[(1,((Manifest.enc p0).map .t))],[]⟩) (fun p0 x7 x13 h=>?_) ?_
   ·refine Wp.c2 h (fun h=>?_) (fun h=>?_)
    ·refine Wp.sa ?_
     obtain rfl:=oi h
     exact Wp.ret RetB
    refine Wp.skip ?_
    refine blkN ?_
    refine thenN ?_
    refine Wp.rg [] [] ?_
    refine Runs.alln ?_
    exact ⟨_,_,h,lo []⟩
   refine Wp.regionA (pOf []) (rhoOf [(4,.obj 4),(5,.own 45),(6,.frz),(8,.frz),(57,.frz),(58,.frz),(59,.frz),(60,.own 45),(61,.frz),(62,.frz),(64,.frz),(65,.frz),(66,.own 45),(67,.frz),(68,.obj 4),(69,.frz)]) kr kr ?_
   refine Runs.c2 3 59 h (fun h=>?_) (fun h=>?_)
   ·refine Runs.alln ?_
    exact ⟨_,_,_,h,lo []⟩
   refine Runs.ln 1 5 (eInt .u8) r10.1 ?_
   refine Runs.c2 4 65 h (fun h=>?_) (fun h=>?_)
   ·refine Runs.alln ?_
    exact ⟨_,_,_,h,lo []⟩
   refine Runs.cb 1 67 [.own 2949120] h (fun _=>impl_WeakOf_ok) (fun r12 h=>?_)
   refine Runs.alln ?_
   exact ⟨_,_,_,h,lo []⟩
  refine Wp.exit ?_
  refine thenE ?_
  refine thenE ?_
  refine blkE ?_
  refine thenN ?_
  exact ⟨h,lo []⟩
 refine Wp.regionA (pOf []) (rhoOf [(1,.obj 1),(11,.obj 1),(12,.frz),(13,.frz),(14,.frz),(15,.frz),(16,.obj 1),(17,.frz),(18,.obj 1),(19,.frz),(20,.frz),(22,.frz),(23,.frz),(24,.obj 1),(25,.frz),(26,.frz),(27,.obj 1),(28,.frz),(29,.obj 1),(30,.frz),(31,.frz)]) kr kr ?_
 refine Runs.cl false 2 13 [.i p0.fGen,.i 1,.i 1000000] h (fun _=>impl_within_ok) (fun r2 h=>?_)
 refine Runs.c2 2 15 h (fun h=>?_) (fun h=>?_)
 ·refine Runs.alln ?_
  exact ⟨_,_,h,lo []⟩
 refine Runs.cl false 4 20 [.i p0.fSize,.i p0.fLen] h (fun _=>impl_SizeOk_ok) (fun r3 h=>?_)
 refine Runs.c2 3 23 h (fun h=>?_) (fun h=>?_)
 ·refine Runs.alln ?_
  exact ⟨_,_,h,lo []⟩
 refine Runs.ln 2 117 Sum.enc p0.fSums ?_
 refine Runs.cl false 4 31 [.i p0.fSize,.i p0.fLen] h (fun _=>impl_Blocks_ok) (fun r4 h=>?_)
 refine Runs.alln ?_
 exact ⟨_,_,h,lo []⟩
theorem impl_SetOk_ok {u p0 r} (h:impl_SetOk u p0=some r):CallOK Tryz.prog 114 [V.i p0] (V.b r) []:=by
 unfold impl_SetOk at h
 refine ofb Tryz.f114 false ?_
 refine Wp.sa ?_
 refine Wp.cl false 1 4 [.i p0,.i 0,.i 1099511627775] h (fun _=>impl_within_ok) (fun r1 h=>?_)
 obtain rfl:=oi h
 exact Wp.ret RetB
theorem impl_FullSet_ok {u p0 r} (h:impl_FullSet u p0=some r):CallOK Tryz.prog 138 [V.i p0] (V.i r) []:=by
 unfold impl_FullSet at h
 refine ofb Tryz.f138 false ?_
 refine Wp.sa ?_
 refine Wp.seq ?_
 refine Wp.cl false 1 4 [.i p0,.i 0,.i 40] h (fun _=>impl_within_ok) (fun r1 h=>?_)
 refine Wp.c2 h (fun h=>?_) (fun h=>?_)
 ·refine Wp.sa ?_
  obtain rfl:=oi h
  exact Wp.ret RetB
 refine Wp.sk ?_
 refine Wp.sr ?_
 refine Runs.batch 1 kr ?_
 obtain ⟨_,e_2,h⟩:=bind_some h
 refine Runs.num .shl (.int .i64 1) (.int .i64 p0) (.int .i64 (bShl .i64 1 p0)) rfl kr kr kr kr (bin_shl _ _ _ _ _ (chk_some e_2)) ?_
 refine Runs.alln ?_
 obtain rfl:=oi h
 exact Wp.ret RetB
theorem impl_AllParts_ok {u p0 r} (h:impl_AllParts u p0=some r):CallOK Tryz.prog 115 [V.g (Manifest.enc p0)] (V.i r) []:=by
 unfold impl_AllParts at h
 refine ofb Tryz.f115 false ?_
 refine Wp.sa ?_
 refine Wp.sr ?_
 refine Runs.ln 2 117 Sum.enc p0.fSums ?_
 refine Runs.cl false 0 6 [.i ((p0.fSums.length:Int))] h (fun _=>impl_FullSet_ok) (fun r1 h=>?_)
 refine Runs.alln ?_
 obtain rfl:=oi h
 exact Wp.ret RetB
theorem impl_Build__block_ok {u p0 p1 p2 r} (h:impl_Build__block u p0 p1 p2=some r):CallOK Tryz.prog 116 [V.g (Build.enc p0),V.g (Manifest.enc p1),V.i p2] (.one (.s r)) []:=by
 unfold impl_Build__block at h
 refine ofb Tryz.f116 false ?_
 refine Wp.sa ?_
 refine Wp.cl false 5 15 [.i p1.fSize,.i p1.fLen,.i p2] h (fun _=>impl_SpanOf_ok) (fun r1 h=>?_)
 refine Wp.sr ?_
 refine Runs.batch 6 kr ?_
 obtain ⟨_,e_2,h⟩:=bind_some h
 refine Runs.subsl (e:=5) (ax:=.s p0.fBuf) (alo:=(some (.i r1.1))) (ahi:=(some (.i (bAdd .i64 r1.1 r1.2)))) (eInt .u8) p0.fBuf 1 r1.1 (bAdd .i64 r1.1 r1.2) rfl kr kr kr kr kr kr kr kr kr kr kr (chk_some e_2) ?_
 refine Runs.alln ?_
 obtain rfl:=oi h
 exact Wp.ret RetB
theorem impl_isPlace_ok {u p0 r} (h:impl_isPlace u p0=some r):CallOK Tryz.prog 139 [V.i p0] (V.b r) []:=by
 unfold impl_isPlace at h
 refine ofb Tryz.f139 false ?_
 refine Wp.sa ?_
 refine Wp.cl false 1 4 [.i p0,.i 0,.i 39] h (fun _=>impl_within_ok) (fun r1 h=>?_)
 obtain rfl:=oi h
 exact Wp.ret RetB
theorem impl_InSet_ok {u p0 p1 r} (h:impl_InSet u p0 p1=some r):CallOK Tryz.prog 117 [V.i p0,V.i p1] (V.b r) []:=by
 unfold impl_InSet at h
 refine ofb Tryz.f117 false ?_
 refine Wp.sa ?_
 refine Wp.sr ?_
 refine Runs.cl false 1 6 [.i p0] h (fun _=>impl_SetOk_ok) (fun r1 h=>?_)
 refine Runs.c2 1 7 h (fun h=>?_) (fun h=>?_)
 ·refine Runs.cl false 1 9 [.i p1] h (fun _=>impl_isPlace_ok) (fun r2 h=>?_)
  refine Runs.c2 2 11 h (fun h=>?_) (fun h=>?_)
  ·refine Runs.batch 2 kr ?_
   obtain ⟨_,e_3,h⟩:=bind_some h
   refine Runs.num .shr (.int .i64 p0) (.int .i64 p1) (.int .i64 (bShr .i64 p0 p1)) rfl kr kr kr kr (bin_shr _ _ _ _ _ (chk_some e_3)) ?_
   refine Runs.alln ?_
   obtain rfl:=oi h
   exact Wp.ret RetB
  refine Runs.alln ?_
  obtain rfl:=oi h
  exact Wp.ret RetB
 refine Runs.alln ?_
 obtain rfl:=oi h
 exact Wp.ret RetB
theorem impl_SumOf_ok {u p0 r} (h:impl_SumOf u p0=some r):CallOK Tryz.prog 118 [.one (.s p0)] (V.g (Sum.enc r)) []:=by
 unfold impl_SumOf at h
 refine ofb Tryz.f118 false ?_
 refine Wp.sa ?_
 refine Wp.seq ?_
 refine Wp.sr ?_
 refine Runs.ln 1 5 (eInt .u8) p0 ?_
 refine Runs.alln ?_
 refine Wp.c2 h (fun h=>?_) (fun h=>?_)
 ·refine Wp.sa ?_
  obtain rfl:=oi h
  exact Wp.ret RetB
 refine Wp.sk ?_
 refine Wp.sa ?_
 refine Wp.j2 (fun p0 x8=>impl_SumOf_j1 u p0 x8=some r) (fun p0 x8=>⟨[(0,.s p0),(2,.obj 2 0),(3,.i x8)],[(2,[.i 0,.i 0])],[]⟩) (fun p0 x8 h=>?_) ?_
 ·refine Wp.cl false 1 23 [.s p0] h (fun _=>impl_WeakOf_ok) (fun r9 h=>?_)
  obtain rfl:=oi h
  exact Wp.ret RetB
 refine Wp.sr ?_
 refine Runs.ln 1 5 (eInt .u8) p0 ?_
 refine Runs.alln ?_
 refine Wp.block ?_
 refine Wp.l3 (fun k_impl_SumOf_l2 p0 x3 x4=>impl_SumOf_l2 u k_impl_SumOf_l2 p0 x3 x4=some r) (fun p0 x3 x4=>⟨[(0,.s p0),(2,.obj 2 0),(3,.i x3),(10,.s p0),(11,.i ((p0.length:Int))),(12,.i x4)],[(2,[.i 0,.i 0])],[]⟩) (fun k_impl_SumOf_l2 p0 x3 x4 h=>?_) h (lo []) (fun _ _ _  h=>nomatch h)
 rw [impl_SumOf_l2] at h
 refine Wp.sa ?_
 refine Wp.seq ?_
 refine Wp.c2 h (fun h=>?_) (fun h=>?_)
 ·refine Wp.sk ?_
  refine Wp.seq ?_
  refine Wp.block ?_
  refine Wp.sr ?_
  refine Runs.ix 0 5 1 (eInt .u8) h (fun y7 h _=>?_)
  refine Runs.alln ?_
  refine Wp.rg [] [] ?_
  refine Runs.all kr ?_
  refine blkN ?_
  refine thenN ?_
  refine Wp.rg [] [] ?_
  refine Runs.alln ?_
  exact ⟨_,_,_,h,lo []⟩
 refine Wp.exit ?_
 refine thenE ?_
 refine thenE ?_
 refine blkE ?_
 refine thenN ?_
 exact ⟨_,_,h,lo []⟩
theorem impl_BuildOk_1_ok {u p0 r} (h:impl_BuildOk_1 u p0=some r):CallOK Tryz.prog 120 [.one (.t (.int .u8 p0))] (V.b r) []:=by
 unfold impl_BuildOk_1 at h
 refine ofb Tryz.f120 false ?_
 refine Wp.sa ?_
 refine Wp.sa ?_
 obtain rfl:=oi h
 exact Wp.ret RetB
theorem slices_IndexFunc___byte_byte__impl_BuildOk_1_ok {u p0 r} (h:slices_IndexFunc___byte_byte__impl_BuildOk_1 u p0=some r):CallOK Tryz.prog 140 [.one (.s p0),.clo 120 []] (V.i r) []:=by
 unfold slices_IndexFunc___byte_byte__impl_BuildOk_1 at h
 refine ofb Tryz.f140 false ?_
 refine Wp.sa ?_
 refine Wp.j0 (slices_IndexFunc___byte_byte__impl_BuildOk_1_j1 u=some r) ⟨[(4,.i 0)],[],[]⟩ (fun h=>?_) ?_
 ·refine Wp.sa ?_
  obtain rfl:=oi h
  exact Wp.ret RetB
 refine Wp.sr ?_
 refine Runs.ln 1 5 (eInt .u8) p0 ?_
 refine Runs.alln ?_
 refine Wp.block ?_
 refine Wp.l2 (fun k_slices_IndexFunc___byte_byte__impl_BuildOk_1_l2 p0 x2=>slices_IndexFunc___byte_byte__impl_BuildOk_1_l2 u k_slices_IndexFunc___byte_byte__impl_BuildOk_1_l2 p0 x2=some r) (fun p0 x2=>⟨[(0,.s p0),(1,.clo 120 []),(4,.i 0),(7,.i ((p0.length:Int))),(8,.i x2)],[],[]⟩) (fun k_slices_IndexFunc___byte_byte__impl_BuildOk_1_l2 p0 x2 h=>?_) h (lo []) (fun _ _  h=>nomatch h)
 rw [slices_IndexFunc___byte_byte__impl_BuildOk_1_l2] at h
 refine Wp.sa ?_
 refine Wp.seq ?_
 refine Wp.c2 h (fun h=>?_) (fun h=>?_)
 ·refine Wp.sk ?_
  refine Wp.seq ?_
  refine Wp.block ?_
  refine Wp.sa ?_
  refine Wp.sr ?_
  refine Runs.ix 3 5 1 (eInt .u8) h (fun y4 h _=>?_)
  refine Runs.cl false 1 16 [.t (.int .u8 y4)] h (fun _=>impl_BuildOk_1_ok) (fun r5 h=>?_)
  refine Runs.alln ?_
  refine Wp.c2 h (fun h=>?_) (fun h=>?_)
  ·refine Wp.sa ?_
   obtain rfl:=oi h
   exact Wp.ret RetB
  refine Wp.skip ?_
  refine blkN ?_
  refine thenN ?_
  refine Wp.rg [] [] ?_
  refine Runs.alln ?_
  exact ⟨_,_,h,lo []⟩
 refine Wp.exit ?_
 refine thenE ?_
 refine thenE ?_
 refine blkE ?_
 refine thenN ?_
 exact ⟨h,lo []⟩
theorem slices_ContainsFunc___byte_byte__impl_BuildOk_1_ok {u p0 r} (h:slices_ContainsFunc___byte_byte__impl_BuildOk_1 u p0=some r):CallOK Tryz.prog 119 [.one (.s p0),.clo 120 []] (V.b r) []:=by
 unfold slices_ContainsFunc___byte_byte__impl_BuildOk_1 at h
 refine ofb Tryz.f119 false ?_
 refine Wp.sa ?_
 refine Wp.cl false 2 7 [.s p0,.clo 120 []] h (fun _=>slices_IndexFunc___byte_byte__impl_BuildOk_1_ok) (fun r1 h=>?_)
 obtain rfl:=oi h
 exact Wp.ret RetB
theorem impl_BuildOk_ok {u p0 p1 r} (h:impl_BuildOk u p0 p1=some r):CallOK Tryz.prog 75 [V.g (Manifest.enc p0),V.g (Build.enc p1)] (V.b r) []:=by
 unfold impl_BuildOk at h
 refine ofb Tryz.f75 false ?_
 refine Wp.sa ?_
 refine Wp.seq ?_
 refine Wp.j3 (fun x4 p0 p1=>impl_BuildOk_j1 u x4 p0 p1=some r) (fun x4 p0 p1=>⟨[(2,.obj 2 0),(3,.obj 3 0),(4,.b false),(32,.b x4)],[(2,((Manifest.enc p0).map .t)),(3,[.i p1.fHave,.s p1.fBuf])],[]⟩) (fun x4 p0 p1 h=>?_) ?_
 ·refine Wp.c2 h (fun h=>?_) (fun h=>?_)
  ·refine Wp.sa ?_
   obtain rfl:=oi h
   exact Wp.ret RetB
  refine Wp.sk ?_
  refine Wp.j0 (impl_BuildOk_j2 u=some r) ⟨[(4,.b false)],[],[]⟩ (fun h=>?_) ?_
  ·refine Wp.sa ?_
   obtain rfl:=oi h
   exact Wp.ret RetB
  refine Wp.sr ?_
  refine Runs.ln 2 117 Sum.enc p0.fSums ?_
  refine Runs.alln ?_
  refine Wp.block ?_
  refine Wp.l3 (fun k_impl_BuildOk_l3 p0 x6 p1=>impl_BuildOk_l3 u k_impl_BuildOk_l3 p0 x6 p1=some r) (fun p0 x6 p1=>⟨[(2,.obj 2 0),(3,.obj 3 0),(4,.b false),(34,.t (.sl 2 (p0.fSums.map Sum.enc))),(35,.i ((p0.fSums.length:Int))),(36,.i x6)],[(2,((Manifest.enc p0).map .t)),(3,[.i p1.fHave,.s p1.fBuf])],[]⟩) (fun k_impl_BuildOk_l3 p0 x6 p1 h=>?_) h (lo []) (fun _ _ _  h=>nomatch h)
  rw [impl_BuildOk_l3] at h
  refine Wp.sa ?_
  refine Wp.seq ?_
  refine Wp.c2 h (fun h=>?_) (fun h=>?_)
  ·refine Wp.sk ?_
   refine Wp.seq ?_
   refine Wp.block ?_
   refine Wp.sr ?_
   refine Runs.ix 1 117 2 Sum.enc h (fun y8 h _=>?_)
   refine Runs.alln ?_
   refine Wp.cl false 3 44 [.agg [.i p1.fHave,.s p1.fBuf],.agg ((Manifest.enc p0).map .t),.i x6] h (fun _=>impl_Build__block_ok) (fun r9 h=>?_)
   refine Wp.j4 (fun p0 x6 x16 p1=>impl_BuildOk_j4 u (fun z0 z1 z2=>impl_BuildOk_l3 u k_impl_BuildOk_l3 z0 z1 z2) p0 x6 x16 p1=some r) (fun p0 x6 x16 p1=>⟨[(2,.obj 2 0),(3,.obj 3 0),(4,.b false),(34,.t (.sl 2 (p0.fSums.map Sum.enc))),(35,.i ((p0.fSums.length:Int))),(36,.i x6),(65,.b x16)],[(2,((Manifest.enc p0).map .t)),(3,[.i p1.fHave,.s p1.fBuf])],[]⟩) (fun p0 x6 x16 p1 h=>?_) ?_
   ·refine Wp.c2 h (fun h=>?_) (fun h=>?_)
    ·refine Wp.sa ?_
     obtain rfl:=oi h
     exact Wp.ret RetB
    refine Wp.skip ?_
    refine blkN ?_
    refine thenN ?_
    refine Wp.rg [] [] ?_
    refine Runs.alln ?_
    exact ⟨_,_,_,h,lo []⟩
   refine Wp.regionA (pOf []) (rhoOf [(3,.obj 3),(5,.frz),(6,.obj 6),(7,.frz),(45,.obj 3),(46,.frz),(47,.frz),(48,.frz),(49,.frz),(50,.frz),(51,.frz),(52,.frz),(54,.frz),(55,.frz),(56,.obj 3),(57,.frz),(58,.frz),(59,.frz),(60,.frz),(61,.frz),(62,.frz)]) kr kr ?_
   refine Runs.cl false 3 48 [.i p1.fHave,.i x6] h (fun _=>impl_InSet_ok) (fun r10 h=>?_)
   refine Runs.c2 1 49 h (fun h=>?_) (fun h=>?_)
   ·refine Runs.cl false 1 51 [.s r9] h (fun _=>impl_SumOf_ok) (fun r11 h=>?_)
    refine Runs.c2 4 55 h (fun h=>?_) (fun h=>?_)
    ·refine Runs.alln ?_
     exact ⟨_,_,_,_,h,lo []⟩
    refine Runs.cl false 3 59 [.i p1.fHave,.i x6] h (fun _=>impl_InSet_ok) (fun r12 h=>?_)
    refine Runs.c2 2 61 h (fun h=>?_) (fun h=>?_)
    ·refine Runs.cl false 1 63 [.s r9,.clo 120 []] h (fun _=>slices_ContainsFunc___byte_byte__impl_BuildOk_1_ok) (fun r13 h=>?_)
     refine Runs.alln ?_
     exact ⟨_,_,_,_,h,lo []⟩
    refine Runs.alln ?_
    exact ⟨_,_,_,_,h,lo []⟩
   refine Runs.cl false 9 59 [.i p1.fHave,.i x6] h (fun _=>impl_InSet_ok) (fun r14 h=>?_)
   refine Runs.c2 2 61 h (fun h=>?_) (fun h=>?_)
   ·refine Runs.cl false 1 63 [.s r9,.clo 120 []] h (fun _=>slices_ContainsFunc___byte_byte__impl_BuildOk_1_ok) (fun r15 h=>?_)
    refine Runs.alln ?_
    exact ⟨_,_,_,_,h,lo []⟩
   refine Runs.alln ?_
   exact ⟨_,_,_,_,h,lo []⟩
  refine Wp.exit ?_
  refine thenE ?_
  refine thenE ?_
  refine blkE ?_
  refine thenN ?_
  exact ⟨h,lo []⟩
 refine Wp.regionA (pOf []) (rhoOf [(2,.obj 2),(3,.obj 3),(8,.frz),(9,.frz),(10,.frz),(11,.frz),(12,.obj 3),(13,.frz),(14,.frz),(16,.frz),(17,.frz),(18,.obj 3),(19,.frz),(20,.frz),(21,.frz),(22,.frz),(24,.frz),(25,.frz),(26,.obj 3),(27,.frz),(28,.frz),(29,.obj 2),(30,.frz)]) kr kr ?_
 refine Runs.cl false 1 9 [.agg ((Manifest.enc p0).map .t)] h (fun _=>impl_ManOk_ok) (fun r1 h=>?_)
 refine Runs.c2 2 11 h (fun h=>?_) (fun h=>?_)
 ·refine Runs.alln ?_
  exact ⟨_,_,_,h,lo []⟩
 refine Runs.cl false 2 14 [.i p1.fHave] h (fun _=>impl_SetOk_ok) (fun r2 h=>?_)
 refine Runs.c2 3 17 h (fun h=>?_) (fun h=>?_)
 ·refine Runs.alln ?_
  exact ⟨_,_,_,h,lo []⟩
 refine Runs.cl false 3 21 [.agg ((Manifest.enc p0).map .t)] h (fun _=>impl_AllParts_ok) (fun r3 h=>?_)
 refine Runs.c2 4 25 h (fun h=>?_) (fun h=>?_)
 ·refine Runs.alln ?_
  exact ⟨_,_,_,h,lo []⟩
 refine Runs.ln 2 5 (eInt .u8) p1.fBuf ?_
 refine Runs.alln ?_
 exact ⟨_,_,_,h,lo []⟩
theorem impl_Without_ok {u p0 p1 r} (h:impl_Without u p0 p1=some r):CallOK Tryz.prog 121 [V.i p0,V.i p1] (V.i r) []:=by
 unfold impl_Without at h
 refine ofb Tryz.f121 false ?_
 refine Wp.sa ?_
 refine Wp.seq ?_
 refine Wp.j3 (fun p0 p1 x3=>impl_Without_j1 u p0 p1 x3=some r) (fun p0 p1 x3=>⟨[(0,.i p0),(1,.i p1),(4,.i 0),(12,.b x3)],[],[]⟩) (fun p0 p1 x3 h=>?_) ?_
 ·refine Wp.c2 h (fun h=>?_) (fun h=>?_)
  ·refine Wp.sa ?_
   obtain rfl:=oi h
   exact Wp.ret RetB
  refine Wp.sk ?_
  refine Wp.sa ?_
  obtain rfl:=oi h
  exact Wp.ret RetB
 refine Wp.rg [] [] ?_
 refine Runs.cl false 1 6 [.i p0] h (fun _=>impl_SetOk_ok) (fun r1 h=>?_)
 refine Runs.c2 2 8 h (fun h=>?_) (fun h=>?_)
 ·refine Runs.alln ?_
  exact ⟨_,_,_,h,lo []⟩
 refine Runs.cl false 1 10 [.i p1] h (fun _=>impl_SetOk_ok) (fun r2 h=>?_)
 refine Runs.alln ?_
 exact ⟨_,_,_,h,lo []⟩
theorem impl_Missing_ok {u p0 p1 r} (h:impl_Missing u p0 p1=some r):CallOK Tryz.prog 76 [V.g (Manifest.enc p0),V.g (Build.enc p1)] (V.i r) []:=by
 unfold impl_Missing at h
 refine ofb Tryz.f76 false ?_
 refine Wp.sa ?_
 refine Wp.seq ?_
 refine Wp.regionA (pOf []) (rhoOf [(2,.obj 2),(3,.obj 3),(5,.frz),(6,.frz),(7,.obj 3),(8,.frz),(9,.frz)]) kr kr ?_
 refine Runs.cl false 1 6 [.agg ((Manifest.enc p0).map .t)] h (fun _=>impl_AllParts_ok) (fun r1 h=>?_)
 refine Runs.cl false 2 9 [.i r1,.i p1.fHave] h (fun _=>impl_Without_ok) (fun r2 h=>?_)
 refine Runs.alln ?_
 obtain rfl:=oi h
 exact Wp.ret RetB
theorem impl_Whole_ok {u p0 p1 r} (h:impl_Whole u p0 p1=some r):CallOK Tryz.prog 31 [V.g (Manifest.enc p0),V.g (Build.enc p1)] (V.b r) []:=by
 unfold impl_Whole at h
 refine ofb Tryz.f31 false ?_
 refine Wp.sa ?_
 refine Wp.sr ?_
 refine Runs.c2 4 8 h (fun h=>?_) (fun h=>?_)
 ·refine Runs.cl false 2 11 [.agg ((Manifest.enc p0).map .t),.agg [.i p1.fHave,.s p1.fBuf]] h (fun _=>impl_BuildOk_ok) (fun r1 h=>?_)
  refine Runs.c2 2 13 h (fun h=>?_) (fun h=>?_)
  ·refine Runs.cl false 2 16 [.agg ((Manifest.enc p0).map .t),.agg [.i p1.fHave,.s p1.fBuf]] h (fun _=>impl_Missing_ok) (fun r2 h=>?_)
   refine Runs.alln ?_
   obtain rfl:=oi h
   exact Wp.ret RetB
  refine Runs.alln ?_
  obtain rfl:=oi h
  exact Wp.ret RetB
 refine Runs.alln ?_
 obtain rfl:=oi h
 exact Wp.ret RetB
theorem impl_isGen_ok {u p0 r} (h:impl_isGen u p0=some r):CallOK Tryz.prog 130 [V.i p0] (V.b r) []:=by
 unfold impl_isGen at h
 refine ofb Tryz.f130 false ?_
 refine Wp.sa ?_
 refine Wp.cl false 1 4 [.i p0,.i 0,.i 1000000] h (fun _=>impl_within_ok) (fun r1 h=>?_)
 obtain rfl:=oi h
 exact Wp.ret RetB
theorem impl_isSlot_ok {u p0 r} (h:impl_isSlot u p0=some r):CallOK Tryz.prog 92 [V.i p0] (V.b r) []:=by
 unfold impl_isSlot at h
 refine ofb Tryz.f92 false ?_
 refine Wp.sa ?_
 refine Wp.sr ?_
 refine Runs.c2 3 5 h (fun h=>?_) (fun h=>?_)
 ·refine Runs.alln ?_
  obtain rfl:=oi h
  exact Wp.ret RetB
 refine Runs.alln ?_
 obtain rfl:=oi h
 exact Wp.ret RetB
theorem impl_isRecord_ok {u p0 r} (h:impl_isRecord u p0=some r):CallOK Tryz.prog 86 [V.g (Record.enc p0)] (V.b r) []:=by
 unfold impl_isRecord at h
 refine ofb Tryz.f86 false ?_
 refine Wp.sa ?_
 refine Wp.sr ?_
 refine Runs.cl false 2 5 [.i p0.fGen] h (fun _=>impl_isGen_ok) (fun r1 h=>?_)
 refine Runs.c2 1 6 h (fun h=>?_) (fun h=>?_)
 ·refine Runs.cl false 2 9 [.i p0.fSlot] h (fun _=>impl_isSlot_ok) (fun r2 h=>?_)
  refine Runs.c2 2 11 h (fun h=>?_) (fun h=>?_)
  ·refine Runs.cl false 2 14 [.i p0.fLen,.i 0,.i 240] h (fun _=>impl_within_ok) (fun r3 h=>?_)
   refine Runs.alln ?_
   obtain rfl:=oi h
   exact Wp.ret RetB
  refine Runs.alln ?_
  obtain rfl:=oi h
  exact Wp.ret RetB
 refine Runs.alln ?_
 obtain rfl:=oi h
 exact Wp.ret RetB
theorem impl_Disk__slot__frz0_ok {u p0 p1 r} (h:impl_Disk__slot__frz0 u p0 p1=some r):CallOK Tryz.prog 65 [.fptr [.sl 1 (p0.fA.map (eInt .u8)),.sl 1 (p0.fB.map (eInt .u8)),.int .i64 p0.fR.fGen,.int .i64 p0.fR.fSlot,.int .i64 p0.fR.fLen,.sl 6 (p0.fP.map Put.enc)],V.i p1] (.fptr [.sl 1 (r.map (eInt .u8))]) []:=by
 unfold impl_Disk__slot__frz0 at h
 refine ofb Tryz.f65 false ?_
 refine Wp.sa ?_
 refine Wp.seq ?_
 refine Wp.sa ?_
 refine Wp.c2 h (fun h=>?_) (fun h=>?_)
 ·refine Wp.sa ?_
  refine Wp.ret ?_
  refine thenR ?_
  obtain rfl:=Option.some.inj h
  exact RetK [.fadr (Disk.enc p0)] (.fptr ([.sl 1 (p0.fA.map (eInt .u8))]++[.sl 1 (p0.fB.map (eInt .u8)),.int .i64 p0.fR.fGen,.int .i64 p0.fR.fSlot,.int .i64 p0.fR.fLen,.sl 6 (p0.fP.map Put.enc)])) [] kr kr (.cut _ _) .nil
 refine Wp.sk ?_
 refine Wp.sa ?_
 refine Wp.ret ?_
 obtain rfl:=Option.some.inj h
 exact RetK [.fadr [.sl 1 (p0.fB.map (eInt .u8)),.int .i64 p0.fR.fGen,.int .i64 p0.fR.fSlot,.int .i64 p0.fR.fLen,.sl 6 (p0.fP.map Put.enc)]] (.fptr ([.sl 1 (p0.fB.map (eInt .u8))]++[.int .i64 p0.fR.fGen,.int .i64 p0.fR.fSlot,.int .i64 p0.fR.fLen,.sl 6 (p0.fP.map Put.enc)])) [] kr kr (.cut _ _) .nil
theorem impl_isPut_ok {u p0 r} (h:impl_isPut u p0=some r):CallOK Tryz.prog 89 [V.g (Put.enc p0)] (V.b r) []:=by
 unfold impl_isPut at h
 refine ofb Tryz.f89 false ?_
 refine Wp.sa ?_
 refine Wp.seq ?_
 refine Wp.sa ?_
 refine Wp.c2 h (fun h=>?_) (fun h=>?_)
 ·refine Wp.sr ?_
  refine Runs.c2 4 9 h (fun h=>?_) (fun h=>?_)
  ·refine Runs.ln 2 5 (eInt .u8) p0.fB ?_
   refine Runs.c2 3 15 h (fun h=>?_) (fun h=>?_)
   ·refine Runs.cl false 2 18 [.agg ((Record.enc p0.fR).map .t)] h (fun _=>impl_isRecord_ok) (fun r1 h=>?_)
    refine Runs.alln ?_
    obtain rfl:=oi h
    exact Wp.ret RetB
   refine Runs.alln ?_
   obtain rfl:=oi h
   exact Wp.ret RetB
  refine Runs.alln ?_
  obtain rfl:=oi h
  exact Wp.ret RetB
 refine Wp.sk ?_
 refine Wp.sr ?_
 refine Runs.cl false 2 22 [.i p0.fWhat] h (fun _=>impl_isSlot_ok) (fun r2 h=>?_)
 refine Runs.c2 1 23 h (fun h=>?_) (fun h=>?_)
 ·refine Runs.c2 6 29 h (fun h=>?_) (fun h=>?_)
  ·refine Runs.ln 4 5 (eInt .u8) p0.fB ?_
   refine Runs.cl false 1 36 [.i p0.fAt,.i 0,.i (bSub .i64 240 ((p0.fB.length:Int)))] h (fun _=>impl_within_ok) (fun r3 h=>?_)
   refine Runs.alln ?_
   obtain rfl:=oi h
   exact Wp.ret RetB
  refine Runs.alln ?_
  obtain rfl:=oi h
  exact Wp.ret RetB
 refine Runs.alln ?_
 obtain rfl:=oi h
 exact Wp.ret RetB
theorem impl_DiskOk_1_ok {u p0 r} (h:impl_DiskOk_1 u p0=some r):CallOK Tryz.prog 88 [V.g (Put.enc p0)] (V.b r) []:=by
 unfold impl_DiskOk_1 at h
 refine ofb Tryz.f88 false ?_
 refine Wp.sa ?_
 refine Wp.cl false 1 4 [.agg ((Put.enc p0).map .t)] h (fun _=>impl_isPut_ok) (fun r1 h=>?_)
 obtain rfl:=oi h
 exact Wp.ret RetB
theorem slices_IndexFunc___impl_Put_impl_Put__impl_DiskOk_1_ok {u p0 r} (h:slices_IndexFunc___impl_Put_impl_Put__impl_DiskOk_1 u p0=some r):CallOK Tryz.prog 131 [.one (.t (.sl 6 (p0.map Put.enc))),.clo 88 []] (V.i r) []:=by
 unfold slices_IndexFunc___impl_Put_impl_Put__impl_DiskOk_1 at h
 refine ofb Tryz.f131 false ?_
 refine Wp.sa ?_
 refine Wp.j0 (slices_IndexFunc___impl_Put_impl_Put__impl_DiskOk_1_j1 u=some r) ⟨[(4,.i 0)],[],[]⟩ (fun h=>?_) ?_
 ·refine Wp.sa ?_
  obtain rfl:=oi h
  exact Wp.ret RetB
 refine Wp.sr ?_
 refine Runs.ln 1 85 Put.enc p0 ?_
 refine Runs.alln ?_
 refine Wp.block ?_
 refine Wp.l2 (fun k_slices_IndexFunc___impl_Put_impl_Put__impl_DiskOk_1_l2 p0 x2=>slices_IndexFunc___impl_Put_impl_Put__impl_DiskOk_1_l2 u k_slices_IndexFunc___impl_Put_impl_Put__impl_DiskOk_1_l2 p0 x2=some r) (fun p0 x2=>⟨[(0,.t (.sl 6 (p0.map Put.enc))),(1,.clo 88 []),(4,.i 0),(7,.i ((p0.length:Int))),(8,.i x2)],[],[]⟩) (fun k_slices_IndexFunc___impl_Put_impl_Put__impl_DiskOk_1_l2 p0 x2 h=>?_) h (lo []) (fun _ _  h=>nomatch h)
 rw [slices_IndexFunc___impl_Put_impl_Put__impl_DiskOk_1_l2] at h
 refine Wp.sa ?_
 refine Wp.seq ?_
 refine Wp.c2 h (fun h=>?_) (fun h=>?_)
 ·refine Wp.sk ?_
  refine Wp.seq ?_
  refine Wp.block ?_
  refine Wp.sa ?_
  refine Wp.sr ?_
  refine Runs.ix 3 85 6 Put.enc h (fun y4 h _=>?_)
  refine Runs.cl false 1 16 [.agg ((Put.enc y4).map .t)] h (fun _=>impl_DiskOk_1_ok) (fun r5 h=>?_)
  refine Runs.alln ?_
  refine Wp.c2 h (fun h=>?_) (fun h=>?_)
  ·refine Wp.sa ?_
   obtain rfl:=oi h
   exact Wp.ret RetB
  refine Wp.skip ?_
  refine blkN ?_
  refine thenN ?_
  refine Wp.rg [] [] ?_
  refine Runs.alln ?_
  exact ⟨_,_,h,lo []⟩
 refine Wp.exit ?_
 refine thenE ?_
 refine thenE ?_
 refine blkE ?_
 refine thenN ?_
 exact ⟨h,lo []⟩
theorem slices_ContainsFunc___impl_Put_impl_Put__impl_DiskOk_1_ok {u p0 r} (h:slices_ContainsFunc___impl_Put_impl_Put__impl_DiskOk_1 u p0=some r):CallOK Tryz.prog 87 [.one (.t (.sl 6 (p0.map Put.enc))),.clo 88 []] (V.b r) []:=by
 unfold slices_ContainsFunc___impl_Put_impl_Put__impl_DiskOk_1 at h
 refine ofb Tryz.f87 false ?_
 refine Wp.sa ?_
 refine Wp.cl false 2 7 [.t (.sl 6 (p0.map Put.enc)),.clo 88 []] h (fun _=>slices_IndexFunc___impl_Put_impl_Put__impl_DiskOk_1_ok) (fun r1 h=>?_)
 obtain rfl:=oi h
 exact Wp.ret RetB
theorem impl_DiskOk_ok {u p0 r} (h:impl_DiskOk u p0=some r):CallOK Tryz.prog 46 [V.g (Disk.enc p0)] (V.b r) []:=by
 unfold impl_DiskOk at h
 refine ofb Tryz.f46 false ?_
 refine Wp.sa ?_
 refine Wp.seq ?_
 refine Wp.j2 (fun p0 x3=>impl_DiskOk_j1 u p0 x3=some r) (fun p0 x3=>⟨[(1,.fadr (Disk.enc p0)),(2,.b false),(31,.b x3)],[],[]⟩) (fun p0 x3 h=>?_) ?_
 ·refine Wp.c2 h (fun h=>?_) (fun h=>?_)
  ·refine Wp.sa ?_
   obtain rfl:=oi h
   exact Wp.ret RetB
  refine Wp.sk ?_
  refine Wp.sr ?_
  refine Runs.ln 2 85 Put.enc p0.fP ?_
  refine Runs.c2 2 36 h (fun h=>?_) (fun h=>?_)
  ·refine Runs.cl false 2 39 [.t (.sl 6 (p0.fP.map Put.enc)),.clo 88 []] h (fun _=>slices_ContainsFunc___impl_Put_impl_Put__impl_DiskOk_1_ok) (fun r4 h=>?_)
   refine Runs.alln ?_
   obtain rfl:=oi h
   exact Wp.ret RetB
  refine Runs.alln ?_
  obtain rfl:=oi h
  exact Wp.ret RetB
 refine Wp.le (Le.frzOb 1 (Disk.enc p0) kr kr) ?_
 refine Wp.regionA (pOf []) (rhoOf [(1,.frz),(3,.frz),(4,.frz),(5,.frz),(6,.frz),(7,.frz),(8,.frz),(9,.frz),(10,.frz),(12,.frz),(13,.frz),(14,.frz),(15,.frz),(16,.frz),(18,.frz),(19,.frz),(20,.frz),(21,.frz),(22,.frz),(23,.frz),(24,.frz),(25,.frz),(26,.frz),(27,.frz),(28,.frz),(29,.frz)]) kr kr ?_
 refine Runs.ln 2 5 (eInt .u8) p0.fA ?_
 refine Runs.c2 2 7 h (fun h=>?_) (fun h=>?_)
 ·refine Runs.alln ?_
  exact ⟨_,_,h,lo []⟩
 refine Runs.ln 2 5 (eInt .u8) p0.fB ?_
 refine Runs.c2 3 13 h (fun h=>?_) (fun h=>?_)
 ·refine Runs.alln ?_
  exact ⟨_,_,h,lo []⟩
 refine Runs.cl false 2 16 [.agg ((Record.enc p0.fR).map .t)] h (fun _=>impl_isRecord_ok) (fun r1 h=>?_)
 refine Runs.c2 3 19 h (fun h=>?_) (fun h=>?_)
 ·refine Runs.alln ?_
  exact ⟨_,_,h,lo []⟩
 refine Runs.cl false 6 26 [.fadr (Disk.enc p0),.i p0.fR.fSlot] h (fun _=>impl_Disk__slot__frz0_ok) (fun r2 h=>?_)
 refine Runs.ln 2 5 (eInt .u8) r2 ?_
 refine Runs.alln ?_
 exact ⟨_,_,h,lo []⟩
theorem impl_cloned_okd {u p0 r} (h:impl_cloned u p0=some r):DOK Tryz.prog 64 [.one (.s p0)] (.one (.ow 5 1 (r.map (eInt .u8)))):=by
 unfold impl_cloned at h
 refine DOK.of_bodyK (fn:=Tryz.f64) (m:=true) kr rfl kr kr kr ?_
 refine Wp.sa ?_
 refine Wp.sr ?_
 refine Runs.batch 1 kr ?_
 refine Runs.lenX (e:=5) (eInt .u8) p0 false 1 rfl rfl rfl kr kr kr kr ?_
 obtain ⟨_,e_1,h⟩:=bind_some h
 obtain ⟨_,e_2,h⟩:=bind_some h
 refine Runs.mkS (eInt .u8) (0:Int) 5 5 1 1 0 ((p0.length:Int)) rfl rfl kr kr kr kr kr kr (chk_some e_1) (of_decide_eq_true (chk_some e_2)) kr ?_
 refine Runs.batch 1 kr ?_
 obtain ⟨_,e_3,h⟩:=bind_some h
 refine Runs.appT (y:=.ext false (.sl 1 (p0.map (eInt .u8)))) (eInt .u8) 7 1 5 1 1 327680 (List.replicate (Int.toNat 0) (0:Int)) p0 rfl rfl rfl rfl kr kr kr kr kr (rows_extI _ _ _) (.inl rfl) kr (of_decide_eq_true (chk_some e_3)) kr kr ?_
 refine Runs.alln ?_
 obtain rfl:=oi h
 exact Wp.ret RetB
theorem impl_copyPut_okd {u p0 r} (h:impl_copyPut u p0=some r):DOK Tryz.prog 80 [V.g (Put.enc p0)] (V.w [0,0,5,0,0,0] (Put.enc r)):=by
 unfold impl_copyPut at h
 refine DOK.of_bodyK (fn:=Tryz.f80) (m:=true) kr rfl kr kr kr ?_
 refine Wp.sa ?_
 refine Wp.sr ?_
 refine Runs.batch 2 kr ?_
 obtain ⟨r1,e_r1,h⟩:=bind_some h
 refine Runs.callDK 5 64 [] [.ext false (.sl 1 (p0.fB.map (eInt .u8)))] [.one (.s p0.fB)] (.one (.ow 5 1 (r1.map (eInt .u8)))) rfl rfl kr kr kr kr kr (impl_cloned_okd e_r1) kr ?_
 refine Runs.alln ?_
 refine Wp.sa ?_
 obtain rfl:=oi h
 exact Wp.ret RetB
theorem impl_copyDisk_okd {u p0 r} (h:impl_copyDisk u p0=some r):DOK Tryz.prog 35 [V.g (Disk.enc p0)] (V.w [5,5,0,0,0,85] (Disk.enc r)):=by
 unfold impl_copyDisk at h
 refine DOK.of_bodyK (fn:=Tryz.f35) (m:=true) kr rfl kr kr kr ?_
 refine Wp.sa ?_
 refine Wp.seq ?_
 refine Wp.regionA (pOf []) (rhoOf [(1,.obj 1),(3,.obj 3),(6,.obj 1),(7,.frz),(8,.own 8),(9,.obj 1),(10,.frz),(11,.own 11),(12,.obj 1),(13,.frz)]) kr kr ?_
 refine Runs.batch 2 kr ?_
 obtain ⟨r1,e_r1,h⟩:=bind_some h
 refine Runs.callDK 8 64 [] [.ext false (.sl 1 (p0.fA.map (eInt .u8)))] [.one (.s p0.fA)] (.one (.ow 5 1 (r1.map (eInt .u8)))) rfl rfl kr kr kr kr kr (impl_cloned_okd e_r1) kr ?_
 refine Runs.batch 2 kr ?_
 obtain ⟨r2,e_r2,h⟩:=bind_some h
 refine Runs.callDK 11 64 [] [.ext false (.sl 1 (p0.fB.map (eInt .u8)))] [.one (.s p0.fB)] (.one (.ow 5 1 (r2.map (eInt .u8)))) rfl rfl kr kr kr kr kr (impl_cloned_okd e_r2) kr ?_
 refine Runs.alln ?_
 refine Wp.j4 (fun r1 r2 p0 x11=>impl_copyDisk_j1 u r1 r2 p0 x11=some r) (fun r1 r2 p0 x11=>⟨[(2,.obj 2 0),(3,.obj 3 0)],[(2,[.nil,.nil,.i 0,.i 0,.i 0,.nil]),(3,[.own 197120,.own 197121,.i p0.fR.fGen,.i p0.fR.fSlot,.i p0.fR.fLen,.own 197125])],[(197120,.live 5 1 (r1.map (eInt .u8))),(197121,.live 5 1 (r2.map (eInt .u8))),(197125,.live 85 6 (x11.map Put.enc))]⟩) (fun r1 r2 p0 x11 h=>?_) ?_
 ·refine Wp.sa ?_
  obtain rfl:=oi h
  exact Wp.ret RetB
 refine Wp.sr ?_
 refine Runs.batch 2 kr ?_
 refine Runs.lenX (e:=85) Put.enc p0.fP false 6 rfl rfl rfl kr kr kr kr ?_
 refine Runs.alln ?_
 refine Wp.block ?_
 refine Wp.l5 (fun k_impl_copyDisk_l2 p0 x5 r1 r2 x6=>impl_copyDisk_l2 u k_impl_copyDisk_l2 p0 x5 r1 r2 x6=some r) (fun p0 x5 r1 r2 x6=>⟨[(2,.obj 2 0),(3,.obj 3 0),(16,.ext false (.sl 6 (p0.fP.map Put.enc))),(17,.i ((p0.fP.length:Int))),(18,.i x5)],[(2,[.nil,.nil,.i 0,.i 0,.i 0,.nil]),(3,[.own 197120,.own 197121,.i p0.fR.fGen,.i p0.fR.fSlot,.i p0.fR.fLen,.own 197125])],[(197120,.live 5 1 (r1.map (eInt .u8))),(197121,.live 5 1 (r2.map (eInt .u8))),(197125,.live 85 6 (x6.map Put.enc))]⟩) (fun k_impl_copyDisk_l2 p0 x5 r1 r2 x6 h=>?_) h (Le.trans (Le.emptyO 3 5 197125 85 6 [.own 524288,.own 720896,.i p0.fR.fGen,.i p0.fR.fSlot,.i p0.fR.fLen,.nil] kr kr kr) (lo [(197120,524288),(197121,720896)])) (fun _ _ _ _ _  h=>nomatch h)
 rw [impl_copyDisk_l2] at h
 refine Wp.sa ?_
 refine Wp.seq ?_
 refine Wp.c2 h (fun h=>?_) (fun h=>?_)
 ·refine Wp.sk ?_
  refine Wp.seq ?_
  refine Wp.block ?_
  refine Wp.sr ?_
  obtain ⟨y9,e_y9,h⟩:=bind_some h
  refine Runs.idxX (e:=85) (kk:=.i64) (sz:=6) Put.enc p0.fP x5 false rfl kr kr kr kr kr kr e_y9 ?_
  refine Runs.alln ?_
  refine Wp.regionA (pOf []) (rhoOf [(3,.obj 3),(5,.obj 5),(22,.obj 3),(23,.own 3),(24,.frz),(25,.own 25),(26,.own 26),(27,.own 27),(28,.obj 3)]) kr kr ?_
  refine Runs.batch 3 kr ?_
  obtain ⟨r10,e_r10,h⟩:=bind_some h
  refine Runs.callDK 25 80 [] [.agg [.i y9.fWhat,.i y9.fAt,.ext false (.sl 1 (y9.fB.map (eInt .u8))),.i y9.fR.fGen,.i y9.fR.fSlot,.i y9.fR.fLen]] [.agg ((Put.enc y9).map .t)] (V.w [0,0,5,0,0,0] (Put.enc r10)) rfl rfl kr kr kr kr kr (impl_copyPut_okd e_r10) kr ?_
  refine Runs.ap (ys:=[r10]) 1 27 85 6 197125 Put.enc h (fun h=>?_)
  refine Runs.all kr ?_
  refine blkN ?_
  refine thenN ?_
  refine Wp.rg [] [] ?_
  refine Runs.alln ?_
  exact ⟨_,_,_,_,_,h,lo [(197125,1769472)]⟩
 refine Wp.exit ?_
 refine thenE ?_
 refine thenE ?_
 refine blkE ?_
 refine thenN ?_
 exact ⟨_,_,_,_,h,lo []⟩
theorem impl_Slice_okd {u p0 p1 p2 r} (h:impl_Slice u p0 p1 p2=some r):DOK Tryz.prog 91 [.one (.s p0),V.i p1,V.i p2] (.tup [.one (.ow 5 1 (r.1.map (eInt .u8))),V.b r.2]):=by
 unfold impl_Slice at h
 refine DOK.of_bodyK (fn:=Tryz.f91) (m:=true) kr rfl kr kr kr ?_
 refine Wp.sa ?_
 refine Wp.seq ?_
 refine Wp.j4 (fun p0 p1 p2 x3=>impl_Slice_j1 u p0 p1 p2 x3=some r) (fun p0 p1 p2 x3=>⟨[(0,.ext false (.sl 1 (p0.map (eInt .u8)))),(1,.i p1),(2,.i p2),(6,.nil),(7,.b false),(21,.b x3)],[],[]⟩) (fun p0 p1 p2 x3 h=>?_) ?_
 ·refine Wp.c2 h (fun h=>?_) (fun h=>?_)
  ·refine Wp.sa ?_
   obtain rfl:=oi h
   exact Wp.ret RetB
  refine Wp.sk ?_
  refine Wp.sr ?_
  refine Runs.batch 5 kr ?_
  obtain ⟨_,e_4,h⟩:=bind_some h
  refine Runs.subslX (e:=5) (alo:=(some (.i p1))) (ahi:=(some (.i (bAdd .i64 p1 p2)))) false (eInt .u8) p0 1 p1 (bAdd .i64 p1 p2) rfl kr kr kr kr kr kr kr kr kr kr (chk_some e_4) ?_
  obtain ⟨r5,e_r5,h⟩:=bind_some h
  refine Runs.callDK 28 64 [] [.ext false (.sl 1 (((p0.take (Int.toNat (bAdd .i64 p1 p2))).drop (Int.toNat p1)).map (eInt .u8)))] [.one (.t (.sl 1 (((p0.take (Int.toNat (bAdd .i64 p1 p2))).drop (Int.toNat p1)).map (eInt .u8))))] (.one (.ow 5 1 (r5.map (eInt .u8)))) rfl rfl kr kr kr kr kr (impl_cloned_okd e_r5) kr ?_
  refine Runs.alln ?_
  obtain rfl:=oi h
  exact Wp.ret RetB
 refine Wp.rg [] [] ?_
 refine Runs.batch 2 kr ?_
 refine Runs.lenX (e:=5) (eInt .u8) p0 false 1 rfl rfl rfl kr kr kr kr ?_
 refine Runs.cl false 0 11 [.i p1,.i 0,.i ((p0.length:Int))] h (fun _=>impl_within_ok) (fun r1 h=>?_)
 refine Runs.c2 2 13 h (fun h=>?_) (fun h=>?_)
 ·refine Runs.alln ?_
  exact ⟨_,_,_,_,h,lo []⟩
 refine Runs.batch 2 kr ?_
 refine Runs.lenX (e:=5) (eInt .u8) p0 false 1 rfl rfl rfl kr kr kr kr ?_
 refine Runs.cl false 2 19 [.i p2,.i 0,.i (bSub .i64 ((p0.length:Int)) p1)] h (fun _=>impl_within_ok) (fun r2 h=>?_)
 refine Runs.alln ?_
 exact ⟨_,_,_,_,h,lo []⟩
theorem impl_BlockAt_okd {u p0 p1 p2 r} (h:impl_BlockAt u p0 p1 p2=some r):DOK Tryz.prog 48 [.one (.s p0),V.i p1,V.i p2] (.tup [.one (.ow 5 1 (r.1.map (eInt .u8))),V.b r.2]):=by
 unfold impl_BlockAt at h
 refine DOK.of_bodyK (fn:=Tryz.f48) (m:=true) kr rfl kr kr kr ?_
 refine Wp.sa ?_
 refine Wp.sr ?_
 refine Runs.batch 2 kr ?_
 refine Runs.lenX (e:=5) (eInt .u8) p0 false 1 rfl rfl rfl kr kr kr kr ?_
 refine Runs.cl false 1 15 [.i p1,.i ((p0.length:Int)),.i p2] h (fun _=>impl_SpanOf_ok) (fun r1 h=>?_)
 refine Runs.alln ?_
 refine Wp.seq ?_
 refine Wp.sa ?_
 refine Wp.c2 h (fun h=>?_) (fun h=>?_)
 ·refine Wp.sa ?_
  obtain rfl:=oi h
  exact Wp.ret RetB
 refine Wp.sk ?_
 refine Wp.sr ?_
 refine Runs.batch 3 kr ?_
 obtain ⟨r2,e_r2,h⟩:=bind_some h
 refine Runs.callDK 23 91 [] [.ext false (.sl 1 (p0.map (eInt .u8))),.i r1.1,.i r1.2] [.one (.s p0),.one (.i r1.1),.one (.i r1.2)] (.tup [.one (.ow 5 1 (r2.1.map (eInt .u8))),V.b r2.2]) rfl rfl kr kr kr kr kr (impl_Slice_okd e_r2) kr ?_
 refine Runs.alln ?_
 obtain rfl:=oi h
 exact Wp.ret RetB
theorem impl_Spare_ok {u p0 r} (h:impl_Spare u p0=some r):CallOK Tryz.prog 34 [V.g (Disk.enc p0)] (V.i r) []:=by
 unfold impl_Spare at h
 refine ofb Tryz.f34 false ?_
 refine Wp.sa ?_
 refine Wp.sa ?_
 obtain rfl:=oi h
 exact Wp.ret RetB
theorem impl_Disk__with_okd {u p0 p1 r} (h:impl_Disk__with u p0 p1=some r):DOK Tryz.prog 79 [V.g (Disk.enc p0),V.g (Put.enc p1)] (.tup [V.w [5,5,0,0,0,85] (Disk.enc r.1),V.b r.2]):=by
 unfold impl_Disk__with at h
 refine DOK.of_bodyK (fn:=Tryz.f79) (m:=true) kr rfl kr kr kr ?_
 refine Wp.sa ?_
 refine Wp.sr ?_
 refine Runs.batch 1 kr ?_
 obtain ⟨r1,e_r1,h⟩:=bind_some h
 refine Runs.callDK 8 35 [] [.agg [.ext false (.sl 1 (p0.fA.map (eInt .u8))),.ext false (.sl 1 (p0.fB.map (eInt .u8))),.i p0.fR.fGen,.i p0.fR.fSlot,.i p0.fR.fLen,.ext false (.sl 6 (p0.fP.map Put.enc))]] [.agg ((Disk.enc p0).map .t)] (V.w [5,5,0,0,0,85] (Disk.enc r1)) rfl rfl kr kr kr kr kr (impl_copyDisk_okd e_r1) kr ?_
 refine Runs.alln ?_
 refine Wp.seq ?_
 refine Wp.regionA (pOf []) (rhoOf [(3,.obj 3),(6,.obj 6),(9,.obj 6),(10,.own 8),(11,.frz),(12,.own 12),(13,.own 13),(14,.own 14),(15,.obj 6)]) kr kr ?_
 refine Runs.batch 3 kr ?_
 obtain ⟨r2,e_r2,h⟩:=bind_some h
 refine Runs.callDK 12 80 [] [.agg [.i p1.fWhat,.i p1.fAt,.ext false (.sl 1 (p1.fB.map (eInt .u8))),.i p1.fR.fGen,.i p1.fR.fSlot,.i p1.fR.fLen]] [.agg ((Put.enc p1).map .t)] (V.w [0,0,5,0,0,0] (Put.enc r2)) rfl rfl kr kr kr kr kr (impl_copyPut_okd e_r2) kr ?_
 refine Runs.ap (ys:=[r2]) 1 14 85 6 524293 Put.enc h (fun h=>?_)
 refine Runs.alln ?_
 refine Wp.seq ?_
 refine Wp.sr ?_
 refine Runs.cb 1 17 [.agg [.own 524288,.own 524289,.i r1.fR.fGen,.i r1.fR.fSlot,.i r1.fR.fLen,.own 917504]] h (fun _=>impl_DiskOk_ok) (fun r4 h=>?_)
 refine Runs.alln ?_
 refine Wp.c2 h (fun h=>?_) (fun h=>?_)
 ·refine Wp.sr ?_
  refine Runs.batch 1 kr ?_
  obtain ⟨r5,e_r5,h⟩:=bind_some h
  refine Runs.callDK 20 35 [] [.agg [.ext false (.sl 1 (p0.fA.map (eInt .u8))),.ext false (.sl 1 (p0.fB.map (eInt .u8))),.i p0.fR.fGen,.i p0.fR.fSlot,.i p0.fR.fLen,.ext false (.sl 6 (p0.fP.map Put.enc))]] [.agg ((Disk.enc p0).map .t)] (V.w [5,5,0,0,0,85] (Disk.enc r5)) rfl rfl kr kr kr kr kr (impl_copyDisk_okd e_r5) kr ?_
  refine Runs.alln ?_
  obtain rfl:=oi h
  exact Wp.ret RetB
 refine Wp.sk ?_
 refine Wp.sa ?_
 obtain rfl:=oi h
 exact Wp.ret RetB
theorem impl_PutBytes_okd {u p0 p1 p2 p3 r} (h:impl_PutBytes u p0 p1 p2 p3=some r):DOK Tryz.prog 49 [V.g (Disk.enc p0),V.i p1,V.i p2,.one (.s p3)] (.tup [V.w [5,5,0,0,0,85] (Disk.enc r.1),V.b r.2]):=by
 unfold impl_PutBytes at h
 refine DOK.of_bodyK (fn:=Tryz.f49) (m:=true) kr rfl kr kr kr ?_
 refine Wp.sa ?_
 refine Wp.seq ?_
 refine Wp.cl false 1 11 [.i p1] h (fun _=>impl_isSlot_ok) (fun r1 h=>?_)
 refine Wp.c2 h (fun h=>?_) (fun h=>?_)
 ·refine Wp.sr ?_
  refine Runs.batch 1 kr ?_
  obtain ⟨r2,e_r2,h⟩:=bind_some h
  refine Runs.callDK 14 35 [] [.agg [.ext false (.sl 1 (p0.fA.map (eInt .u8))),.ext false (.sl 1 (p0.fB.map (eInt .u8))),.i p0.fR.fGen,.i p0.fR.fSlot,.i p0.fR.fLen,.ext false (.sl 6 (p0.fP.map Put.enc))]] [.agg ((Disk.enc p0).map .t)] (V.w [5,5,0,0,0,85] (Disk.enc r2)) rfl rfl kr kr kr kr kr (impl_copyDisk_okd e_r2) kr ?_
  refine Runs.alln ?_
  obtain rfl:=oi h
  exact Wp.ret RetB
 refine Wp.sk ?_
 refine Wp.sr ?_
 refine Runs.batch 5 kr ?_
 obtain ⟨r3,e_r3,h⟩:=bind_some h
 refine Runs.callDK 20 79 [] [.agg [.ext false (.sl 1 (p0.fA.map (eInt .u8))),.ext false (.sl 1 (p0.fB.map (eInt .u8))),.i p0.fR.fGen,.i p0.fR.fSlot,.i p0.fR.fLen,.ext false (.sl 6 (p0.fP.map Put.enc))],.agg [.i p1,.i p2,.ext false (.sl 1 (p3.map (eInt .u8))),.i 0,.i 0,.i 0]] [.agg ((Disk.enc p0).map .t),.agg [.i p1,.i p2,.s p3,.i 0,.i 0,.i 0]] (.tup [V.w [5,5,0,0,0,85] (Disk.enc r3.1),V.b r3.2]) rfl rfl kr kr kr kr kr (impl_Disk__with_okd e_r3) kr ?_
 refine Runs.alln ?_
 obtain rfl:=oi h
 exact Wp.ret RetB
theorem impl_StageAll_okd {u p0 p1 p2 r} (h:impl_StageAll u p0 p1 p2=some r):DOK Tryz.prog 9 [V.g (Disk.enc p0),.one (.s p1),V.i p2] (.tup [V.w [5,5,0,0,0,85] (Disk.enc r.1),V.b r.2]):=by
 unfold impl_StageAll at h
 refine DOK.of_bodyK (fn:=Tryz.f9) (m:=true) kr rfl kr kr kr ?_
 refine Wp.sa ?_
 refine Wp.seq ?_
 refine Wp.j4 (fun p1 p2 x3 p0=>impl_StageAll_j1 u p1 p2 x3 p0=some r) (fun p1 p2 x3 p0=>⟨[(1,.ext false (.sl 1 (p1.map (eInt .u8)))),(2,.i p2),(3,.obj 3 0),(6,.obj 6 0),(7,.b false),(29,.b x3)],[(3,[.ext false (.sl 1 (p0.fA.map (eInt .u8))),.ext false (.sl 1 (p0.fB.map (eInt .u8))),.i p0.fR.fGen,.i p0.fR.fSlot,.i p0.fR.fLen,.ext false (.sl 6 (p0.fP.map Put.enc))]),(6,[.nil,.nil,.i 0,.i 0,.i 0,.nil])],[]⟩) (fun p1 p2 x3 p0 h=>?_) ?_
 ·refine Wp.c2 h (fun h=>?_) (fun h=>?_)
  ·refine Wp.sr ?_
   refine Runs.batch 1 kr ?_
   obtain ⟨r4,e_r4,h⟩:=bind_some h
   refine Runs.callDK 31 35 [] [.agg [.ext false (.sl 1 (p0.fA.map (eInt .u8))),.ext false (.sl 1 (p0.fB.map (eInt .u8))),.i p0.fR.fGen,.i p0.fR.fSlot,.i p0.fR.fLen,.ext false (.sl 6 (p0.fP.map Put.enc))]] [.agg ((Disk.enc p0).map .t)] (V.w [5,5,0,0,0,85] (Disk.enc r4)) rfl rfl kr kr kr kr kr (impl_copyDisk_okd e_r4) kr ?_
   refine Runs.alln ?_
   obtain rfl:=oi h
   exact Wp.ret RetB
  refine Wp.sk ?_
  refine Wp.sr ?_
  refine Runs.batch 1 kr ?_
  obtain ⟨r5,e_r5,h⟩:=bind_some h
  refine Runs.callDK 33 35 [] [.agg [.ext false (.sl 1 (p0.fA.map (eInt .u8))),.ext false (.sl 1 (p0.fB.map (eInt .u8))),.i p0.fR.fGen,.i p0.fR.fSlot,.i p0.fR.fLen,.ext false (.sl 6 (p0.fP.map Put.enc))]] [.agg ((Disk.enc p0).map .t)] (V.w [5,5,0,0,0,85] (Disk.enc r5)) rfl rfl kr kr kr kr kr (impl_copyDisk_okd e_r5) kr ?_
  refine Runs.alln ?_
  refine Wp.j6 (fun x32 x33 x34 x35 x36 x37=>impl_StageAll_j2 u x32 x33 x34 x35 x36 x37=some r) (fun x32 x33 x34 x35 x36 x37=>⟨[(6,.obj 6 0),(7,.b false),(8,.obj 8 0)],[(6,[.nil,.nil,.i 0,.i 0,.i 0,.nil]),(8,[.own 524800,.own 524801,.i x34,.i x35,.i x36,.own 524805])],[(524800,.live 5 1 (x32.map (eInt .u8))),(524801,.live 5 1 (x33.map (eInt .u8))),(524805,.live 85 6 (x37.map Put.enc))]⟩) (fun x32 x33 x34 x35 x36 x37 h=>?_) ?_
  ·refine Wp.sa ?_
   obtain rfl:=oi h
   exact Wp.ret RetB
  refine Wp.sr ?_
  refine Runs.batch 2 kr ?_
  refine Runs.lenX (e:=5) (eInt .u8) p1 false 1 rfl rfl rfl kr kr kr kr ?_
  refine Runs.cl false 0 37 [.i p2,.i ((p1.length:Int))] h (fun _=>impl_Blocks_ok) (fun r6 h=>?_)
  refine Runs.alln ?_
  refine Wp.block ?_
  refine Wp.l11 (fun k_impl_StageAll_l3 p1 p2 r6 x14 x15 x16 x17 x18 x19 x20 p0=>impl_StageAll_l3 u k_impl_StageAll_l3 p1 p2 r6 x14 x15 x16 x17 x18 x19 x20 p0=some r) (fun p1 p2 r6 x14 x15 x16 x17 x18 x19 x20 p0=>⟨[(1,.ext false (.sl 1 (p1.map (eInt .u8)))),(2,.i p2),(3,.obj 3 0),(6,.obj 6 0),(7,.b false),(8,.obj 8 0),(37,.i r6),(38,.i x14)],[(3,[.ext false (.sl 1 (p0.fA.map (eInt .u8))),.ext false (.sl 1 (p0.fB.map (eInt .u8))),.i p0.fR.fGen,.i p0.fR.fSlot,.i p0.fR.fLen,.ext false (.sl 6 (p0.fP.map Put.enc))]),(6,[.nil,.nil,.i 0,.i 0,.i 0,.nil]),(8,[.own 524800,.own 524801,.i x17,.i x18,.i x19,.own 524805])],[(524800,.live 5 1 (x15.map (eInt .u8))),(524801,.live 5 1 (x16.map (eInt .u8))),(524805,.live 85 6 (x20.map Put.enc))]⟩) (fun k_impl_StageAll_l3 p1 p2 r6 x14 x15 x16 x17 x18 x19 x20 p0 h=>?_) h (lo [(524800,2162688),(524801,2162689),(524805,2162693)]) (fun _ _ _ _ _ _ _ _ _ _ _  h=>nomatch h)
  rw [impl_StageAll_l3] at h
  refine Wp.sa ?_
  refine Wp.seq ?_
  refine Wp.c2 h (fun h=>?_) (fun h=>?_)
  ·refine Wp.sk ?_
   refine Wp.seq ?_
   refine Wp.block ?_
   refine Wp.sa ?_
   refine Wp.sr ?_
   refine Runs.batch 3 kr ?_
   obtain ⟨r28,e_r28,h⟩:=bind_some h
   refine Runs.callDK 45 48 [] [.ext false (.sl 1 (p1.map (eInt .u8))),.i p2,.i x14] [.one (.s p1),.one (.i p2),.one (.i x14)] (.tup [.one (.ow 5 1 (r28.1.map (eInt .u8))),V.b r28.2]) rfl rfl kr kr kr kr kr (impl_BlockAt_okd e_r28) kr ?_
   refine Runs.alln ?_
   refine Wp.seq ?_
   refine Wp.le (Le.trans (Le.frzO 8 0 524800 5 1 [.own 524800,.own 524801,.i x17,.i x18,.i x19,.own 524805] (x15.map (eInt .u8)) kr kr kr) (Le.trans (Le.frzO 8 1 524801 5 1 [.s x15,.own 524801,.i x17,.i x18,.i x19,.own 524805] (x16.map (eInt .u8)) kr kr kr) (Le.frzO 8 5 524805 85 6 [.s x15,.s x16,.i x17,.i x18,.i x19,.own 524805] (x20.map Put.enc) kr kr kr))) ?_
   refine Wp.regionA (pOf []) (rhoOf [(2,.frz),(3,.obj 3),(8,.obj 8),(9,.frz),(10,.own 45),(12,.obj 12),(49,.frz),(50,.frz),(51,.frz),(52,.frz),(53,.frz),(54,.frz),(55,.own 45),(57,.own 56),(58,.frz)]) kr kr ?_
   refine Runs.cb 2 51 [.agg [.ext false (.sl 1 (p0.fA.map (eInt .u8))),.ext false (.sl 1 (p0.fB.map (eInt .u8))),.i p0.fR.fGen,.i p0.fR.fSlot,.i p0.fR.fLen,.ext false (.sl 6 (p0.fP.map Put.enc))]] h (fun _=>impl_Spare_ok) (fun r29 h=>?_)
   refine Runs.batch 4 kr ?_
   obtain ⟨r30,e_r30,h⟩:=bind_some h
   refine Runs.callDK 56 49 [] [.agg [.s x15,.s x16,.i x17,.i x18,.i x19,.t (.sl 6 (x20.map Put.enc))],.i r29,.i (bMul .i64 x14 p2),.own 2949120] [.agg [.s x15,.s x16,.i x17,.i x18,.i x19,.t (.sl 6 (x20.map Put.enc))],.one (.i r29),.one (.i (bMul .i64 x14 p2)),.one (.s r28.1)] (.tup [V.w [5,5,0,0,0,85] (Disk.enc r30.1),V.b r30.2]) rfl rfl kr kr kr kr kr (impl_PutBytes_okd e_r30) kr ?_
   refine Runs.alln ?_
   refine Wp.seq ?_
   refine Wp.sa ?_
   refine Wp.c2 h (fun h=>?_) (fun h=>?_)
   ·refine Wp.sr ?_
    refine Runs.batch 1 kr ?_
    obtain ⟨r31,e_r31,h⟩:=bind_some h
    refine Runs.callDK 62 35 [] [.agg [.ext false (.sl 1 (p0.fA.map (eInt .u8))),.ext false (.sl 1 (p0.fB.map (eInt .u8))),.i p0.fR.fGen,.i p0.fR.fSlot,.i p0.fR.fLen,.ext false (.sl 6 (p0.fP.map Put.enc))]] [.agg ((Disk.enc p0).map .t)] (V.w [5,5,0,0,0,85] (Disk.enc r31)) rfl rfl kr kr kr kr kr (impl_copyDisk_okd e_r31) kr ?_
    refine Runs.alln ?_
    obtain rfl:=oi h
    exact Wp.ret RetB
   refine Wp.sk ?_
   refine Wp.rg [] [] ?_
   refine Runs.all kr ?_
   refine blkN ?_
   refine thenN ?_
   refine Wp.rg [] [] ?_
   refine Runs.alln ?_
   exact ⟨_,_,_,_,_,_,_,_,_,_,_,h,lo [(524800,3670016),(524801,3670017),(524805,3670021)]⟩
  refine Wp.exit ?_
  refine thenE ?_
  refine thenE ?_
  refine blkE ?_
  refine thenN ?_
  exact ⟨_,_,_,_,_,_,h,lo []⟩
 refine Wp.rg [] [] ?_
 refine Runs.cb 1 15 [.agg [.ext false (.sl 1 (p0.fA.map (eInt .u8))),.ext false (.sl 1 (p0.fB.map (eInt .u8))),.i p0.fR.fGen,.i p0.fR.fSlot,.i p0.fR.fLen,.ext false (.sl 6 (p0.fP.map Put.enc))]] h (fun _=>impl_DiskOk_ok) (fun r1 h=>?_)
 refine Runs.c2 2 17 h (fun h=>?_) (fun h=>?_)
 ·refine Runs.alln ?_
  exact ⟨_,_,_,_,h,lo []⟩
 refine Runs.batch 2 kr ?_
 refine Runs.lenX (e:=85) Put.enc p0.fP false 6 rfl rfl rfl kr kr kr kr ?_
 refine Runs.c2 3 23 h (fun h=>?_) (fun h=>?_)
 ·refine Runs.alln ?_
  exact ⟨_,_,_,_,h,lo []⟩
 refine Runs.batch 2 kr ?_
 refine Runs.lenX (e:=5) (eInt .u8) p1 false 1 rfl rfl rfl kr kr kr kr ?_
 refine Runs.cl false 0 27 [.i p2,.i ((p1.length:Int))] h (fun _=>impl_SizeOk_ok) (fun r2 h=>?_)
 refine Runs.alln ?_
 exact ⟨_,_,_,_,h,lo []⟩
end Go.Tm
