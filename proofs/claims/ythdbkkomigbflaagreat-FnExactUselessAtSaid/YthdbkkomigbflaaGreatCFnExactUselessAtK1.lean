/- The functions as they are translated do what the pure functions say (printed). -/
import Derived.Test.YthdbkkomigbflaaGreatCFnExactUselessAtD
import Derived.Test.YthdbkkomigbflaaGreatProg
set_option maxRecDepth 100000
set_option maxHeartbeats 20000000
set_option linter.unusedVariables false
set_option linter.unusedSimpArgs false
namespace Go.Tm
open Go.Proofs
section
variable {P:Program} {n:Nat} {ls:List Nat} {Q:Exit→St→Prop} {st:St} {x y:Code} {α0 α1 α2 α3 α4 α5 α6 α7 α8 α9 α10 α11 α12 α13 α14 α15 α16 α17 α18 α19 α20:Type}
theorem im (G:Prop) (S:Sx) (J:G→Wp P n ls y Q (S).st) (h:Wp P n ls x (mL (fun s=>G∧Le n ls s (S).st) Q) st):Wp P n ls (.seq x y) Q st:=K8 _ (fun s ⟨h,e⟩=>Wp.le e (J h)) h
theorem kC (G:α0→Prop) (S:α0→Sx) (J:∀ v0,G v0→Wp P n ls y Q (S v0).st) (h:Wp P n ls x (mL (fun s=>∃ v0,G v0∧Le n ls s (S v0).st) Q) st):Wp P n ls (.seq x y) Q st:=K8 _ (fun s ⟨v0,h,e⟩=>Wp.le e (J v0 h)) h
theorem pk (G:α0→α1→Prop) (S:α0→α1→Sx) (J:∀ v0 v1,G v0 v1→Wp P n ls y Q (S v0 v1).st) (h:Wp P n ls x (mL (fun s=>∃ v0 v1,G v0 v1∧Le n ls s (S v0 v1).st) Q) st):Wp P n ls (.seq x y) Q st:=K8 _ (fun s ⟨v0,v1,h,e⟩=>Wp.le e (J v0 v1 h)) h
theorem lx (G:α0→α1→α2→Prop) (S:α0→α1→α2→Sx) (J:∀ v0 v1 v2,G v0 v1 v2→Wp P n ls y Q (S v0 v1 v2).st) (h:Wp P n ls x (mL (fun s=>∃ v0 v1 v2,G v0 v1 v2∧Le n ls s (S v0 v1 v2).st) Q) st):Wp P n ls (.seq x y) Q st:=K8 _ (fun s ⟨v0,v1,v2,h,e⟩=>Wp.le e (J v0 v1 v2 h)) h
theorem nO (G:α0→α1→α2→α3→Prop) (S:α0→α1→α2→α3→Sx) (J:∀ v0 v1 v2 v3,G v0 v1 v2 v3→Wp P n ls y Q (S v0 v1 v2 v3).st) (h:Wp P n ls x (mL (fun s=>∃ v0 v1 v2 v3,G v0 v1 v2 v3∧Le n ls s (S v0 v1 v2 v3).st) Q) st):Wp P n ls (.seq x y) Q st:=K8 _ (fun s ⟨v0,v1,v2,v3,h,e⟩=>Wp.le e (J v0 v1 v2 v3 h)) h
theorem wF (G:α0→α1→α2→α3→α4→Prop) (S:α0→α1→α2→α3→α4→Sx) (J:∀ v0 v1 v2 v3 v4,G v0 v1 v2 v3 v4→Wp P n ls y Q (S v0 v1 v2 v3 v4).st) (h:Wp P n ls x (mL (fun s=>∃ v0 v1 v2 v3 v4,G v0 v1 v2 v3 v4∧Le n ls s (S v0 v1 v2 v3 v4).st) Q) st):Wp P n ls (.seq x y) Q st:=K8 _ (fun s ⟨v0,v1,v2,v3,v4,h,e⟩=>Wp.le e (J v0 v1 v2 v3 v4 h)) h
theorem Jb (G:α0→α1→α2→α3→α4→α5→Prop) (S:α0→α1→α2→α3→α4→α5→Sx) (J:∀ v0 v1 v2 v3 v4 v5,G v0 v1 v2 v3 v4 v5→Wp P n ls y Q (S v0 v1 v2 v3 v4 v5).st) (h:Wp P n ls x (mL (fun s=>∃ v0 v1 v2 v3 v4 v5,G v0 v1 v2 v3 v4 v5∧Le n ls s (S v0 v1 v2 v3 v4 v5).st) Q) st):Wp P n ls (.seq x y) Q st:=K8 _ (fun s ⟨v0,v1,v2,v3,v4,v5,h,e⟩=>Wp.le e (J v0 v1 v2 v3 v4 v5 h)) h
theorem Z4 (G:α0→α1→α2→α3→α4→α5→α6→Prop) (S:α0→α1→α2→α3→α4→α5→α6→Sx) (J:∀ v0 v1 v2 v3 v4 v5 v6,G v0 v1 v2 v3 v4 v5 v6→Wp P n ls y Q (S v0 v1 v2 v3 v4 v5 v6).st) (h:Wp P n ls x (mL (fun s=>∃ v0 v1 v2 v3 v4 v5 v6,G v0 v1 v2 v3 v4 v5 v6∧Le n ls s (S v0 v1 v2 v3 v4 v5 v6).st) Q) st):Wp P n ls (.seq x y) Q st:=K8 _ (fun s ⟨v0,v1,v2,v3,v4,v5,v6,h,e⟩=>Wp.le e (J v0 v1 v2 v3 v4 v5 v6 h)) h
theorem PC (G:α0→α1→α2→α3→α4→α5→α6→α7→Prop) (S:α0→α1→α2→α3→α4→α5→α6→α7→Sx) (J:∀ v0 v1 v2 v3 v4 v5 v6 v7,G v0 v1 v2 v3 v4 v5 v6 v7→Wp P n ls y Q (S v0 v1 v2 v3 v4 v5 v6 v7).st) (h:Wp P n ls x (mL (fun s=>∃ v0 v1 v2 v3 v4 v5 v6 v7,G v0 v1 v2 v3 v4 v5 v6 v7∧Le n ls s (S v0 v1 v2 v3 v4 v5 v6 v7).st) Q) st):Wp P n ls (.seq x y) Q st:=K8 _ (fun s ⟨v0,v1,v2,v3,v4,v5,v6,v7,h,e⟩=>Wp.le e (J v0 v1 v2 v3 v4 v5 v6 v7 h)) h
theorem Zj (G:α0→α1→α2→α3→α4→α5→α6→α7→α8→Prop) (S:α0→α1→α2→α3→α4→α5→α6→α7→α8→Sx) (J:∀ v0 v1 v2 v3 v4 v5 v6 v7 v8,G v0 v1 v2 v3 v4 v5 v6 v7 v8→Wp P n ls y Q (S v0 v1 v2 v3 v4 v5 v6 v7 v8).st) (h:Wp P n ls x (mL (fun s=>∃ v0 v1 v2 v3 v4 v5 v6 v7 v8,G v0 v1 v2 v3 v4 v5 v6 v7 v8∧Le n ls s (S v0 v1 v2 v3 v4 v5 v6 v7 v8).st) Q) st):Wp P n ls (.seq x y) Q st:=K8 _ (fun s ⟨v0,v1,v2,v3,v4,v5,v6,v7,v8,h,e⟩=>Wp.le e (J v0 v1 v2 v3 v4 v5 v6 v7 v8 h)) h
theorem Ye (G:α0→α1→α2→α3→α4→α5→α6→α7→α8→α9→α10→Prop) (S:α0→α1→α2→α3→α4→α5→α6→α7→α8→α9→α10→Sx) (J:∀ v0 v1 v2 v3 v4 v5 v6 v7 v8 v9 v10,G v0 v1 v2 v3 v4 v5 v6 v7 v8 v9 v10→Wp P n ls y Q (S v0 v1 v2 v3 v4 v5 v6 v7 v8 v9 v10).st) (h:Wp P n ls x (mL (fun s=>∃ v0 v1 v2 v3 v4 v5 v6 v7 v8 v9 v10,G v0 v1 v2 v3 v4 v5 v6 v7 v8 v9 v10∧Le n ls s (S v0 v1 v2 v3 v4 v5 v6 v7 v8 v9 v10).st) Q) st):Wp P n ls (.seq x y) Q st:=K8 _ (fun s ⟨v0,v1,v2,v3,v4,v5,v6,v7,v8,v9,v10,h,e⟩=>Wp.le e (J v0 v1 v2 v3 v4 v5 v6 v7 v8 v9 v10 h)) h
theorem Zy (G:α0→α1→α2→α3→α4→α5→α6→α7→α8→α9→α10→α11→Prop) (S:α0→α1→α2→α3→α4→α5→α6→α7→α8→α9→α10→α11→Sx) (J:∀ v0 v1 v2 v3 v4 v5 v6 v7 v8 v9 v10 v11,G v0 v1 v2 v3 v4 v5 v6 v7 v8 v9 v10 v11→Wp P n ls y Q (S v0 v1 v2 v3 v4 v5 v6 v7 v8 v9 v10 v11).st) (h:Wp P n ls x (mL (fun s=>∃ v0 v1 v2 v3 v4 v5 v6 v7 v8 v9 v10 v11,G v0 v1 v2 v3 v4 v5 v6 v7 v8 v9 v10 v11∧Le n ls s (S v0 v1 v2 v3 v4 v5 v6 v7 v8 v9 v10 v11).st) Q) st):Wp P n ls (.seq x y) Q st:=K8 _ (fun s ⟨v0,v1,v2,v3,v4,v5,v6,v7,v8,v9,v10,v11,h,e⟩=>Wp.le e (J v0 v1 v2 v3 v4 v5 v6 v7 v8 v9 v10 v11 h)) h
theorem Zz (G:α0→α1→α2→α3→α4→α5→α6→α7→α8→α9→α10→α11→α12→α13→α14→α15→α16→α17→α18→α19→α20→Prop) (S:α0→α1→α2→α3→α4→α5→α6→α7→α8→α9→α10→α11→α12→α13→α14→α15→α16→α17→α18→α19→α20→Sx) (J:∀ v0 v1 v2 v3 v4 v5 v6 v7 v8 v9 v10 v11 v12 v13 v14 v15 v16 v17 v18 v19 v20,G v0 v1 v2 v3 v4 v5 v6 v7 v8 v9 v10 v11 v12 v13 v14 v15 v16 v17 v18 v19 v20→Wp P n ls y Q (S v0 v1 v2 v3 v4 v5 v6 v7 v8 v9 v10 v11 v12 v13 v14 v15 v16 v17 v18 v19 v20).st) (h:Wp P n ls x (mL (fun s=>∃ v0 v1 v2 v3 v4 v5 v6 v7 v8 v9 v10 v11 v12 v13 v14 v15 v16 v17 v18 v19 v20,G v0 v1 v2 v3 v4 v5 v6 v7 v8 v9 v10 v11 v12 v13 v14 v15 v16 v17 v18 v19 v20∧Le n ls s (S v0 v1 v2 v3 v4 v5 v6 v7 v8 v9 v10 v11 v12 v13 v14 v15 v16 v17 v18 v19 v20).st) Q) st):Wp P n ls (.seq x y) Q st:=K8 _ (fun s ⟨v0,v1,v2,v3,v4,v5,v6,v7,v8,v9,v10,v11,v12,v13,v14,v15,v16,v17,v18,v19,v20,h,e⟩=>Wp.le e (J v0 v1 v2 v3 v4 v5 v6 v7 v8 v9 v10 v11 v12 v13 v14 v15 v16 v17 v18 v19 v20 h)) h
theorem yR (G:Nat→α0→α1→Prop) (S:α0→α1→Sx) (hs:∀ k v0 v1,G (k+1) v0 v1→Wp P n ls x (mL (fun s=>∃ v0 v1,G k v0 v1∧Le n ls s (S v0 v1).st) Q) (S v0 v1).st) {k:Nat} {v0 v1} (h:G k v0 v1) (hl:Le n ls st (S v0 v1).st) (h0:∀ v0 v1,¬ G 0 v0 v1):Wp P n ls (.loop x) Q st:=Wp.L (fun k s=>∃ v0 v1,G k v0 v1∧Le n ls s (S v0 v1).st) (fun s ⟨v0,v1,h,e⟩=>h0 v0 v1 h) (fun k s ⟨v0,v1,h,e⟩=>Wp.le e (hs k v0 v1 h)) ⟨_,_,h,hl⟩
theorem ef (G:Nat→α0→α1→α2→Prop) (S:α0→α1→α2→Sx) (hs:∀ k v0 v1 v2,G (k+1) v0 v1 v2→Wp P n ls x (mL (fun s=>∃ v0 v1 v2,G k v0 v1 v2∧Le n ls s (S v0 v1 v2).st) Q) (S v0 v1 v2).st) {k:Nat} {v0 v1 v2} (h:G k v0 v1 v2) (hl:Le n ls st (S v0 v1 v2).st) (h0:∀ v0 v1 v2,¬ G 0 v0 v1 v2):Wp P n ls (.loop x) Q st:=Wp.L (fun k s=>∃ v0 v1 v2,G k v0 v1 v2∧Le n ls s (S v0 v1 v2).st) (fun s ⟨v0,v1,v2,h,e⟩=>h0 v0 v1 v2 h) (fun k s ⟨v0,v1,v2,h,e⟩=>Wp.le e (hs k v0 v1 v2 h)) ⟨_,_,_,h,hl⟩
theorem GA (G:Nat→α0→α1→α2→α3→Prop) (S:α0→α1→α2→α3→Sx) (hs:∀ k v0 v1 v2 v3,G (k+1) v0 v1 v2 v3→Wp P n ls x (mL (fun s=>∃ v0 v1 v2 v3,G k v0 v1 v2 v3∧Le n ls s (S v0 v1 v2 v3).st) Q) (S v0 v1 v2 v3).st) {k:Nat} {v0 v1 v2 v3} (h:G k v0 v1 v2 v3) (hl:Le n ls st (S v0 v1 v2 v3).st) (h0:∀ v0 v1 v2 v3,¬ G 0 v0 v1 v2 v3):Wp P n ls (.loop x) Q st:=Wp.L (fun k s=>∃ v0 v1 v2 v3,G k v0 v1 v2 v3∧Le n ls s (S v0 v1 v2 v3).st) (fun s ⟨v0,v1,v2,v3,h,e⟩=>h0 v0 v1 v2 v3 h) (fun k s ⟨v0,v1,v2,v3,h,e⟩=>Wp.le e (hs k v0 v1 v2 v3 h)) ⟨_,_,_,_,h,hl⟩
theorem Jc (G:Nat→α0→α1→α2→α3→α4→Prop) (S:α0→α1→α2→α3→α4→Sx) (hs:∀ k v0 v1 v2 v3 v4,G (k+1) v0 v1 v2 v3 v4→Wp P n ls x (mL (fun s=>∃ v0 v1 v2 v3 v4,G k v0 v1 v2 v3 v4∧Le n ls s (S v0 v1 v2 v3 v4).st) Q) (S v0 v1 v2 v3 v4).st) {k:Nat} {v0 v1 v2 v3 v4} (h:G k v0 v1 v2 v3 v4) (hl:Le n ls st (S v0 v1 v2 v3 v4).st) (h0:∀ v0 v1 v2 v3 v4,¬ G 0 v0 v1 v2 v3 v4):Wp P n ls (.loop x) Q st:=Wp.L (fun k s=>∃ v0 v1 v2 v3 v4,G k v0 v1 v2 v3 v4∧Le n ls s (S v0 v1 v2 v3 v4).st) (fun s ⟨v0,v1,v2,v3,v4,h,e⟩=>h0 v0 v1 v2 v3 v4 h) (fun k s ⟨v0,v1,v2,v3,v4,h,e⟩=>Wp.le e (hs k v0 v1 v2 v3 v4 h)) ⟨_,_,_,_,_,h,hl⟩
theorem Zk (G:Nat→α0→α1→α2→α3→α4→α5→Prop) (S:α0→α1→α2→α3→α4→α5→Sx) (hs:∀ k v0 v1 v2 v3 v4 v5,G (k+1) v0 v1 v2 v3 v4 v5→Wp P n ls x (mL (fun s=>∃ v0 v1 v2 v3 v4 v5,G k v0 v1 v2 v3 v4 v5∧Le n ls s (S v0 v1 v2 v3 v4 v5).st) Q) (S v0 v1 v2 v3 v4 v5).st) {k:Nat} {v0 v1 v2 v3 v4 v5} (h:G k v0 v1 v2 v3 v4 v5) (hl:Le n ls st (S v0 v1 v2 v3 v4 v5).st) (h0:∀ v0 v1 v2 v3 v4 v5,¬ G 0 v0 v1 v2 v3 v4 v5):Wp P n ls (.loop x) Q st:=Wp.L (fun k s=>∃ v0 v1 v2 v3 v4 v5,G k v0 v1 v2 v3 v4 v5∧Le n ls s (S v0 v1 v2 v3 v4 v5).st) (fun s ⟨v0,v1,v2,v3,v4,v5,h,e⟩=>h0 v0 v1 v2 v3 v4 v5 h) (fun k s ⟨v0,v1,v2,v3,v4,v5,h,e⟩=>Wp.le e (hs k v0 v1 v2 v3 v4 v5 h)) ⟨_,_,_,_,_,_,h,hl⟩
theorem Z5 (G:Nat→α0→α1→α2→α3→α4→α5→α6→Prop) (S:α0→α1→α2→α3→α4→α5→α6→Sx) (hs:∀ k v0 v1 v2 v3 v4 v5 v6,G (k+1) v0 v1 v2 v3 v4 v5 v6→Wp P n ls x (mL (fun s=>∃ v0 v1 v2 v3 v4 v5 v6,G k v0 v1 v2 v3 v4 v5 v6∧Le n ls s (S v0 v1 v2 v3 v4 v5 v6).st) Q) (S v0 v1 v2 v3 v4 v5 v6).st) {k:Nat} {v0 v1 v2 v3 v4 v5 v6} (h:G k v0 v1 v2 v3 v4 v5 v6) (hl:Le n ls st (S v0 v1 v2 v3 v4 v5 v6).st) (h0:∀ v0 v1 v2 v3 v4 v5 v6,¬ G 0 v0 v1 v2 v3 v4 v5 v6):Wp P n ls (.loop x) Q st:=Wp.L (fun k s=>∃ v0 v1 v2 v3 v4 v5 v6,G k v0 v1 v2 v3 v4 v5 v6∧Le n ls s (S v0 v1 v2 v3 v4 v5 v6).st) (fun s ⟨v0,v1,v2,v3,v4,v5,v6,h,e⟩=>h0 v0 v1 v2 v3 v4 v5 v6 h) (fun k s ⟨v0,v1,v2,v3,v4,v5,v6,h,e⟩=>Wp.le e (hs k v0 v1 v2 v3 v4 v5 v6 h)) ⟨_,_,_,_,_,_,_,h,hl⟩
theorem PD (G:Nat→α0→α1→α2→α3→α4→α5→α6→α7→Prop) (S:α0→α1→α2→α3→α4→α5→α6→α7→Sx) (hs:∀ k v0 v1 v2 v3 v4 v5 v6 v7,G (k+1) v0 v1 v2 v3 v4 v5 v6 v7→Wp P n ls x (mL (fun s=>∃ v0 v1 v2 v3 v4 v5 v6 v7,G k v0 v1 v2 v3 v4 v5 v6 v7∧Le n ls s (S v0 v1 v2 v3 v4 v5 v6 v7).st) Q) (S v0 v1 v2 v3 v4 v5 v6 v7).st) {k:Nat} {v0 v1 v2 v3 v4 v5 v6 v7} (h:G k v0 v1 v2 v3 v4 v5 v6 v7) (hl:Le n ls st (S v0 v1 v2 v3 v4 v5 v6 v7).st) (h0:∀ v0 v1 v2 v3 v4 v5 v6 v7,¬ G 0 v0 v1 v2 v3 v4 v5 v6 v7):Wp P n ls (.loop x) Q st:=Wp.L (fun k s=>∃ v0 v1 v2 v3 v4 v5 v6 v7,G k v0 v1 v2 v3 v4 v5 v6 v7∧Le n ls s (S v0 v1 v2 v3 v4 v5 v6 v7).st) (fun s ⟨v0,v1,v2,v3,v4,v5,v6,v7,h,e⟩=>h0 v0 v1 v2 v3 v4 v5 v6 v7 h) (fun k s ⟨v0,v1,v2,v3,v4,v5,v6,v7,h,e⟩=>Wp.le e (hs k v0 v1 v2 v3 v4 v5 v6 v7 h)) ⟨_,_,_,_,_,_,_,_,h,hl⟩
end
theorem PE {u p0 p1 r} (h:Bz u p0 p1=some r):ak Tryz.prog 41 [.one (.t (.sl 1 (p0.map (aw .i64)))),V.i p1] (V.i r) []:=by
 unfold Bz at h
 refine b8 Tryz.f41 false ?_
 exact ae<|aE<|ar 2 3 (aw .i64) p0<|aa<|Wp.seq<|ae<|al h (fun h=>ae<|by cases h;exact Wp.ret aj) fun h=>aC<|ae<|by cases h;exact Wp.ret aj
theorem PF {u p0 p1 r} (h:yi u p0 p1=some r):ak Tryz.prog 12 [cO (g9 p0),V.i p1] (V.i r) []:=by
 unfold yi at h
 refine b8 Tryz.f12 false ?_
 exact ae<|aL false 3 8 [.t (.sl 1 (p0.cy.map (aw .i64))),.i p1] h (fun _=>PE) fun r1 h=>Wp.seq<|ae<|al h (fun h=>ae<|by cases h;exact Wp.ret aj) fun h=>aC<|ae<|by cases h;exact Wp.ret aj
theorem lf {u p0 p1 r} (h:gN u p0 p1=some r):ak Tryz.prog 13 [.one (.s p0),V.i p1] (V.i r) []:=by
 unfold gN at h
 refine b8 Tryz.f13 false ?_
 exact ae<|aE<|ar 2 5 (aw .u8) p0<|aa<|Wp.seq<|ae<|al h (fun h=>ae<|by cases h;exact Wp.ret aj) fun h=>aC<|ae<|by cases h;exact Wp.ret aj
theorem MZ {u p0 p1 r} (h:rC u p0 p1=some r):ak Tryz.prog 42 [cO (bd p0),V.i p1] (V.i r) []:=by
 unfold rC at h
 refine b8 Tryz.f42 false ?_
 exact ae<|aL false 3 8 [.s p0.fB,.i p1] h (fun _=>lf) fun r1 h=>Wp.seq<|ae<|al h (fun h=>ae<|by cases h;exact Wp.ret aj) fun h=>aC<|ae<|by cases h;exact Wp.ret aj
theorem La {u p0 p1 r} (h:pY u p0 p1=some r):ak Tryz.prog 14 [.one (.t (.sl 1 (p0.map bd))),V.i p1] (V.i r) []:=by
 unfold pY at h
 refine b8 Tryz.f14 false ?_
 refine ae<|aE<|ar 2 80 bd p0<|aa<|Wp.seq<|ae<|al h (fun h=>ae<|by cases h;exact Wp.ret aj) fun h=>aC<|kC (fun x9=>xe u x9=some r) (fun x9=>⟨[(1,.i x9),(4,.i 0)],[],[]⟩) (fun x9 h=>ae<|by cases h;exact Wp.ret aj)<|ae<|Wp.block<|ef (fun jE p0 x3 x4=>jn u jE p0 x3 x4=some r) (fun p0 x3 x4=>⟨[(0,.t (.sl 1 (p0.map bd))),(1,.i x3),(4,.i 0),(5,.i x4)],[],[]⟩) (fun jE p0 x3 x4 h=>?_) h (lo []) (fun _ _ _  h=>nomatch h)
 rw [jn] at h
 exact Wp.seq<|aE<|ar 2 80 bd p0<|aa<|al h (fun h=>aC<|Wp.seq<|Wp.block<|aE<|aR 2 80 1 bd h fun y7 h _=>ag false 2 23 [.agg [.s y7.fB],.i x3] h (fun _=>MZ) fun r8 h=>aa<|ae<|al h (fun h=>ae<|by cases h;exact Wp.ret aj) fun h=>Wp.skip<|b6<|aO<|aV [] []<|aa<|⟨_,_,_,h,lo []⟩) fun h=>Wp.exit<|aZ<|aZ<|dj<|aO<|⟨_,h,lo []⟩
theorem PG {u p0 p1 r} (h:BA u p0 p1=some r):ak Tryz.prog 132 [.one (.t (.sl 2 (p0.map aH))),V.i p1] (V.i r) []:=by
 unfold BA at h
 refine b8 Tryz.f132 false ?_
 exact ae<|aE<|ar 2 238 aH p0<|aa<|Wp.seq<|ae<|al h (fun h=>ae<|by cases h;exact Wp.ret aj) fun h=>aC<|ae<|by cases h;exact Wp.ret aj
theorem Hn {u p0 p1 r} (h:pF u p0 p1=some r):ak Tryz.prog 82 [cO (ai p0),V.i p1] (V.i r) []:=by
 unfold pF at h
 refine b8 Tryz.f82 false ?_
 exact ae<|aL false 3 8 [.t (.sl 2 (p0.aD.map aH)),.i p1] h (fun _=>PG) fun r1 h=>Wp.seq<|ae<|al h (fun h=>ae<|by cases h;exact Wp.ret aj) fun h=>aC<|ae<|by cases h;exact Wp.ret aj
theorem M0 {u p0 p1 r} (h:rD u p0 p1=some r):ak Tryz.prog 83 [cO (cJ p0),V.i p1] (V.i r) []:=by
 unfold rD at h
 refine b8 Tryz.f83 false ?_
 exact ae<|aL false 3 8 [.s p0.bh,.i p1] h (fun _=>lf) fun r1 h=>Wp.seq<|ae<|al h (fun h=>ae<|by cases h;exact Wp.ret aj) fun h=>aC<|ae<|by cases h;exact Wp.ret aj
theorem PH {u p0 p1 r} (h:uE u p0 p1=some r):ak Tryz.prog 84 [.one (.t (.sl 5 (p0.map aq))),V.i p1] (V.i r) []:=by
 unfold uE at h
 refine b8 Tryz.f84 false ?_
 exact ae<|aE<|ar 2 210 aq p0<|aa<|Wp.seq<|ae<|al h (fun h=>ae<|by cases h;exact Wp.ret aj) fun h=>aC<|ae<|by cases h;exact Wp.ret aj
theorem PI {u p0 p1 r} (h:uF u p0 p1=some r):ak Tryz.prog 43 [cO (ay p0),V.i p1] (V.i r) []:=by
 unfold uF at h
 refine b8 Tryz.f43 false ?_
 exact ae<|aL false 3 8 [.agg ((ai p0.av).map .t),.i p1] h (fun _=>Hn) fun r1 h=>Wp.seq<|ae<|al h (fun h=>ae<|by cases h;exact Wp.ret aj) fun h=>aC<|aL false 3 14 [.agg [.i p0.a7.aT,.s p0.a7.bh],.i r1] h (fun _=>M0) fun r2 h=>Wp.seq<|ae<|al h (fun h=>ae<|by cases h;exact Wp.ret aj) fun h=>aC<|aL false 3 20 [.t (.sl 5 (p0.aN.map aq)),.i r2] h (fun _=>PH) fun r3 h=>Wp.seq<|ae<|al h (fun h=>ae<|by cases h;exact Wp.ret aj) fun h=>aC<|ae<|by cases h;exact Wp.ret aj
theorem M1 {u p0 p1 r} (h:pn u p0 p1=some r):ak Tryz.prog 15 [.one (.t (.sl 12 (p0.map ay))),V.i p1] (V.i r) []:=by
 unfold pn at h
 refine b8 Tryz.f15 false ?_
 refine ae<|aE<|ar 2 89 ay p0<|aa<|Wp.seq<|ae<|al h (fun h=>ae<|by cases h;exact Wp.ret aj) fun h=>aC<|kC (fun x9=>yW u x9=some r) (fun x9=>⟨[(1,.i x9),(4,.i 0)],[],[]⟩) (fun x9 h=>ae<|by cases h;exact Wp.ret aj)<|ae<|Wp.block<|ef (fun kM p0 x3 x4=>kU u kM p0 x3 x4=some r) (fun p0 x3 x4=>⟨[(0,.t (.sl 12 (p0.map ay))),(1,.i x3),(4,.i 0),(5,.i x4)],[],[]⟩) (fun kM p0 x3 x4 h=>?_) h (lo []) (fun _ _ _  h=>nomatch h)
 rw [kU] at h
 exact Wp.seq<|aE<|ar 2 89 ay p0<|aa<|al h (fun h=>aC<|Wp.seq<|Wp.block<|aE<|aR 2 89 12 ay h fun y7 h _=>ag false 2 23 [.agg ((ay y7).map .t),.i x3] h (fun _=>PI) fun r8 h=>aa<|ae<|al h (fun h=>ae<|by cases h;exact Wp.ret aj) fun h=>Wp.skip<|b6<|aO<|aV [] []<|aa<|⟨_,_,_,h,lo []⟩) fun h=>Wp.exit<|aZ<|aZ<|dj<|aO<|⟨_,h,lo []⟩
theorem RL {u p0 p1 r} (h:xg u p0 p1=some r):ak Tryz.prog 133 [cO (aU p0),V.i p1] (V.i r) []:=by
 unfold xg at h
 refine b8 Tryz.f133 false ?_
 exact ae<|aL false 3 8 [.s p0.fB,.i p1] h (fun _=>lf) fun r1 h=>Wp.seq<|ae<|al h (fun h=>ae<|by cases h;exact Wp.ret aj) fun h=>aC<|ae<|by cases h;exact Wp.ret aj
theorem PJ {u p0 p1 r} (h:uG u p0 p1=some r):ak Tryz.prog 85 [.one (.t (.sl 6 (p0.map aU))),V.i p1] (V.i r) []:=by
 unfold uG at h
 refine b8 Tryz.f85 false ?_
 refine ae<|aE<|ar 2 187 aU p0<|aa<|Wp.seq<|ae<|al h (fun h=>ae<|by cases h;exact Wp.ret aj) fun h=>aC<|kC (fun x9=>Aw u x9=some r) (fun x9=>⟨[(1,.i x9),(4,.i 0)],[],[]⟩) (fun x9 h=>ae<|by cases h;exact Wp.ret aj)<|ae<|Wp.block<|ef (fun mh p0 x3 x4=>my u mh p0 x3 x4=some r) (fun p0 x3 x4=>⟨[(0,.t (.sl 6 (p0.map aU))),(1,.i x3),(4,.i 0),(5,.i x4)],[],[]⟩) (fun mh p0 x3 x4 h=>?_) h (lo []) (fun _ _ _  h=>nomatch h)
 rw [my] at h
 exact Wp.seq<|aE<|ar 2 187 aU p0<|aa<|al h (fun h=>aC<|Wp.seq<|Wp.block<|aE<|aR 2 187 6 aU h fun y7 h _=>ag false 2 23 [.agg ((aU y7).map .t),.i x3] h (fun _=>RL) fun r8 h=>aa<|ae<|al h (fun h=>ae<|by cases h;exact Wp.ret aj) fun h=>Wp.skip<|b6<|aO<|aV [] []<|aa<|⟨_,_,_,h,lo []⟩) fun h=>Wp.exit<|aZ<|aZ<|dj<|aO<|⟨_,h,lo []⟩
theorem PK {u p0 p1 r} (h:uH u p0 p1=some r):ak Tryz.prog 44 [cO (aB p0),V.i p1] (V.i r) []:=by
 unfold uH at h
 refine b8 Tryz.f44 false ?_
 exact ae<|aL false 3 8 [.s p0.fA,.i p1] h (fun _=>lf) fun r1 h=>Wp.seq<|ae<|al h (fun h=>ae<|by cases h;exact Wp.ret aj) fun h=>aC<|aL false 3 14 [.s p0.fB,.i r1] h (fun _=>lf) fun r2 h=>Wp.seq<|ae<|al h (fun h=>ae<|by cases h;exact Wp.ret aj) fun h=>aC<|aL false 3 20 [.t (.sl 6 (p0.fP.map aU)),.i r2] h (fun _=>PJ) fun r3 h=>Wp.seq<|ae<|al h (fun h=>ae<|by cases h;exact Wp.ret aj) fun h=>aC<|ae<|by cases h;exact Wp.ret aj
theorem M2 {u p0 p1 r} (h:nE u p0 p1=some r):ak Tryz.prog 16 [.one (.t (.sl 6 (p0.map aB))),V.i p1] (V.i r) []:=by
 unfold nE at h
 refine b8 Tryz.f16 false ?_
 refine ae<|aE<|ar 2 95 aB p0<|aa<|Wp.seq<|ae<|al h (fun h=>ae<|by cases h;exact Wp.ret aj) fun h=>aC<|kC (fun x9=>yX u x9=some r) (fun x9=>⟨[(1,.i x9),(4,.i 0)],[],[]⟩) (fun x9 h=>ae<|by cases h;exact Wp.ret aj)<|ae<|Wp.block<|ef (fun kL p0 x3 x4=>kV u kL p0 x3 x4=some r) (fun p0 x3 x4=>⟨[(0,.t (.sl 6 (p0.map aB))),(1,.i x3),(4,.i 0),(5,.i x4)],[],[]⟩) (fun kL p0 x3 x4 h=>?_) h (lo []) (fun _ _ _  h=>nomatch h)
 rw [kV] at h
 exact Wp.seq<|aE<|ar 2 95 aB p0<|aa<|al h (fun h=>aC<|Wp.seq<|Wp.block<|aE<|aR 2 95 6 aB h fun y7 h _=>ag false 2 23 [.agg ((aB y7).map .t),.i x3] h (fun _=>PK) fun r8 h=>aa<|ae<|al h (fun h=>ae<|by cases h;exact Wp.ret aj) fun h=>Wp.skip<|b6<|aO<|aV [] []<|aa<|⟨_,_,_,h,lo []⟩) fun h=>Wp.exit<|aZ<|aZ<|dj<|aO<|⟨_,h,lo []⟩
theorem Lb {u p0 p1 r} (h:pZ u p0 p1=some r):ak Tryz.prog 45 [cO (aI p0),V.i p1] (V.i r) []:=by
 unfold pZ at h
 refine b8 Tryz.f45 false ?_
 exact ae<|aL false 3 8 [.s p0.fB,.i p1] h (fun _=>lf) fun r1 h=>Wp.seq<|ae<|al h (fun h=>ae<|by cases h;exact Wp.ret aj) fun h=>aC<|ae<|by cases h;exact Wp.ret aj
theorem Jd {u p0 p1 r} (h:iA u p0 p1=some r):ak Tryz.prog 17 [.one (.t (.sl 3 (p0.map aI))),V.i p1] (V.i r) []:=by
 unfold iA at h
 refine b8 Tryz.f17 false ?_
 refine ae<|aE<|ar 2 98 aI p0<|aa<|Wp.seq<|ae<|al h (fun h=>ae<|by cases h;exact Wp.ret aj) fun h=>aC<|kC (fun x9=>vj u x9=some r) (fun x9=>⟨[(1,.i x9),(4,.i 0)],[],[]⟩) (fun x9 h=>ae<|by cases h;exact Wp.ret aj)<|ae<|Wp.block<|ef (fun iW p0 x3 x4=>iz u iW p0 x3 x4=some r) (fun p0 x3 x4=>⟨[(0,.t (.sl 3 (p0.map aI))),(1,.i x3),(4,.i 0),(5,.i x4)],[],[]⟩) (fun iW p0 x3 x4 h=>?_) h (lo []) (fun _ _ _  h=>nomatch h)
 rw [iz] at h
 exact Wp.seq<|aE<|ar 2 98 aI p0<|aa<|al h (fun h=>aC<|Wp.seq<|Wp.block<|aE<|aR 2 98 3 aI h fun y7 h _=>ag false 2 23 [.agg ((aI y7).map .t),.i x3] h (fun _=>Lb) fun r8 h=>aa<|ae<|al h (fun h=>ae<|by cases h;exact Wp.ret aj) fun h=>Wp.skip<|b6<|aO<|aV [] []<|aa<|⟨_,_,_,h,lo []⟩) fun h=>Wp.exit<|aZ<|aZ<|dj<|aO<|⟨_,h,lo []⟩
theorem M3 {u p0 p1 r} (h:jK u p0 p1=some r):ak Tryz.prog 18 [.one (.t (.sl 3 (p0.map cp))),V.i p1] (V.i r) []:=by
 unfold jK at h
 refine b8 Tryz.f18 false ?_
 exact ae<|aE<|ar 2 129 cp p0<|aa<|Wp.seq<|ae<|al h (fun h=>ae<|by cases h;exact Wp.ret aj) fun h=>aC<|ae<|by cases h;exact Wp.ret aj
theorem M4 {u p0 p1 r} (h:vk u p0 p1=some r):ak Tryz.prog 5 [cO (bN p0),V.i p1] (V.i r) []:=by
 unfold vk at h
 refine b8 Tryz.f5 false ?_
 exact ae<|aL false 3 8 [.agg [.t (.sl 1 (p0.fT.cy.map (aw .i64)))],.i p1] h (fun _=>PF) fun r1 h=>Wp.seq<|ae<|al h (fun h=>ae<|by cases h;exact Wp.ret aj) fun h=>aC<|aL false 3 14 [.s p0.jh,.i r1] h (fun _=>lf) fun r2 h=>Wp.seq<|ae<|al h (fun h=>ae<|by cases h;exact Wp.ret aj) fun h=>aC<|aL false 3 20 [.t (.sl 1 (p0.fZ.map bd)),.i r2] h (fun _=>La) fun r3 h=>Wp.seq<|ae<|al h (fun h=>ae<|by cases h;exact Wp.ret aj) fun h=>aC<|aL false 3 26 [.t (.sl 12 (p0.fN.map ay)),.i r3] h (fun _=>M1) fun r4 h=>Wp.seq<|ae<|al h (fun h=>ae<|by cases h;exact Wp.ret aj) fun h=>aC<|aL false 3 32 [.t (.sl 6 (p0.fD.map aB)),.i r4] h (fun _=>M2) fun r5 h=>Wp.seq<|ae<|al h (fun h=>ae<|by cases h;exact Wp.ret aj) fun h=>aC<|aL false 3 38 [.t (.sl 3 (p0.eo.map aI)),.i r5] h (fun _=>Jd) fun r6 h=>Wp.seq<|ae<|al h (fun h=>ae<|by cases h;exact Wp.ret aj) fun h=>aC<|aL false 3 44 [.t (.sl 3 (p0.pX.map cp)),.i r6] h (fun _=>M3) fun r7 h=>Wp.seq<|ae<|al h (fun h=>ae<|by cases h;exact Wp.ret aj) fun h=>aC<|ae<|by cases h;exact Wp.ret aj
theorem PL {u p0 r} (h:yj u p0=some r):ak Tryz.prog 22 [cO (pE p0)] (cO (pE r)) []:=by
 unfold yj at h
 refine b8 Tryz.f22 false ?_
 exact ae<|ae<|ae<|ae<|ae<|ae<|ae<|by cases h;exact Wp.ret aj
theorem PM {u p0 r} (h:yk u p0=some r):ak Tryz.prog 56 [.one (.t (.sl 1 (p0.map (aw .i64))))] (.one (.ow 3 1 (r.map (aw .i64)))) []:=by
 unfold yk at h
 refine b8 Tryz.f56 true ?_
 refine ae<|aE<|ar 1 3 (aw .i64) p0 ?_
 obtain ⟨_,e_1,h⟩:=bind_some h
 obtain ⟨_,e_2,h⟩:=bind_some h
 refine nN (aw .i64) (0:Int) 7 3 1 8 ((p0.length:Int)) ((p0.length:Int)) rfl rfl kr kr kr kr kr kr (bj e_1) (of_decide_eq_true (bj e_2)) kr<|aa<|kC (fun x11=>Ax u x11=some r) (fun x11=>⟨[(2,.nil),(3,.own 196609)],[],[(196609,.live 3 1 (x11.map (aw .i64)))]⟩) (fun x11 h=>ae<|by cases h;exact Wp.ret aj)<|ae<|Wp.block<|ef (fun mi p0 x5 x6=>oc u mi p0 x5 x6=some r) (fun p0 x5 x6=>⟨[(0,.t (.sl 1 (p0.map (aw .i64)))),(2,.nil),(3,.own 196609),(4,.i x6)],[],[(196609,.live 3 1 (x5.map (aw .i64)))]⟩) (fun mi p0 x5 x6 h=>?_) h (lo [(196609,458752)]) (fun _ _ _  h=>nomatch h)
 rw [oc] at h
 exact Wp.seq<|aE<|ar 2 3 (aw .i64) p0<|aa<|al h (fun h=>aC<|Wp.seq<|Wp.block<|aV [] []<|aR 4 3 1 (aw .i64) h fun y9 h _=>cI 1 3 1 196609 3 (aw .i64) h fun y10 h e_y10=>gm (e:=3) (sz:=1) (m:=1) (aw .i64) x5 196609 (Int.toNat x6) 0 y9 (.i y9) [.int .i64 y9] rfl kr kr kr kr kr kr kr kr ((cq e_y10).2) kr kr<|ab.all kr<|b6<|aO<|aV [] []<|aa<|⟨_,_,_,h,lo []⟩) fun h=>Wp.exit<|aZ<|aZ<|dj<|aO<|⟨_,h,lo []⟩
theorem PN {u p0 r} (h:ym u p0=some r):ak Tryz.prog 23 [cO (g9 p0)] (V.w [3] (g9 r)) []:=by
 unfold ym at h
 refine b8 Tryz.f23 true ?_
 exact ae<|ae<|aL false 2 6 [.t (.sl 1 (p0.cy.map (aw .i64)))] h (fun _=>PM) fun r1 h=>ae<|by cases h;exact Wp.ret aj
theorem lg {u p0 r} (h:iB u p0=some r):ak Tryz.prog 24 [.one (.s p0)] (.one (.ow 5 1 (r.map (aw .u8)))) []:=by
 unfold iB at h
 refine b8 Tryz.f24 true ?_
 refine ae<|aE<|ar 1 5 (aw .u8) p0 ?_
 obtain ⟨_,e_1,h⟩:=bind_some h
 obtain ⟨_,e_2,h⟩:=bind_some h
 refine nN (aw .u8) (0:Int) 7 5 1 1 ((p0.length:Int)) ((p0.length:Int)) rfl rfl kr kr kr kr kr kr (bj e_1) (of_decide_eq_true (bj e_2)) kr<|aa<|kC (fun x11=>yY u x11=some r) (fun x11=>⟨[(2,.nil),(3,.own 196609)],[],[(196609,.live 5 1 (x11.map (aw .u8)))]⟩) (fun x11 h=>ae<|by cases h;exact Wp.ret aj)<|ae<|Wp.block<|ef (fun kN p0 x5 x6=>m2 u kN p0 x5 x6=some r) (fun p0 x5 x6=>⟨[(0,.s p0),(2,.nil),(3,.own 196609),(4,.i x6)],[],[(196609,.live 5 1 (x5.map (aw .u8)))]⟩) (fun kN p0 x5 x6 h=>?_) h (lo [(196609,458752)]) (fun _ _ _  h=>nomatch h)
 rw [m2] at h
 exact Wp.seq<|aE<|ar 2 5 (aw .u8) p0<|aa<|al h (fun h=>aC<|Wp.seq<|Wp.block<|aV [] []<|aR 4 5 1 (aw .u8) h fun y9 h _=>cI 1 5 1 196609 5 (aw .u8) h fun y10 h e_y10=>gm (e:=5) (sz:=1) (m:=1) (aw .u8) x5 196609 (Int.toNat x6) 0 y9 (.t (.int .u8 y9)) [.int .u8 y9] rfl kr kr kr kr kr kr kr kr ((cq e_y10).2) kr kr<|ab.all kr<|b6<|aO<|aV [] []<|aa<|⟨_,_,_,h,lo []⟩) fun h=>Wp.exit<|aZ<|aZ<|dj<|aO<|⟨_,h,lo []⟩
theorem M5 {u p0 r} (h:rE u p0=some r):ak Tryz.prog 57 [cO (bd p0)] (V.w [5] (bd r)) []:=by
 unfold rE at h
 refine b8 Tryz.f57 true ?_
 exact ae<|ae<|aL false 2 6 [.s p0.fB] h (fun _=>lg) fun r1 h=>ae<|by cases h;exact Wp.ret aj
theorem Lc {u p0 r} (h:sW u p0=some r):ak Tryz.prog 25 [.one (.t (.sl 1 (p0.map bd)))] (.one (.ow 121 1 (r.map bd))) []:=by
 unfold sW at h
 refine b8 Tryz.f25 true ?_
 refine ae<|aE<|ar 1 80 bd p0 ?_
 obtain ⟨_,e_1,h⟩:=bind_some h
 obtain ⟨_,e_2,h⟩:=bind_some h
 refine nN bd ((ba.mk ([])):ba) 7 121 1 24 ((p0.length:Int)) ((p0.length:Int)) rfl rfl kr kr kr kr kr kr (bj e_1) (of_decide_eq_true (bj e_2)) kr<|aa<|kC (fun x12=>xh u x12=some r) (fun x12=>⟨[(2,.nil),(3,.own 196609)],[],[(196609,.live 121 1 (x12.map bd))]⟩) (fun x12 h=>ae<|by cases h;exact Wp.ret aj)<|ae<|Wp.block<|ef (fun jF p0 x5 x6=>lQ u jF p0 x5 x6=some r) (fun p0 x5 x6=>⟨[(0,.t (.sl 1 (p0.map bd))),(2,.nil),(3,.own 196609),(4,.i x6)],[],[(196609,.live 121 1 (x5.map bd))]⟩) (fun jF p0 x5 x6 h=>?_) h (lo [(196609,458752)]) (fun _ _ _  h=>nomatch h)
 rw [lQ] at h
 exact Wp.seq<|aE<|ar 2 80 bd p0<|aa<|al h (fun h=>aC<|Wp.seq<|Wp.block<|aV [] []<|aR 4 80 1 bd h fun y9 h _=>ag false 1 20 [.agg [.s y9.fB]] h (fun _=>M5) fun r10 h=>cI 0 121 1 196609 121 bd h fun y11 h e_y11=>yP (e:=121) (sz:=1) (m:=1) bd x5 196609 (Int.toNat x6) 0 r10 (.agg [.own 1310720]) [.sl 1 (r10.fB.map (aw .u8))] rfl kr kr kr kr kr kr kr kr ((cq e_y11).2) kr kr<|ab.all kr<|b6<|aO<|aV [] []<|aa<|⟨_,_,_,h,lo []⟩) fun h=>Wp.exit<|aZ<|aZ<|dj<|aO<|⟨_,h,lo []⟩
theorem RM {u p0 r} (h:xi u p0=some r):ak Tryz.prog 206 [cO (aH p0)] (cO (aH r)) []:=by
 unfold xi at h
 refine b8 Tryz.f206 false ?_
 exact ae<|ae<|ae<|ae<|ae<|by cases h;exact Wp.ret aj
theorem PO {u p0 r} (h:yn u p0=some r):ak Tryz.prog 156 [.one (.t (.sl 2 (p0.map aH)))] (.one (.ow 176 2 (r.map aH))) []:=by
 unfold yn at h
 refine b8 Tryz.f156 true ?_
 refine ae<|aE<|ar 1 238 aH p0 ?_
 obtain ⟨_,e_1,h⟩:=bind_some h
 obtain ⟨_,e_2,h⟩:=bind_some h
 refine nN aH ((bM.mk 0 0):bM) 7 176 2 16 ((p0.length:Int)) ((p0.length:Int)) rfl rfl kr kr kr kr kr kr (bj e_1) (of_decide_eq_true (bj e_2)) kr<|aa<|kC (fun x12=>Az u x12=some r) (fun x12=>⟨[(2,.nil),(3,.own 196609)],[],[(196609,.live 176 2 (x12.map aH))]⟩) (fun x12 h=>ae<|by cases h;exact Wp.ret aj)<|ae<|Wp.block<|ef (fun mm p0 x5 x6=>od u mm p0 x5 x6=some r) (fun p0 x5 x6=>⟨[(0,.t (.sl 2 (p0.map aH))),(2,.nil),(3,.own 196609),(4,.i x6)],[],[(196609,.live 176 2 (x5.map aH))]⟩) (fun mm p0 x5 x6 h=>?_) h (lo [(196609,458752)]) (fun _ _ _  h=>nomatch h)
 rw [od] at h
 exact Wp.seq<|aE<|ar 2 238 aH p0<|aa<|al h (fun h=>aC<|Wp.seq<|Wp.block<|aV [] []<|aR 4 238 2 aH h fun y9 h _=>ag false 1 20 [.agg [.i y9.fW,.i y9.fS]] h (fun _=>RM) fun r10 h=>cI 0 176 2 196609 176 aH h fun y11 h e_y11=>gm (e:=176) (sz:=2) (m:=2) aH x5 196609 (Int.toNat x6) 0 r10 (.agg [.i r10.fW,.i r10.fS]) [.int .i64 r10.fW,.int .i64 r10.fS] rfl kr kr kr kr kr kr kr kr ((cq e_y11).2) kr kr<|ab.all kr<|b6<|aO<|aV [] []<|aa<|⟨_,_,_,h,lo []⟩) fun h=>Wp.exit<|aZ<|aZ<|dj<|aO<|⟨_,h,lo []⟩
theorem Ho {u p0 r} (h:pG u p0=some r):ak Tryz.prog 101 [cO (ai p0)] (V.w [0,0,0,176] (ai r)) []:=by
 unfold pG at h
 refine b8 Tryz.f101 true ?_
 exact ae<|ae<|ae<|ae<|ae<|aL false 2 15 [.t (.sl 2 (p0.aD.map aH))] h (fun _=>PO) fun r1 h=>ae<|by cases h;exact Wp.ret aj
theorem M6 {u p0 r} (h:vm u p0=some r):ak Tryz.prog 102 [cO (cJ p0)] (V.w [0,5] (cJ r)) []:=by
 unfold vm at h
 refine b8 Tryz.f102 true ?_
 exact ae<|ae<|ae<|aL false 2 9 [.s p0.bh] h (fun _=>lg) fun r1 h=>ae<|by cases h;exact Wp.ret aj
theorem RN {u p0 r} (h:xj u p0=some r):ak Tryz.prog 157 [cO (aq p0)] (cO (aq r)) []:=by
 unfold xj at h
 refine b8 Tryz.f157 false ?_
 exact ae<|ae<|ae<|ae<|ae<|ae<|ae<|ae<|by cases h;exact Wp.ret aj
theorem PP {u p0 r} (h:yo u p0=some r):ak Tryz.prog 103 [.one (.t (.sl 5 (p0.map aq)))] (.one (.ow 149 5 (r.map aq))) []:=by
 unfold yo at h
 refine b8 Tryz.f103 true ?_
 refine ae<|aE<|ar 1 210 aq p0 ?_
 obtain ⟨_,e_1,h⟩:=bind_some h
 obtain ⟨_,e_2,h⟩:=bind_some h
 refine nN aq ((Kid.mk 0 0 0 0 0):Kid) 7 149 5 40 ((p0.length:Int)) ((p0.length:Int)) rfl rfl kr kr kr kr kr kr (bj e_1) (of_decide_eq_true (bj e_2)) kr<|aa<|kC (fun x12=>AA u x12=some r) (fun x12=>⟨[(2,.nil),(3,.own 196609)],[],[(196609,.live 149 5 (x12.map aq))]⟩) (fun x12 h=>ae<|by cases h;exact Wp.ret aj)<|ae<|Wp.block<|ef (fun mj p0 x5 x6=>oe u mj p0 x5 x6=some r) (fun p0 x5 x6=>⟨[(0,.t (.sl 5 (p0.map aq))),(2,.nil),(3,.own 196609),(4,.i x6)],[],[(196609,.live 149 5 (x5.map aq))]⟩) (fun mj p0 x5 x6 h=>?_) h (lo [(196609,458752)]) (fun _ _ _  h=>nomatch h)
 rw [oe] at h
 exact Wp.seq<|aE<|ar 2 210 aq p0<|aa<|al h (fun h=>aC<|Wp.seq<|Wp.block<|aV [] []<|aR 4 210 5 aq h fun y9 h _=>ag false 1 20 [.agg ((aq y9).map .t)] h (fun _=>RN) fun r10 h=>cI 0 149 5 196609 149 aq h fun y11 h e_y11=>gm (e:=149) (sz:=5) (m:=5) aq x5 196609 (Int.toNat x6) 0 r10 (.agg ((aq r10).map .t)) (aq r10) rfl kr kr kr kr kr kr kr kr ((cq e_y11).2) kr kr<|ab.all kr<|b6<|aO<|aV [] []<|aa<|⟨_,_,_,h,lo []⟩) fun h=>Wp.exit<|aZ<|aZ<|dj<|aO<|⟨_,h,lo []⟩
theorem PQ {u p0 r} (h:uI u p0=some r):ak Tryz.prog 58 [cO (ay p0)] (V.w [0,0,0,0,0,0,176,0,5,0,149,0] (ay r)) []:=by
 unfold uI at h
 refine b8 Tryz.f58 true ?_
 exact ae<|ae<|ae<|ae<|ae<|aL false 2 15 [.agg ((ai p0.av).map .t)] h (fun _=>Ho) fun r1 h=>aL false 2 19 [.agg [.i p0.a7.aT,.s p0.a7.bh]] h (fun _=>M6) fun r2 h=>ae<|aL false 2 26 [.t (.sl 5 (p0.aN.map aq))] h (fun _=>PP) fun r3 h=>ae<|pj ⟨[(2,.obj 2 0),(3,.obj 3 0)],[(2,[.b false,.i 0,.i 0,.i 0,.i 0,.i 0,.nil,.i 0,.nil,.i 0,.nil,.i 0]),(3,[.b p0.fK,.i p0.bf,.i p0.be,.i r1.aP,.i r1.aS,.i r1.aY,.own 983043,.i r2.aT,.own 1245185,.i p0.aJ,.own 1703936,.i p0.a8])],[(983043,.live 176 2 (r1.aD.map aH)),(1245185,.live 5 1 (r2.bh.map (aw .u8))),(1703936,.live 149 5 (r3.map aq))]⟩<|ae<|by cases h;exact Wp.ret aj
theorem M7 {u p0 r} (h:vn u p0=some r):ak Tryz.prog 26 [.one (.t (.sl 12 (p0.map ay)))] (.one (.ow 111 12 (r.map ay))) []:=by
 unfold vn at h
 refine b8 Tryz.f26 true ?_
 refine ae<|aE<|ar 1 89 ay p0 ?_
 obtain ⟨_,e_1,h⟩:=bind_some h
 obtain ⟨_,e_2,h⟩:=bind_some h
 refine nN ay ((aA.mk false 0 0 ((af.mk 0 0 0 ([]))) ((aW.mk 0 ([]))) 0 ([]) 0):aA) 7 111 12 144 ((p0.length:Int)) ((p0.length:Int)) rfl rfl kr kr kr kr kr kr (bj e_1) (of_decide_eq_true (bj e_2)) kr<|aa<|kC (fun x12=>yZ u x12=some r) (fun x12=>⟨[(2,.nil),(3,.own 196609)],[],[(196609,.live 111 12 (x12.map ay))]⟩) (fun x12 h=>ae<|by cases h;exact Wp.ret aj)<|ae<|Wp.block<|ef (fun kP p0 x5 x6=>m3 u kP p0 x5 x6=some r) (fun p0 x5 x6=>⟨[(0,.t (.sl 12 (p0.map ay))),(2,.nil),(3,.own 196609),(4,.i x6)],[],[(196609,.live 111 12 (x5.map ay))]⟩) (fun kP p0 x5 x6 h=>?_) h (lo [(196609,458752)]) (fun _ _ _  h=>nomatch h)
 rw [m3] at h
 exact Wp.seq<|aE<|ar 2 89 ay p0<|aa<|al h (fun h=>aC<|Wp.seq<|Wp.block<|aV [] []<|aR 4 89 12 ay h fun y9 h _=>ag false 1 20 [.agg ((ay y9).map .t)] h (fun _=>PQ) fun r10 h=>cI 0 111 12 196609 111 ay h fun y11 h e_y11=>yP (e:=111) (sz:=12) (m:=12) ay x5 196609 (Int.toNat x6) 0 r10 (.agg [.b r10.fK,.i r10.bf,.i r10.be,.i r10.av.aP,.i r10.av.aS,.i r10.av.aY,.own 1310726,.i r10.a7.aT,.own 1310728,.i r10.aJ,.own 1310730,.i r10.a8]) (ay r10) rfl kr kr kr kr kr kr kr kr ((cq e_y11).2) kr kr<|ab.all kr<|b6<|aO<|aV [] []<|aa<|⟨_,_,_,h,lo []⟩) fun h=>Wp.exit<|aZ<|aZ<|dj<|aO<|⟨_,h,lo []⟩
theorem Dd {u p0 r} (h:p5 u p0=some r):ak Tryz.prog 104 [cO (fi p0)] (cO (fi r)) []:=by
 unfold p5 at h
 refine b8 Tryz.f104 false ?_
 exact ae<|ae<|ae<|ae<|ae<|ae<|by cases h;exact Wp.ret aj
theorem RO {u p0 r} (h:xk u p0=some r):ak Tryz.prog 158 [cO (aU p0)] (V.w [0,0,5,0,0,0] (aU r)) []:=by
 unfold xk at h
 refine b8 Tryz.f158 true ?_
 exact ae<|ae<|ae<|ae<|aL false 2 12 [.s p0.fB] h (fun _=>lg) fun r1 h=>aL false 2 16 [.agg ((fi p0.fR).map .t)] h (fun _=>Dd) fun r2 h=>ae<|by cases h;exact Wp.ret aj
theorem PS {u p0 r} (h:yp u p0=some r):ak Tryz.prog 105 [.one (.t (.sl 6 (p0.map aU)))] (.one (.ow 155 6 (r.map aU))) []:=by
 unfold yp at h
 refine b8 Tryz.f105 true ?_
 refine ae<|aE<|ar 1 187 aU p0 ?_
 obtain ⟨_,e_1,h⟩:=bind_some h
 obtain ⟨_,e_2,h⟩:=bind_some h
 refine nN aU ((cd.mk 0 0 ([]) ((c7.mk 0 0 0))):cd) 7 155 6 64 ((p0.length:Int)) ((p0.length:Int)) rfl rfl kr kr kr kr kr kr (bj e_1) (of_decide_eq_true (bj e_2)) kr<|aa<|kC (fun x12=>AB u x12=some r) (fun x12=>⟨[(2,.nil),(3,.own 196609)],[],[(196609,.live 155 6 (x12.map aU))]⟩) (fun x12 h=>ae<|by cases h;exact Wp.ret aj)<|ae<|Wp.block<|ef (fun ml p0 x5 x6=>og u ml p0 x5 x6=some r) (fun p0 x5 x6=>⟨[(0,.t (.sl 6 (p0.map aU))),(2,.nil),(3,.own 196609),(4,.i x6)],[],[(196609,.live 155 6 (x5.map aU))]⟩) (fun ml p0 x5 x6 h=>?_) h (lo [(196609,458752)]) (fun _ _ _  h=>nomatch h)
 rw [og] at h
 exact Wp.seq<|aE<|ar 2 187 aU p0<|aa<|al h (fun h=>aC<|Wp.seq<|Wp.block<|aV [] []<|aR 4 187 6 aU h fun y9 h _=>ag false 1 20 [.agg ((aU y9).map .t)] h (fun _=>RO) fun r10 h=>cI 0 155 6 196609 155 aU h fun y11 h e_y11=>yP (e:=155) (sz:=6) (m:=6) aU x5 196609 (Int.toNat x6) 0 r10 (.agg [.i r10.dY,.i r10.Cf,.own 1310722,.i r10.fR.aP,.i r10.fR.cL,.i r10.fR.aY]) (aU r10) rfl kr kr kr kr kr kr kr kr ((cq e_y11).2) kr kr<|ab.all kr<|b6<|aO<|aV [] []<|aa<|⟨_,_,_,h,lo []⟩) fun h=>Wp.exit<|aZ<|aZ<|dj<|aO<|⟨_,h,lo []⟩
theorem PT {u p0 r} (h:uJ u p0=some r):ak Tryz.prog 59 [cO (aB p0)] (V.w [5,5,0,0,0,155] (aB r)) []:=by
 unfold uJ at h
 refine b8 Tryz.f59 true ?_
 exact ae<|ae<|aL false 2 6 [.s p0.fA] h (fun _=>lg) fun r1 h=>aL false 2 10 [.s p0.fB] h (fun _=>lg) fun r2 h=>aL false 2 14 [.agg ((fi p0.fR).map .t)] h (fun _=>Dd) fun r3 h=>aL false 2 18 [.t (.sl 6 (p0.fP.map aU))] h (fun _=>PS) fun r4 h=>ae<|by cases h;exact Wp.ret aj
theorem M8 {u p0 r} (h:vo u p0=some r):ak Tryz.prog 27 [.one (.t (.sl 6 (p0.map aB)))] (.one (.ow 116 6 (r.map aB))) []:=by
 unfold vo at h
 refine b8 Tryz.f27 true ?_
 refine ae<|aE<|ar 1 95 aB p0 ?_
 obtain ⟨_,e_1,h⟩:=bind_some h
 obtain ⟨_,e_2,h⟩:=bind_some h
 refine nN aB ((aG.mk ([]) ([]) ((c7.mk 0 0 0)) ([])):aG) 7 116 6 96 ((p0.length:Int)) ((p0.length:Int)) rfl rfl kr kr kr kr kr kr (bj e_1) (of_decide_eq_true (bj e_2)) kr<|aa<|kC (fun x12=>y0 u x12=some r) (fun x12=>⟨[(2,.nil),(3,.own 196609)],[],[(196609,.live 116 6 (x12.map aB))]⟩) (fun x12 h=>ae<|by cases h;exact Wp.ret aj)<|ae<|Wp.block<|ef (fun kO p0 x5 x6=>m4 u kO p0 x5 x6=some r) (fun p0 x5 x6=>⟨[(0,.t (.sl 6 (p0.map aB))),(2,.nil),(3,.own 196609),(4,.i x6)],[],[(196609,.live 116 6 (x5.map aB))]⟩) (fun kO p0 x5 x6 h=>?_) h (lo [(196609,458752)]) (fun _ _ _  h=>nomatch h)
 rw [m4] at h
 exact Wp.seq<|aE<|ar 2 95 aB p0<|aa<|al h (fun h=>aC<|Wp.seq<|Wp.block<|aV [] []<|aR 4 95 6 aB h fun y9 h _=>ag false 1 20 [.agg ((aB y9).map .t)] h (fun _=>PT) fun r10 h=>cI 0 116 6 196609 116 aB h fun y11 h e_y11=>yP (e:=116) (sz:=6) (m:=6) aB x5 196609 (Int.toNat x6) 0 r10 (.agg [.own 1310720,.own 1310721,.i r10.fR.aP,.i r10.fR.cL,.i r10.fR.aY,.own 1310725]) (aB r10) rfl kr kr kr kr kr kr kr kr ((cq e_y11).2) kr kr<|ab.all kr<|b6<|aO<|aV [] []<|aa<|⟨_,_,_,h,lo []⟩) fun h=>Wp.exit<|aZ<|aZ<|dj<|aO<|⟨_,h,lo []⟩
theorem Ld {u p0 r} (h:p6 u p0=some r):ak Tryz.prog 60 [cO (aI p0)] (V.w [0,0,5] (aI r)) []:=by
 unfold p6 at h
 refine b8 Tryz.f60 true ?_
 exact ae<|ae<|ae<|ae<|aL false 2 12 [.s p0.fB] h (fun _=>lg) fun r1 h=>ae<|by cases h;exact Wp.ret aj
theorem Je {u p0 r} (h:qN u p0=some r):ak Tryz.prog 28 [.one (.t (.sl 3 (p0.map aI)))] (.one (.ow 118 3 (r.map aI))) []:=by
 unfold qN at h
 refine b8 Tryz.f28 true ?_
 refine ae<|aE<|ar 1 98 aI p0 ?_
 obtain ⟨_,e_1,h⟩:=bind_some h
 obtain ⟨_,e_2,h⟩:=bind_some h
 refine nN aI ((au.mk 0 0 ([])):au) 7 118 3 40 ((p0.length:Int)) ((p0.length:Int)) rfl rfl kr kr kr kr kr kr (bj e_1) (of_decide_eq_true (bj e_2)) kr<|aa<|kC (fun x12=>vp u x12=some r) (fun x12=>⟨[(2,.nil),(3,.own 196609)],[],[(196609,.live 118 3 (x12.map aI))]⟩) (fun x12 h=>ae<|by cases h;exact Wp.ret aj)<|ae<|Wp.block<|ef (fun iX p0 x5 x6=>ko u iX p0 x5 x6=some r) (fun p0 x5 x6=>⟨[(0,.t (.sl 3 (p0.map aI))),(2,.nil),(3,.own 196609),(4,.i x6)],[],[(196609,.live 118 3 (x5.map aI))]⟩) (fun iX p0 x5 x6 h=>?_) h (lo [(196609,458752)]) (fun _ _ _  h=>nomatch h)
 rw [ko] at h
 exact Wp.seq<|aE<|ar 2 98 aI p0<|aa<|al h (fun h=>aC<|Wp.seq<|Wp.block<|aV [] []<|aR 4 98 3 aI h fun y9 h _=>ag false 1 20 [.agg ((aI y9).map .t)] h (fun _=>Ld) fun r10 h=>cI 0 118 3 196609 118 aI h fun y11 h e_y11=>yP (e:=118) (sz:=3) (m:=3) aI x5 196609 (Int.toNat x6) 0 r10 (.agg [.i r10.du,.i r10.GU,.own 1310722]) (aI r10) rfl kr kr kr kr kr kr kr kr ((cq e_y11).2) kr kr<|ab.all kr<|b6<|aO<|aV [] []<|aa<|⟨_,_,_,h,lo []⟩) fun h=>Wp.exit<|aZ<|aZ<|dj<|aO<|⟨_,h,lo []⟩
theorem PU {u p0 r} (h:uK u p0=some r):ak Tryz.prog 61 [cO (cp p0)] (cO (cp r)) []:=by
 unfold uK at h
 refine b8 Tryz.f61 false ?_
 exact ae<|ae<|ae<|ae<|ae<|ae<|by cases h;exact Wp.ret aj
theorem M9 {u p0 r} (h:vq u p0=some r):ak Tryz.prog 29 [.one (.t (.sl 3 (p0.map cp)))] (.one (.ow 127 3 (r.map cp))) []:=by
 unfold vq at h
 refine b8 Tryz.f29 true ?_
 refine ae<|aE<|ar 1 129 cp p0 ?_
 obtain ⟨_,e_1,h⟩:=bind_some h
 obtain ⟨_,e_2,h⟩:=bind_some h
 refine nN cp ((dC.mk 0 0 0):dC) 7 127 3 24 ((p0.length:Int)) ((p0.length:Int)) rfl rfl kr kr kr kr kr kr (bj e_1) (of_decide_eq_true (bj e_2)) kr<|aa<|kC (fun x12=>za u x12=some r) (fun x12=>⟨[(2,.nil),(3,.own 196609)],[],[(196609,.live 127 3 (x12.map cp))]⟩) (fun x12 h=>ae<|by cases h;exact Wp.ret aj)<|ae<|Wp.block<|ef (fun kQ p0 x5 x6=>m5 u kQ p0 x5 x6=some r) (fun p0 x5 x6=>⟨[(0,.t (.sl 3 (p0.map cp))),(2,.nil),(3,.own 196609),(4,.i x6)],[],[(196609,.live 127 3 (x5.map cp))]⟩) (fun kQ p0 x5 x6 h=>?_) h (lo [(196609,458752)]) (fun _ _ _  h=>nomatch h)
 rw [m5] at h
 exact Wp.seq<|aE<|ar 2 129 cp p0<|aa<|al h (fun h=>aC<|Wp.seq<|Wp.block<|aV [] []<|aR 4 129 3 cp h fun y9 h _=>ag false 1 20 [.agg ((cp y9).map .t)] h (fun _=>PU) fun r10 h=>cI 0 127 3 196609 127 cp h fun y11 h e_y11=>gm (e:=127) (sz:=3) (m:=3) cp x5 196609 (Int.toNat x6) 0 r10 (.agg ((cp r10).map .t)) (cp r10) rfl kr kr kr kr kr kr kr kr ((cq e_y11).2) kr kr<|ab.all kr<|b6<|aO<|aV [] []<|aa<|⟨_,_,_,h,lo []⟩) fun h=>Wp.exit<|aZ<|aZ<|dj<|aO<|⟨_,h,lo []⟩
theorem zA {u p0 r} (h:po u p0=some r):ak Tryz.prog 7 [cO (bN p0)] (V.w [0,0,0,0,3,5,121,111,116,118,127,0] (bN r)) []:=by
 unfold po at h
 refine b8 Tryz.f7 true ?_
 exact ae<|ae<|aL false 2 6 [.agg ((pE p0.fC).map .t)] h (fun _=>PL) fun r1 h=>aL false 2 10 [.agg [.t (.sl 1 (p0.fT.cy.map (aw .i64)))]] h (fun _=>PN) fun r2 h=>aL false 2 14 [.s p0.jh] h (fun _=>lg) fun r3 h=>aL false 2 18 [.t (.sl 1 (p0.fZ.map bd))] h (fun _=>Lc) fun r4 h=>aL false 2 22 [.t (.sl 12 (p0.fN.map ay))] h (fun _=>M7) fun r5 h=>aL false 2 26 [.t (.sl 6 (p0.fD.map aB))] h (fun _=>M8) fun r6 h=>aL false 2 30 [.t (.sl 3 (p0.eo.map aI))] h (fun _=>Je) fun r7 h=>aL false 2 34 [.t (.sl 3 (p0.pX.map cp))] h (fun _=>M9) fun r8 h=>pj ⟨[(1,.obj 1 0),(2,.obj 2 0),(3,.obj 3 0)],[(1,((bN p0).map .t)),(2,[.i 0,.i 0,.i 0,.i 0,.nil,.nil,.nil,.nil,.nil,.nil,.nil,.i 0]),(3,[.i r1.aS,.i r1.gA,.i r1.ep,.i r1.ij,.own 655360,.own 917504,.own 1179648,.own 1441792,.own 1703936,.own 1966080,.own 2228224,.i 0])],[(655360,.live 3 1 (r2.cy.map (aw .i64))),(917504,.live 5 1 (r3.map (aw .u8))),(1179648,.live 121 1 (r4.map bd)),(1441792,.live 111 12 (r5.map ay)),(1703936,.live 116 6 (r6.map aB)),(1966080,.live 118 3 (r7.map aI)),(2228224,.live 127 3 (r8.map cp))]⟩<|ae<|ae<|by cases h;exact Wp.ret aj
theorem bg {u p0 p1 p2 r} (h:bB u p0 p1 p2=some r):ak Tryz.prog 20 [V.i p0,V.i p1,V.i p2] (V.b r) []:=by
 unfold bB at h
 refine b8 Tryz.f20 false ?_
 exact ae<|aE<|ah 4 10 h (fun h=>aa<|by cases h;exact Wp.ret aj) fun h=>aa<|by cases h;exact Wp.ret aj
theorem PV {u p0 r} (h:yq u p0=some r):ak Tryz.prog 46 [cO (pE p0)] (V.b r) []:=by
 unfold yq at h
 refine b8 Tryz.f46 false ?_
 exact ae<|aE<|ag false 2 5 [.i p0.aS,.i 2,.i 6] h (fun _=>bg) fun r1 h=>ah 1 6 h (fun h=>ag false 2 9 [.i p0.gA,.i 1,.i 40] h (fun _=>bg) fun r2 h=>ah 2 11 h (fun h=>ag false 2 14 [.i p0.ep,.i 1,.i 5] h (fun _=>bg) fun r3 h=>ah 2 16 h (fun h=>ag false 2 19 [.i p0.ij,.i 2,.i 8] h (fun _=>bg) fun r4 h=>aa<|by cases h;exact Wp.ret aj) fun h=>aa<|by cases h;exact Wp.ret aj) fun h=>aa<|by cases h;exact Wp.ret aj) fun h=>aa<|by cases h;exact Wp.ret aj
theorem E2 {u p0 r} (h:uL u p0=some r):ak Tryz.prog 47 [cO (g9 p0)] (V.b r) []:=by
 unfold uL at h
 refine b8 Tryz.f47 false ?_
 refine ae<|Wp.seq<|pk (fun x3 p0=>vt u x3 p0=some r) (fun x3 p0=>⟨[(1,.obj 1 0),(2,.b false),(15,.b x3)],[(1,[.t (.sl 1 (p0.cy.map (aw .i64)))])],[]⟩) (fun x3 p0 h=>?_) ?_
 ·refine al h (fun h=>ae<|by cases h;exact Wp.ret aj) fun h=>aC<|im (AC u=some r) ⟨[(2,.b false)],[],[]⟩ (fun h=>ae<|by cases h;exact Wp.ret aj)<|ae<|Wp.block<|yR (fun mt x5 p0=>jV u mt x5 p0=some r) (fun x5 p0=>⟨[(1,.obj 1 0),(2,.b false),(3,.i x5)],[(1,[.t (.sl 1 (p0.cy.map (aw .i64)))])],[]⟩) (fun mt x5 p0 h=>?_) h (lo []) (fun _ _  h=>nomatch h)
  rw [jV] at h
  exact Wp.seq<|aE<|ar 3 3 (aw .i64) p0.cy<|aa<|al h (fun h=>aC<|Wp.seq<|Wp.block<|aE<|aR 3 3 1 (aw .i64) h fun y7 h _=>ag false 3 30 [.i y7,.i 0,.i (cu .i64 x5 1)] h (fun _=>bg) fun r8 h=>aa<|al h (fun h=>ae<|by cases h;exact Wp.ret aj) fun h=>Wp.skip<|b6<|aO<|aV [] []<|aa<|⟨_,_,h,lo []⟩) fun h=>Wp.exit<|aZ<|aZ<|dj<|aO<|⟨h,lo []⟩
 exact aV [] []<|ar 2 3 (aw .i64) p0.cy<|ag false 0 7 [.i ((p0.cy.length:Int)),.i 1,.i 7] h (fun _=>bg) fun r1 h=>ah 2 9 h (fun h=>aa<|⟨_,_,h,lo []⟩) fun h=>aR 2 3 1 (aw .i64) h fun y2 h _=>aa<|⟨_,_,h,lo []⟩
theorem wG {u p0 p1 r} (h:o7 u p0 p1=some r):ak Tryz.prog 48 [V.i p0,V.i p1] (V.b r) []:=by
 unfold o7 at h
 refine b8 Tryz.f48 false ?_
 exact ae<|aE<|ag false 1 6 [.i p0,.i 2,.i 6] h (fun _=>bg) fun r1 h=>ah 1 7 h (fun h=>ag false 3 11 [.i p1,.i 0,.i (gR .i64 p0 40)] h (fun _=>bg) fun r2 h=>aa<|by cases h;exact Wp.ret aj) fun h=>aa<|by cases h;exact Wp.ret aj
theorem Na {u p0 p1 r} (h:vu u p0 p1=some r):ak Tryz.prog 49 [.one (.t (.sl 1 (p0.map bd))),V.i p1] (V.b r) []:=by
 unfold vu at h
 refine b8 Tryz.f49 false ?_
 refine ae<|pk (fun p0 p1=>zb u p0 p1=some r) (fun p0 p1=>⟨[(0,.t (.sl 1 (p0.map bd))),(1,.i p1),(4,.b false)],[],[]⟩) (fun p0 p1 h=>aE<|ar 1 121 bd p0<|aa<|by cases h;exact Wp.ret aj)<|ae<|Wp.block<|ef (fun kT p0 p1 x2=>m6 u kT p0 p1 x2=some r) (fun p0 p1 x2=>⟨[(0,.t (.sl 1 (p0.map bd))),(1,.i p1),(4,.b false),(5,.i x2)],[],[]⟩) (fun kT p0 p1 x2 h=>?_) h (lo []) (fun _ _ _  h=>nomatch h)
 rw [m6] at h
 exact Wp.seq<|aE<|ar 2 121 bd p0<|aa<|al h (fun h=>aC<|Wp.seq<|Wp.block<|aE<|aR 2 121 1 bd h fun y4 h _=>ar 2 5 (aw .u8) y4.fB<|aa<|al h (fun h=>ae<|by cases h;exact Wp.ret aj) fun h=>Wp.skip<|b6<|aO<|aV [] []<|aa<|⟨_,_,_,h,lo []⟩) fun h=>Wp.exit<|aZ<|aZ<|dj<|aO<|⟨_,_,h,lo []⟩
theorem Nb {u p0 p1 r} (h:vw u p0 p1=some r):ak Tryz.prog 233 [V.i p0,V.i p1] (V.i r) []:=by
 unfold vw at h
 refine b8 Tryz.f233 false ?_
 refine ae<|Wp.seq<|lx (fun p0 p1 x3=>tM u p0 p1 x3=some r) (fun p0 p1 x3=>⟨[(0,.i p0),(1,.i p1),(4,.i 0),(12,.b x3)],[],[]⟩) (fun p0 p1 x3 h=>?_) ?_
 ·refine al h (fun h=>ae<|by cases h;exact Wp.ret aj) fun h=>aC<|aE<|bc 5 kr ?_
  obtain ⟨_,e_4,h⟩:=bind_some h
  exact iM .quo (.int .i64 (cu .i64 (aX .i64 p0 p1) 1)) (.int .i64 p1) (.int .i64 (Vx .i64 (cu .i64 (aX .i64 p0 p1) 1) p1)) rfl kr kr kr kr (WB _ _ _ _ (by simpa using bj e_4))<|aa<|by cases h;exact Wp.ret aj
 exact aV [] []<|ag false 1 6 [.i p0,.i 0,.i 1000000000000] h (fun _=>bg) fun r1 h=>ah 2 8 h (fun h=>aa<|⟨_,_,_,h,lo []⟩) fun h=>ag false 1 10 [.i p1,.i 1,.i 1000000000000] h (fun _=>bg) fun r2 h=>aa<|⟨_,_,_,h,lo []⟩
theorem wH {u p0 p1 r} (h:o8 u p0 p1=some r):ak Tryz.prog 188 [V.i p0,V.i p1] (V.i r) []:=by
 unfold o8 at h
 refine b8 Tryz.f188 false ?_
 exact ae<|Wp.seq<|aL false 2 7 [.i p0,.i p1] h (fun _=>wG) fun r1 h=>al h (fun h=>ae<|by cases h;exact Wp.ret aj) fun h=>aC<|aL false 2 11 [.i p1,.i p0] h (fun _=>Nb) fun r2 h=>by cases h;exact Wp.ret aj
theorem RP {u p0 p1 r} (h:AD u p0 p1=some r):ak Tryz.prog 192 [V.i p0,V.i p1] (V.i r) []:=by
 unfold AD at h
 refine b8 Tryz.f192 false ?_
 exact ae<|Wp.seq<|ae<|al h (fun h=>ae<|by cases h;exact Wp.ret aj) fun h=>aC<|ae<|by cases h;exact Wp.ret aj
theorem mM {u p0 p1 p2 r} (h:f0 u p0 p1 p2=some r):ak Tryz.prog 141 [V.i p0,V.i p1,V.i p2] (.tup [V.i r.1,V.i r.2]) []:=by
 unfold f0 at h
 refine b8 Tryz.f141 false ?_
 exact ae<|Wp.seq<|aE<|ag false 3 11 [.i p0,.i p1] h (fun _=>wH) fun r1 h=>ag false 1 13 [.i p2,.i 0,.i (cu .i64 r1 1)] h (fun _=>bg) fun r2 h=>aa<|al h (fun h=>ae<|by cases h;exact Wp.ret aj) fun h=>aC<|aL false 9 24 [.i p0,.i (cu .i64 p1 (gR .i64 p2 p0))] h (fun _=>RP) fun r3 h=>by cases h;exact Wp.ret aj
theorem Nc {u p0 p1 p2 r} (h:rF u p0 p1 p2=some r):ak Tryz.prog 189 [.one (.s p0),V.i p1,V.i p2] (.tup [.one (.ow 5 1 (r.1.map (aw .u8))),V.b r.2]) []:=by
 unfold rF at h
 refine b8 Tryz.f189 true ?_
 refine ae<|aE<|ar 2 5 (aw .u8) p0<|ag false 1 15 [.i p1,.i ((p0.length:Int)),.i p2] h (fun _=>mM) fun r1 h=>aa<|Wp.seq<|ae<|al h (fun h=>ae<|by cases h;exact Wp.ret aj) fun h=>aC<|aE<|bc 6 kr ?_
 obtain ⟨_,e_2,h⟩:=bind_some h
 exact eS (e:=5) (ax:=.s p0) (alo:=(some (.i r1.1))) (ahi:=(some (.i (aX .i64 r1.1 r1.2)))) (aw .u8) p0 1 r1.1 (aX .i64 r1.1 r1.2) rfl kr kr kr kr kr kr kr kr kr kr kr (bj e_2)<|cg 0 28 5 1 1376256 (aw .u8) h fun h=>aa<|by cases h;exact Wp.ret aj
theorem wI {u p0 r} (h:o9 u p0=some r):ak Tryz.prog 193 [.one (.s p0)] (V.i r) []:=by
 unfold o9 at h
 refine b8 Tryz.f193 false ?_
 refine ae<|ae<|ae<|pk (fun x11 x12=>qO u x11 x12=some r) (fun x11 x12=>⟨[(2,.i 0),(3,.i x11),(4,.i x12)],[],[]⟩) (fun x11 x12 h=>ae<|by cases h;exact Wp.ret aj)<|ae<|Wp.block<|GA (fun mu p0 x4 x5 x6=>oh u mu p0 x4 x5 x6=some r) (fun p0 x4 x5 x6=>⟨[(0,.s p0),(2,.i 0),(3,.i x4),(4,.i x5),(5,.i x6)],[],[]⟩) (fun mu p0 x4 x5 x6 h=>?_) h (lo []) (fun _ _ _ _  h=>nomatch h)
 rw [oh] at h
 exact Wp.seq<|aE<|ar 2 5 (aw .u8) p0<|aa<|al h (fun h=>aC<|Wp.seq<|Wp.block<|aE<|aR 3 5 1 (aw .u8) h fun y10 h _=>aa<|aV [] []<|ab.all kr<|b6<|aO<|aV [] []<|aa<|⟨_,_,_,_,h,lo []⟩) fun h=>Wp.exit<|aZ<|aZ<|dj<|aO<|⟨_,_,h,lo []⟩
theorem qq {u p0 r} (h:gY u p0=some r):ak Tryz.prog 143 [.one (.s p0)] (cO (aH r)) []:=by
 unfold gY at h
 refine b8 Tryz.f143 false ?_
 refine ae<|Wp.seq<|aE<|ar 1 5 (aw .u8) p0<|aa<|al h (fun h=>ae<|by cases h;exact Wp.ret aj) fun h=>aC<|ae<|pk (fun p0 x8=>sZ u p0 x8=some r) (fun p0 x8=>⟨[(0,.s p0),(2,.obj 2 0),(3,.i x8)],[(2,[.i 0,.i 0])],[]⟩) (fun p0 x8 h=>aL false 1 24 [.s p0] h (fun _=>wI) fun r9 h=>by cases h;exact Wp.ret aj)<|ae<|Wp.block<|ef (fun nA p0 x3 x4=>p7 u nA p0 x3 x4=some r) (fun p0 x3 x4=>⟨[(0,.s p0),(2,.obj 2 0),(3,.i x3),(4,.i x4)],[(2,[.i 0,.i 0])],[]⟩) (fun nA p0 x3 x4 h=>?_) h (lo []) (fun _ _ _  h=>nomatch h)
 rw [p7] at h
 exact Wp.seq<|aE<|ar 2 5 (aw .u8) p0<|aa<|al h (fun h=>aC<|Wp.seq<|Wp.block<|aV [] []<|aR 4 5 1 (aw .u8) h fun y7 h _=>ab.all kr<|b6<|aO<|aV [] []<|aa<|⟨_,_,_,h,lo []⟩) fun h=>Wp.exit<|aZ<|aZ<|dj<|aO<|⟨_,_,h,lo []⟩
theorem E3 {u p0 p1 r} (h:uM u p0 p1=some r):ak Tryz.prog 134 [.one (.s p0),V.i p1] (.one (.ow 176 2 (r.map aH))) []:=by
 unfold uM at h
 refine b8 Tryz.f134 true ?_
 refine ae<|ae<|kC (fun x10=>AE u x10=some r) (fun x10=>⟨[(4,.nil),(5,.own 327681)],[],[(327681,.live 176 2 (x10.map aH))]⟩) (fun x10 h=>ae<|by cases h;exact Wp.ret aj)<|ae<|Wp.block<|GA (fun ms p0 p1 x3 x4=>oj u ms p0 p1 x3 x4=some r) (fun p0 p1 x3 x4=>⟨[(0,.s p0),(1,.i p1),(4,.nil),(5,.own 327681),(6,.i x4)],[],[(327681,.live 176 2 (x3.map aH))]⟩) (fun ms p0 p1 x3 x4 h=>?_) h (lo [(327681,589824)]) (fun _ _ _ _  h=>nomatch h)
 rw [oj] at h
 exact Wp.seq<|aE<|ar 3 5 (aw .u8) p0<|ag false 0 14 [.i p1,.i ((p0.length:Int))] h (fun _=>wH) fun r7 h=>aa<|al h (fun h=>aC<|Wp.seq<|Wp.block<|aL false 3 22 [.s p0,.i p1,.i x4] h (fun _=>Nc) fun r8 h=>aV [] []<|eX 2 27 [.own 1441792] h (fun _=>qq) fun r9 h=>cg (ys:=[r9]) 1 29 176 2 327681 aH h fun h=>ab.all kr<|b6<|aO<|aV [] []<|aa<|⟨_,_,_,_,h,lo [(327681,1900544)]⟩) fun h=>Wp.exit<|aZ<|aZ<|dj<|aO<|⟨_,h,lo []⟩
theorem RQ {u p0 p1 p2 r} (h:AF u p0 p1 p2=some r):ak Tryz.prog 86 [V.i p0,.one (.s p1),V.i p2] (V.w [0,0,0,176] (ai r)) []:=by
 unfold AF at h
 refine b8 Tryz.f86 true ?_
 exact ae<|Wp.seq<|nO (fun p0 p1 p2 x3=>xO u p0 p1 p2 x3=some r) (fun p0 p1 p2 x3=>⟨[(0,.i p0),(1,.s p1),(2,.i p2),(6,.obj 6 0),(16,.b x3)],[(6,[.i 0,.i 0,.i 0,.nil])],[]⟩) (fun p0 p1 p2 x3 h=>al h (fun h=>ae<|by cases h;exact Wp.ret aj) fun h=>aC<|aE<|ar 3 5 (aw .u8) p1<|ag false 2 24 [.s p1,.i p2] h (fun _=>E3) fun r4 h=>aa<|by cases h;exact Wp.ret aj)<|aV [] []<|ag false 1 8 [.i p0,.i 1,.i 1000000] h (fun _=>bg) fun r1 h=>ah 2 10 h (fun h=>aa<|⟨_,_,_,_,h,lo []⟩) fun h=>ar 2 5 (aw .u8) p1<|ag false 0 14 [.i p2,.i ((p1.length:Int))] h (fun _=>wG) fun r2 h=>aa<|⟨_,_,_,_,h,lo []⟩
theorem RR {u p0 r} (h:AG u p0=some r):ak Tryz.prog 50 [cO (bN p0)] (V.w [0,0,0,176] (ai r)) []:=by
 unfold AG at h
 refine b8 Tryz.f50 true ?_
 exact ae<|aL false 5 8 [.i 1,.s p0.jh,.i p0.fC.aS] h (fun _=>RQ) fun r1 h=>by cases h;exact Wp.ret aj
theorem A8 {u p0 p1 r} (h:m7 u p0 p1=some r):ak Tryz.prog 95 [.one (.t (.sl 2 (p0.map aH))),.one (.t (.sl 2 (p1.map aH)))] (V.b r) []:=by
 unfold m7 at h
 refine b8 Tryz.f95 false ?_
 refine ae<|Wp.seq<|aE<|ar 1 176 aH p0<|ar 1 176 aH p1<|aa<|al h (fun h=>ae<|by cases h;exact Wp.ret aj) fun h=>aC<|im (un u=some r) ⟨[(4,.b false)],[],[]⟩ (fun h=>ae<|by cases h;exact Wp.ret aj)<|ae<|Wp.block<|ef (fun ig p0 p1 x2=>jo u ig p0 p1 x2=some r) (fun p0 p1 x2=>⟨[(0,.t (.sl 2 (p0.map aH))),(1,.t (.sl 2 (p1.map aH))),(4,.b false),(5,.i x2)],[],[]⟩) (fun ig p0 p1 x2 h=>?_) h (lo []) (fun _ _ _  h=>nomatch h)
 rw [jo] at h
 exact Wp.seq<|aE<|ar 2 176 aH p0<|aa<|al h (fun h=>aC<|Wp.seq<|Wp.block<|Wp.seq<|aK (jQ []) (bR [(0,.frz),(1,.frz),(5,.frz),(17,.frz),(18,.frz),(19,.frz),(20,.frz),(21,.frz),(22,.frz),(23,.frz),(24,.frz)]) kr kr<|aR 2 176 2 aH h fun y4 h _=>aR 3 176 2 aH h fun y5 h _=>aa<|al h (fun h=>ae<|by cases h;exact Wp.ret aj) fun h=>Wp.skip<|b6<|aO<|aV [] []<|aa<|⟨_,_,_,h,lo []⟩) fun h=>Wp.exit<|aZ<|aZ<|dj<|aO<|⟨h,lo []⟩
theorem pR {u p0 p1 r} (h:jL u p0 p1=some r):ak Tryz.prog 53 [cO (ai p0),cO (ai p1)] (V.b r) []:=by
 unfold jL at h
 refine b8 Tryz.f53 false ?_
 exact ae<|aE<|ah 6 10 h (fun h=>ah 7 17 h (fun h=>ah 7 24 h (fun h=>ag false 4 29 [.t (.sl 2 (p0.aD.map aH)),.t (.sl 2 (p1.aD.map aH))] h (fun _=>A8) fun r1 h=>aa<|by cases h;exact Wp.ret aj) fun h=>aa<|by cases h;exact Wp.ret aj) fun h=>aa<|by cases h;exact Wp.ret aj) fun h=>aa<|by cases h;exact Wp.ret aj
theorem Eg {u p0 r} (h:rG u p0=some r):ak Tryz.prog 87 [cO (ay p0)] (V.b r) []:=by
 unfold rG at h
 refine b8 Tryz.f87 false ?_
 exact ae<|aE<|ag false 3 6 [.agg ((ai p0.av).map .t),.agg [.i 0,.i 0,.i 0,.nil]] h (fun _=>pR) fun r1 h=>ah 1 7 h (fun h=>ah 6 13 h (fun h=>ar 3 5 (aw .u8) p0.a7.bh<|aa<|by cases h;exact Wp.ret aj) fun h=>aa<|by cases h;exact Wp.ret aj) fun h=>aa<|by cases h;exact Wp.ret aj
theorem PW {u p0 p1 r} (h:yu u p0 p1=some r):ak Tryz.prog 136 [cO (g9 p0),V.i p1] (.one (.ow 3 1 (r.map (aw .i64)))) []:=by
 unfold yu at h
 refine b8 Tryz.f136 true ?_
 refine ae<|ae<|kC (fun x11=>vz u x11=some r) (fun x11=>⟨[(4,.nil),(5,.own 327681)],[],[(327681,.live 3 1 (x11.map (aw .i64)))]⟩) (fun x11 h=>ae<|by cases h;exact Wp.ret aj)<|Wp.block<|ef (fun ie x3 x4 p0=>iC u ie x3 x4 p0=some r) (fun x3 x4 p0=>⟨[(1,.i x3),(2,.obj 2 0),(4,.nil),(5,.own 327681)],[(2,[.t (.sl 1 (p0.cy.map (aw .i64)))])],[(327681,.live 3 1 (x4.map (aw .i64)))]⟩) (fun ie x3 x4 p0 h=>?_) h (lo [(327681,393216)]) (fun _ _ _  h=>nomatch h)
 rw [iC] at h
 exact Wp.seq<|nO (fun x3 x4 x8 p0=>qP u (fun z0 z1 z2=>iC u ie z0 z1 z2) x3 x4 x8 p0=some r) (fun x3 x4 x8 p0=>⟨[(1,.i x3),(2,.obj 2 0),(4,.nil),(5,.own 327681),(20,.b x8)],[(2,[.t (.sl 1 (p0.cy.map (aw .i64)))])],[(327681,.live 3 1 (x4.map (aw .i64)))]⟩) (fun x3 x4 x8 p0 h=>al h (fun h=>aC<|Wp.block<|aE<|cg 3 24 3 1 327681 (aw .i64) h fun h=>aa<|aV [] []<|aR 3 3 1 (aw .i64) h fun y10 h _=>ab.all kr<|b6<|aO<|⟨_,_,_,h,lo [(327681,1572864)]⟩) fun h=>Wp.exit<|aZ<|aZ<|dj<|aO<|⟨_,h,lo []⟩)<|aV [] []<|ar 3 3 (aw .i64) p0.cy<|ag false 1 12 [.i x3,.i 0,.i (cu .i64 ((p0.cy.length:Int)) 1)] h (fun _=>bg) fun r7 h=>ah 1 13 h (fun h=>ar 1 3 (aw .i64) x4<|ar 2 3 (aw .i64) p0.cy<|aa<|⟨_,_,_,_,h,lo []⟩) fun h=>aa<|⟨_,_,_,_,h,lo []⟩
theorem PX {u p0 p1 r} (h:yv u p0 p1=some r):ak Tryz.prog 135 [.one (.t (.sl 1 (p0.map (aw .i64)))),V.i p1] (V.b r) []:=by
 unfold yv at h
 refine b8 Tryz.f135 false ?_
 refine ae<|im (AH u=some r) ⟨[(4,.b false)],[],[]⟩ (fun h=>ae<|by cases h;exact Wp.ret aj)<|ae<|Wp.block<|ef (fun mv p0 p1 x2=>ol u mv p0 p1 x2=some r) (fun p0 p1 x2=>⟨[(0,.t (.sl 1 (p0.map (aw .i64)))),(1,.i p1),(4,.b false),(5,.i x2)],[],[]⟩) (fun mv p0 p1 x2 h=>?_) h (lo []) (fun _ _ _  h=>nomatch h)
 rw [ol] at h
 exact Wp.seq<|aE<|ar 2 3 (aw .i64) p0<|aa<|al h (fun h=>aC<|Wp.seq<|Wp.block<|aE<|aR 2 3 1 (aw .i64) h fun y4 h _=>aa<|al h (fun h=>ae<|by cases h;exact Wp.ret aj) fun h=>Wp.skip<|b6<|aO<|aV [] []<|aa<|⟨_,_,_,h,lo []⟩) fun h=>Wp.exit<|aZ<|aZ<|dj<|aO<|⟨h,lo []⟩
theorem De {u p0 p1 p2 r} (h:p8 u p0 p1 p2=some r):ak Tryz.prog 88 [cO (g9 p0),V.i p1,V.i p2] (V.b r) []:=by
 unfold p8 at h
 refine b8 Tryz.f88 false ?_
 exact ae<|aE<|ah 4 10 h (fun h=>ag false 2 13 [.agg [.t (.sl 1 (p0.cy.map (aw .i64)))],.i p2] h (fun _=>PW) fun r1 h=>eX 1 15 [.own 851968,.i p1] h (fun _=>PX) fun r2 h=>aa<|by cases h;exact Wp.ret aj) fun h=>aa<|by cases h;exact Wp.ret aj
theorem cR {u p0 r} (h:cz u p0=some r):ak Tryz.prog 137 [V.i p0] (V.b r) []:=by
 unfold cz at h
 refine b8 Tryz.f137 false ?_
 exact ae<|aL false 1 4 [.i p0,.i 0,.i 1099511627775] h (fun _=>bg) fun r1 h=>by cases h;exact Wp.ret aj
theorem wJ {u p0 r} (h:pa u p0=some r):ak Tryz.prog 89 [.one (.t (.sl 5 (p0.map aq)))] (V.b r) []:=by
 unfold pa at h
 refine b8 Tryz.f89 false ?_
 refine ae<|im (AI u=some r) ⟨[(2,.b false)],[],[]⟩ (fun h=>ae<|by cases h;exact Wp.ret aj)<|ae<|Wp.block<|yR (fun cK p0 x2=>df u cK p0 x2=some r) (fun p0 x2=>⟨[(0,.t (.sl 5 (p0.map aq))),(2,.b false),(3,.i x2)],[],[]⟩) (fun cK p0 x2 h=>?_) h (lo []) (fun _ _  h=>nomatch h)
 rw [df] at h
 exact Wp.seq<|aE<|ar 2 149 aq p0<|aa<|al h (fun h=>aC<|Wp.seq<|Wp.block<|lx (fun p0 x2 x22=>cm u (fun z0 z1=>df u cK z0 z1) p0 x2 x22=some r) (fun p0 x2 x22=>⟨[(0,.t (.sl 5 (p0.map aq))),(2,.b false),(3,.i x2),(69,.b x22)],[],[]⟩) (fun p0 x2 x22 h=>al h (fun h=>ae<|by cases h;exact Wp.ret aj) fun h=>Wp.skip<|b6<|aO<|aV [] []<|aa<|⟨_,_,h,lo []⟩)<|aK (jQ []) (bR [(0,.frz),(3,.frz),(10,.frz),(11,.frz),(12,.frz),(13,.frz),(14,.frz),(15,.frz),(16,.frz),(17,.frz),(18,.frz),(19,.frz),(20,.frz),(21,.frz),(22,.frz),(23,.frz),(24,.frz),(25,.frz),(26,.frz),(27,.frz),(28,.frz),(29,.frz),(30,.frz),(31,.frz),(34,.frz),(35,.frz),(36,.frz),(37,.frz),(38,.frz),(39,.frz),(40,.frz),(41,.frz),(43,.frz),(44,.frz),(45,.frz),(46,.frz),(47,.frz),(48,.frz),(49,.frz),(50,.frz),(52,.frz),(53,.frz),(54,.frz),(55,.frz),(56,.frz),(57,.frz),(58,.frz),(59,.frz),(61,.frz),(62,.frz),(63,.frz),(64,.frz),(65,.frz),(66,.frz),(67,.frz)]) kr kr<|aR 2 149 5 aq h fun y4 h _=>ag false 2 15 [.i y4.fb,.i 0,.i 6] h (fun _=>bg) fun r5 h=>ah 2 17 h (fun h=>aa<|⟨_,_,_,h,lo []⟩) fun h=>ah 3 20 h (fun h=>aR 3 149 5 aq h fun y6 h _=>aR 4 149 5 aq h fun y7 h _=>ah 6 35 h (fun h=>aa<|⟨_,_,_,h,lo []⟩) fun h=>aR 2 149 5 aq h fun y8 h _=>ag false 2 41 [.i y8.bw] h (fun _=>cR) fun r9 h=>ah 3 44 h (fun h=>aa<|⟨_,_,_,h,lo []⟩) fun h=>aR 2 149 5 aq h fun y10 h _=>ag false 2 50 [.i y10.bL] h (fun _=>cR) fun r11 h=>ah 3 53 h (fun h=>aa<|⟨_,_,_,h,lo []⟩) fun h=>aR 2 149 5 aq h fun y12 h _=>ag false 2 59 [.i y12.c8] h (fun _=>cR) fun r13 h=>ah 3 62 h (fun h=>aa<|⟨_,_,_,h,lo []⟩) fun h=>aR 2 149 5 aq h fun y14 h _=>aa<|⟨_,_,_,h,lo []⟩) fun h=>aR 17 149 5 aq h fun y15 h _=>ag false 2 41 [.i y15.bw] h (fun _=>cR) fun r16 h=>ah 3 44 h (fun h=>aa<|⟨_,_,_,h,lo []⟩) fun h=>aR 2 149 5 aq h fun y17 h _=>ag false 2 50 [.i y17.bL] h (fun _=>cR) fun r18 h=>ah 3 53 h (fun h=>aa<|⟨_,_,_,h,lo []⟩) fun h=>aR 2 149 5 aq h fun y19 h _=>ag false 2 59 [.i y19.c8] h (fun _=>cR) fun r20 h=>ah 3 62 h (fun h=>aa<|⟨_,_,_,h,lo []⟩) fun h=>aR 2 149 5 aq h fun y21 h _=>aa<|⟨_,_,_,h,lo []⟩) fun h=>Wp.exit<|aZ<|aZ<|dj<|aO<|⟨h,lo []⟩
theorem Eh {u p0 r} (h:pp u p0=some r):ak Tryz.prog 190 [V.i p0] (.tup [.one (.ow 5 1 (r.1.map (aw .u8))),V.b r.2]) []:=by
 unfold pp at h
 refine b8 Tryz.f190 true ?_
 refine ae<|Wp.seq<|aL false 1 6 [.i p0,.i 1,.i 562949953421311] h (fun _=>bg) fun r1 h=>al h (fun h=>ae<|by cases h;exact Wp.ret aj) fun h=>aC<|ae<|kC (fun x8=>ze u x8=some r) (fun x8=>⟨[(2,.nil),(3,.b false),(4,.own 262145)],[],[(262145,.live 5 1 (x8.map (aw .u8)))]⟩) (fun x8 h=>ae<|by cases h;exact Wp.ret aj)<|Wp.block<|yR (fun kR x4 x5=>m8 u kR x4 x5=some r) (fun x4 x5=>⟨[(0,.i x4),(2,.nil),(3,.b false),(4,.own 262145)],[],[(262145,.live 5 1 (x5.map (aw .u8)))]⟩) (fun kR x4 x5 h=>?_) h (lo [(262145,589824)]) (fun _ _  h=>nomatch h)
 rw [m8] at h
 exact Wp.seq<|ae<|al h (fun h=>aC<|Wp.block<|Wp.seq<|ae<|al h (fun h=>ae<|by cases h;exact Wp.ret aj) fun h=>aC<|aE<|cg 5 20 5 1 1179648 (aw .u8) h fun h=>aa<|aV [] []<|ab.all kr<|b6<|aO<|⟨_,_,h,lo [(262145,1310720)]⟩) fun h=>Wp.exit<|aZ<|aZ<|dj<|aO<|⟨_,h,lo []⟩
theorem nZ {u p0 r} (h:jp u p0=some r):ak Tryz.prog 138 [cO (ai p0)] (V.b r) []:=by
 unfold jp at h
 refine b8 Tryz.f138 false ?_
 refine ae<|Wp.seq<|ae<|al h (fun h=>aE<|ah 4 14 h (fun h=>ah 5 19 h (fun h=>ar 2 176 aH p0.aD<|aa<|by cases h;exact Wp.ret aj) fun h=>aa<|by cases h;exact Wp.ret aj) fun h=>aa<|by cases h;exact Wp.ret aj) fun h=>aC<|Wp.seq<|pk (fun x4 p0=>s0 u x4 p0=some r) (fun x4 p0=>⟨[(1,.obj 1 0),(2,.b false),(47,.b x4)],[(1,((ai p0).map .t))],[]⟩) (fun x4 p0 h=>?_) ?_
 ·refine al h (fun h=>ae<|by cases h;exact Wp.ret aj) fun h=>aC<|im (Cg u=some r) ⟨[(2,.b false)],[],[]⟩ (fun h=>ae<|by cases h;exact Wp.ret aj)<|ae<|Wp.block<|yR (fun gX x6 p0=>jM u gX x6 p0=some r) (fun x6 p0=>⟨[(1,.obj 1 0),(2,.b false),(3,.i x6)],[(1,((ai p0).map .t))],[]⟩) (fun gX x6 p0 h=>?_) h (lo []) (fun _ _  h=>nomatch h)
  rw [jM] at h
  exact Wp.seq<|aE<|ar 3 176 aH p0.aD<|aa<|al h (fun h=>aC<|Wp.seq<|Wp.block<|aE<|aR 3 176 2 aH h fun y8 h _=>ag false 2 62 [.i y8.fS] h (fun _=>Eh) fun r9 h=>aa<|aL false 5 71 [.i p0.aS,.i p0.aY,.i x6] h (fun _=>mM) fun r10 h=>lx (fun x6 x13 p0=>lE u (fun z0 z1=>jM u gX z0 z1) x6 x13 p0=some r) (fun x6 x13 p0=>⟨[(1,.obj 1 0),(2,.b false),(3,.i x6),(91,.b x13)],[(1,((ai p0).map .t))],[]⟩) (fun x6 x13 p0 h=>al h (fun h=>ae<|by cases h;exact Wp.ret aj) fun h=>Wp.skip<|b6<|aO<|aV [] []<|aa<|⟨_,_,h,lo []⟩)<|aK (jQ []) (bR [(1,.obj 1),(3,.frz),(4,.own 62),(5,.frz),(7,.frz),(74,.frz),(75,.frz),(76,.frz),(77,.own 62),(78,.frz),(79,.frz),(81,.frz),(82,.frz),(83,.own 62),(84,.frz),(85,.obj 1),(86,.frz),(87,.frz),(88,.frz),(89,.frz)]) kr kr<|ah 3 76 h (fun h=>aa<|⟨_,_,_,h,lo []⟩) fun h=>ar 1 5 (aw .u8) r9.1<|ah 4 82 h (fun h=>aa<|⟨_,_,_,h,lo []⟩) fun h=>eX 1 84 [.own 4063232] h (fun _=>qq) fun r11 h=>aR 3 176 2 aH h fun y12 h _=>aa<|⟨_,_,_,h,lo []⟩) fun h=>Wp.exit<|aZ<|aZ<|dj<|aO<|⟨h,lo []⟩
 exact aK (jQ []) (bR [(1,.obj 1),(25,.obj 1),(26,.frz),(27,.frz),(28,.frz),(29,.frz),(30,.obj 1),(31,.frz),(32,.obj 1),(33,.frz),(34,.frz),(36,.frz),(37,.frz),(38,.obj 1),(39,.frz),(40,.frz),(41,.obj 1),(42,.frz),(43,.obj 1),(44,.frz),(45,.frz)]) kr kr<|ag false 2 27 [.i p0.aP,.i 1,.i 1000000] h (fun _=>bg) fun r1 h=>ah 2 29 h (fun h=>aa<|⟨_,_,h,lo []⟩) fun h=>ag false 4 34 [.i p0.aS,.i p0.aY] h (fun _=>wG) fun r2 h=>ah 3 37 h (fun h=>aa<|⟨_,_,h,lo []⟩) fun h=>ar 2 176 aH p0.aD<|ag false 4 45 [.i p0.aS,.i p0.aY] h (fun _=>wH) fun r3 h=>aa<|⟨_,_,h,lo []⟩
theorem Nd {u p0 r} (h:rH u p0=some r):ak Tryz.prog 191 [V.i p0] (V.i r) []:=by
 unfold rH at h
 refine b8 Tryz.f191 false ?_
 refine ae<|Wp.seq<|aL false 1 4 [.i p0,.i 0,.i 40] h (fun _=>bg) fun r1 h=>al h (fun h=>ae<|by cases h;exact Wp.ret aj) fun h=>aC<|aE<|bc 1 kr ?_
 obtain ⟨_,e_2,h⟩:=bind_some h
 exact iM .shl (.int .i64 1) (.int .i64 p0) (.int .i64 (i4 .i64 1 p0)) rfl kr kr kr kr (B2 _ _ _ _ _ (bj e_2))<|aa<|by cases h;exact Wp.ret aj
theorem Df {u p0 r} (h:p9 u p0=some r):ak Tryz.prog 140 [cO (ai p0)] (V.i r) []:=by
 unfold p9 at h
 refine b8 Tryz.f140 false ?_
 exact ae<|aE<|ar 2 176 aH p0.aD<|ag false 0 6 [.i ((p0.aD.length:Int))] h (fun _=>Nd) fun r1 h=>aa<|by cases h;exact Wp.ret aj
theorem Ei {u p0 p1 r} (h:rI u p0 p1=some r):ak Tryz.prog 139 [V.i p0,V.i p1] (V.i r) []:=by
 unfold rI at h
 refine b8 Tryz.f139 false ?_
 exact ae<|Wp.seq<|lx (fun p0 p1 x3=>tN u p0 p1 x3=some r) (fun p0 p1 x3=>⟨[(0,.i p0),(1,.i p1),(4,.i 0),(12,.b x3)],[],[]⟩) (fun p0 p1 x3 h=>al h (fun h=>ae<|by cases h;exact Wp.ret aj) fun h=>aC<|ae<|by cases h;exact Wp.ret aj)<|aV [] []<|ag false 1 6 [.i p0] h (fun _=>cR) fun r1 h=>ah 2 8 h (fun h=>aa<|⟨_,_,_,h,lo []⟩) fun h=>ag false 1 10 [.i p1] h (fun _=>cR) fun r2 h=>aa<|⟨_,_,_,h,lo []⟩
theorem lI {u p0 p1 r} (h:fU u p0 p1=some r):ak Tryz.prog 142 [V.i p0,V.i p1] (V.b r) []:=by
 unfold fU at h
 refine b8 Tryz.f142 false ?_
 refine ae<|aE<|ag false 1 6 [.i p0] h (fun _=>cR) fun r1 h=>ah 1 7 h (fun h=>?_) (fun h=>?_)
 ·refine ag false 1 9 [.i p1,.i 0,.i 39] h (fun _=>bg) fun r2 h=>ah 2 11 h (fun h=>?_) (fun h=>?_)
  ·refine bc 2 kr ?_
   obtain ⟨_,e_3,h⟩:=bind_some h
   exact iM .shr (.int .i64 p0) (.int .i64 p1) (.int .i64 (nY .i64 p0 p1)) rfl kr kr kr kr (I4 _ _ _ _ _ (bj e_3))<|aa<|by cases h;exact Wp.ret aj
  exact aa<|by cases h;exact Wp.ret aj
 exact aa<|by cases h;exact Wp.ret aj
theorem E4 {u p0 r} (h:pb u p0=some r):ak Tryz.prog 144 [.one (.s p0)] (V.b r) []:=by
 unfold pb at h
 refine b8 Tryz.f144 false ?_
 refine ae<|im (AJ u=some r) ⟨[(2,.b false)],[],[]⟩ (fun h=>ae<|by cases h;exact Wp.ret aj)<|ae<|Wp.block<|yR (fun mw p0 x2=>om u mw p0 x2=some r) (fun p0 x2=>⟨[(0,.s p0),(2,.b false),(3,.i x2)],[],[]⟩) (fun mw p0 x2 h=>?_) h (lo []) (fun _ _  h=>nomatch h)
 rw [om] at h
 exact Wp.seq<|aE<|ar 2 5 (aw .u8) p0<|aa<|al h (fun h=>aC<|Wp.seq<|Wp.block<|aE<|aR 2 5 1 (aw .u8) h fun y4 h _=>aa<|al h (fun h=>ae<|by cases h;exact Wp.ret aj) fun h=>Wp.skip<|b6<|aO<|aV [] []<|aa<|⟨_,_,h,lo []⟩) fun h=>Wp.exit<|aZ<|aZ<|dj<|aO<|⟨h,lo []⟩
theorem ui {u p0 p1 r} (h:nF u p0 p1=some r):ak Tryz.prog 90 [cO (ai p0),cO (cJ p1)] (V.b r) []:=by
 unfold nF at h
 refine b8 Tryz.f90 false ?_
 refine ae<|Wp.seq<|lx (fun x5 p0 p1=>m9 u x5 p0 p1=some r) (fun x5 p0 p1=>⟨[(2,.obj 2 0),(3,.obj 3 0),(4,.b false),(33,.b x5)],[(2,((ai p0).map .t)),(3,[.i p1.aT,.s p1.bh])],[]⟩) (fun x5 p0 p1 h=>?_) ?_
 ·refine al h (fun h=>ae<|by cases h;exact Wp.ret aj) fun h=>aC<|im (zg u=some r) ⟨[(4,.b false)],[],[]⟩ (fun h=>ae<|by cases h;exact Wp.ret aj)<|ae<|Wp.block<|ef (fun dQ x7 p0 p1=>ez u dQ x7 p0 p1=some r) (fun x7 p0 p1=>⟨[(2,.obj 2 0),(3,.obj 3 0),(4,.b false),(5,.i x7)],[(2,((ai p0).map .t)),(3,[.i p1.aT,.s p1.bh])],[]⟩) (fun dQ x7 p0 p1 h=>?_) h (lo []) (fun _ _ _  h=>nomatch h)
  rw [ez] at h
  refine Wp.seq<|aE<|ar 3 176 aH p0.aD<|aa<|al h (fun h=>?_) (fun h=>?_)
  ·refine aC<|Wp.seq<|Wp.block<|aL false 5 47 [.i p0.aS,.i p0.aY,.i x7] h (fun _=>mM) fun r9 h=>aE<|bc 6 kr ?_
   obtain ⟨_,e_10,h⟩:=bind_some h
   exact eS (e:=5) (ax:=.s p1.bh) (alo:=(some (.i r9.1))) (ahi:=(some (.i (aX .i64 r9.1 r9.2)))) (aw .u8) p1.bh 1 r9.1 (aX .i64 r9.1 r9.2) rfl kr kr kr kr kr kr kr kr kr kr kr (bj e_10)<|aa<|nO (fun x7 x18 p0 p1=>dZ u (fun z0 z1 z2=>ez u dQ z0 z1 z2) x7 x18 p0 p1=some r) (fun x7 x18 p0 p1=>⟨[(2,.obj 2 0),(3,.obj 3 0),(4,.b false),(5,.i x7),(82,.b x18)],[(2,((ai p0).map .t)),(3,[.i p1.aT,.s p1.bh])],[]⟩) (fun x7 x18 p0 p1 h=>al h (fun h=>ae<|by cases h;exact Wp.ret aj) fun h=>Wp.skip<|b6<|aO<|aV [] []<|aa<|⟨_,_,_,h,lo []⟩)<|aK (jQ []) (bR [(2,.obj 2),(3,.obj 3),(5,.frz),(8,.frz),(57,.obj 3),(58,.frz),(59,.frz),(60,.frz),(61,.frz),(62,.frz),(63,.frz),(64,.obj 2),(65,.frz),(66,.frz),(67,.frz),(68,.frz),(70,.frz),(71,.frz),(72,.obj 3),(73,.frz),(74,.frz),(75,.frz),(76,.frz),(77,.frz),(78,.frz),(79,.frz)]) kr kr<|ag false 3 60 [.i p1.aT,.i x7] h (fun _=>lI) fun r11 h=>ah 1 61 h (fun h=>ag false 1 63 [.t (.sl 1 (((p1.bh.take (Int.toNat (aX .i64 r9.1 r9.2))).drop (Int.toNat r9.1)).map (aw .u8)))] h (fun _=>qq) fun r12 h=>aR 3 176 2 aH h fun y13 h _=>ah 4 71 h (fun h=>aa<|⟨_,_,_,_,h,lo []⟩) fun h=>ag false 3 75 [.i p1.aT,.i x7] h (fun _=>lI) fun r14 h=>ah 2 77 h (fun h=>ag false 1 79 [.t (.sl 1 (((p1.bh.take (Int.toNat (aX .i64 r9.1 r9.2))).drop (Int.toNat r9.1)).map (aw .u8)))] h (fun _=>E4) fun r15 h=>aa<|⟨_,_,_,_,h,lo []⟩) fun h=>aa<|⟨_,_,_,_,h,lo []⟩) fun h=>ag false 13 75 [.i p1.aT,.i x7] h (fun _=>lI) fun r16 h=>ah 2 77 h (fun h=>ag false 1 79 [.t (.sl 1 (((p1.bh.take (Int.toNat (aX .i64 r9.1 r9.2))).drop (Int.toNat r9.1)).map (aw .u8)))] h (fun _=>E4) fun r17 h=>aa<|⟨_,_,_,_,h,lo []⟩) fun h=>aa<|⟨_,_,_,_,h,lo []⟩
  exact Wp.exit<|aZ<|aZ<|dj<|aO<|⟨h,lo []⟩
 exact aK (jQ []) (bR [(2,.obj 2),(3,.obj 3),(9,.frz),(10,.frz),(11,.frz),(12,.frz),(13,.obj 3),(14,.frz),(15,.frz),(17,.frz),(18,.frz),(19,.obj 3),(20,.frz),(21,.frz),(22,.frz),(23,.frz),(25,.frz),(26,.frz),(27,.obj 3),(28,.frz),(29,.frz),(30,.obj 2),(31,.frz)]) kr kr<|ag false 1 10 [.agg ((ai p0).map .t)] h (fun _=>nZ) fun r1 h=>ah 2 12 h (fun h=>aa<|⟨_,_,_,h,lo []⟩) fun h=>ag false 2 15 [.i p1.aT] h (fun _=>cR) fun r2 h=>ah 3 18 h (fun h=>aa<|⟨_,_,_,h,lo []⟩) fun h=>ag false 3 22 [.agg ((ai p0).map .t)] h (fun _=>Df) fun r3 h=>ag false 0 23 [.i p1.aT,.i r3] h (fun _=>Ei) fun r4 h=>ah 3 26 h (fun h=>aa<|⟨_,_,_,h,lo []⟩) fun h=>ar 2 5 (aw .u8) p1.bh<|aa<|⟨_,_,_,h,lo []⟩
theorem Ne {u p0 p1 r} (h:vA u p0 p1=some r):ak Tryz.prog 145 [cO (ai p0),cO (cJ p1)] (V.i r) []:=by
 unfold vA at h
 refine b8 Tryz.f145 false ?_
 exact ae<|Wp.seq<|aK (jQ []) (bR [(2,.obj 2),(3,.obj 3),(5,.frz),(6,.frz),(7,.obj 3),(8,.frz),(9,.frz)]) kr kr<|ag false 1 6 [.agg ((ai p0).map .t)] h (fun _=>Df) fun r1 h=>ag false 2 9 [.i r1,.i p1.aT] h (fun _=>Ei) fun r2 h=>aa<|by cases h;exact Wp.ret aj
theorem RS {u p0 p1 r} (h:AK u p0 p1=some r):ak Tryz.prog 91 [cO (ai p0),cO (cJ p1)] (V.b r) []:=by
 unfold AK at h
 refine b8 Tryz.f91 false ?_
 exact ae<|aE<|ah 4 8 h (fun h=>ag false 2 11 [.agg ((ai p0).map .t),.agg [.i p1.aT,.s p1.bh]] h (fun _=>ui) fun r1 h=>ah 2 13 h (fun h=>ag false 2 16 [.agg ((ai p0).map .t),.agg [.i p1.aT,.s p1.bh]] h (fun _=>Ne) fun r2 h=>aa<|by cases h;exact Wp.ret aj) fun h=>aa<|by cases h;exact Wp.ret aj) fun h=>aa<|by cases h;exact Wp.ret aj
theorem PY {u p0 p1 p2 r} (h:uN u p0 p1 p2=some r):ak Tryz.prog 51 [cO (g9 p0),V.i p1,cO (ay p2)] (V.b r) []:=by
 unfold uN at h
 refine b8 Tryz.f51 false ?_
 refine ae<|Wp.seq<|nO (fun p1 x3 p0 p2=>vB u p1 x3 p0 p2=some r) (fun p1 x3 p0 p2=>⟨[(1,.i p1),(3,.obj 3 0),(5,.obj 5 0),(6,.b false),(19,.b x3)],[(3,[.t (.sl 1 (p0.cy.map (aw .i64)))]),(5,((ay p2).map .t))],[]⟩) (fun p1 x3 p0 p2 h=>?_) ?_
 ·refine al h (fun h=>ae<|by cases h;exact Wp.ret aj) fun h=>aC<|Wp.seq<|ae<|al h (fun h=>aE<|ah 4 26 h (fun h=>ah 5 31 h (fun h=>ag false 1 33 [.agg ((ay p2).map .t)] h (fun _=>Eg) fun r4 h=>ah 2 35 h (fun h=>ah 5 40 h (fun h=>ar 2 149 aq p2.aN<|ah 3 46 h (fun h=>aa<|by cases h;exact Wp.ret aj) fun h=>aa<|by cases h;exact Wp.ret aj) fun h=>aa<|by cases h;exact Wp.ret aj) fun h=>aa<|by cases h;exact Wp.ret aj) fun h=>aa<|by cases h;exact Wp.ret aj) fun h=>aa<|by cases h;exact Wp.ret aj) fun h=>aC<|Wp.seq<|nO (fun p1 x11 p0 p2=>cr u p1 x11 p0 p2=some r) (fun p1 x11 p0 p2=>⟨[(1,.i p1),(3,.obj 3 0),(5,.obj 5 0),(6,.b false),(93,.b x11)],[(3,[.t (.sl 1 (p0.cy.map (aw .i64)))]),(5,((ay p2).map .t))],[]⟩) (fun p1 x11 p0 p2 h=>?_) ?_
  ·refine al h (fun h=>ae<|by cases h;exact Wp.ret aj) fun h=>aC<|kC (fun p2=>qQ u p2=some r) (fun p2=>⟨[(5,.obj 5 0),(6,.b false)],[(5,((ay p2).map .t))],[]⟩) (fun p2 h=>Wp.seq<|ae<|Wp.block<|ae<|al h (fun h=>aL false 1 126 [.agg ((ay p2).map .t)] h (fun _=>Eg) fun r18 h=>by cases h;exact Wp.ret aj) fun h=>ae<|al h (fun h=>aE<|ah 5 133 h (fun h=>ag false 4 138 [.agg ((ai p2.av).map .t),.agg [.i p2.a7.aT,.s p2.a7.bh]] h (fun _=>ui) fun r19 h=>aa<|by cases h;exact Wp.ret aj) fun h=>aa<|by cases h;exact Wp.ret aj) fun h=>Wp.skip<|b6<|aO<|aE<|ag false 2 142 [.i p2.aJ,.i 2,.i 6] h (fun _=>bg) fun r20 h=>ah 1 143 h (fun h=>ag false 4 148 [.agg ((ai p2.av).map .t),.agg [.i p2.a7.aT,.s p2.a7.bh]] h (fun _=>RS) fun r21 h=>aa<|by cases h;exact Wp.ret aj) fun h=>aa<|by cases h;exact Wp.ret aj)<|ae<|Wp.block<|GA (fun ic p1 x13 p0 p2=>iD u ic p1 x13 p0 p2=some r) (fun p1 x13 p0 p2=>⟨[(1,.i p1),(3,.obj 3 0),(5,.obj 5 0),(6,.b false),(7,.i x13)],[(3,[.t (.sl 1 (p0.cy.map (aw .i64)))]),(5,((ay p2).map .t))],[]⟩) (fun ic p1 x13 p0 p2 h=>?_) h (lo []) (fun _ _ _ _  h=>nomatch h)
   rw [iD] at h
   exact Wp.seq<|aE<|ar 3 149 aq p2.aN<|aa<|al h (fun h=>aC<|Wp.seq<|Wp.block<|wF (fun p1 x13 x17 p0 p2=>oo u (fun z0 z1 z2 z3=>iD u ic z0 z1 z2 z3) p1 x13 x17 p0 p2=some r) (fun p1 x13 x17 p0 p2=>⟨[(1,.i p1),(3,.obj 3 0),(5,.obj 5 0),(6,.b false),(7,.i x13),(120,.b x17)],[(3,[.t (.sl 1 (p0.cy.map (aw .i64)))]),(5,((ay p2).map .t))],[]⟩) (fun p1 x13 x17 p0 p2 h=>al h (fun h=>ae<|by cases h;exact Wp.ret aj) fun h=>Wp.skip<|b6<|aO<|aV [] []<|aa<|⟨_,_,_,_,h,lo []⟩)<|aK (jQ []) (bR [(1,.frz),(3,.obj 3),(5,.obj 5),(7,.frz),(101,.obj 5),(102,.frz),(103,.frz),(104,.frz),(105,.frz),(106,.frz),(107,.frz),(108,.frz),(109,.frz),(110,.obj 5),(111,.frz),(112,.frz),(113,.frz),(114,.frz),(115,.frz),(116,.obj 3),(117,.frz),(118,.frz)]) kr kr<|aR 3 149 5 aq h fun y15 h _=>ah 5 109 h (fun h=>aa<|⟨_,_,_,_,_,h,lo []⟩) fun h=>aR 3 149 5 aq h fun y16 h _=>ar 4 3 (aw .i64) p0.cy<|aa<|⟨_,_,_,_,_,h,lo []⟩) fun h=>Wp.exit<|aZ<|aZ<|dj<|aO<|⟨_,h,lo []⟩
  exact aV [] []<|ah 3 53 h (fun h=>ah 5 58 h (fun h=>aa<|⟨_,_,_,_,h,lo []⟩) fun h=>ah 3 61 h (fun h=>ag false 4 66 [.agg [.t (.sl 1 (p0.cy.map (aw .i64)))],.i p2.bf,.i p1] h (fun _=>De) fun r5 h=>ah 4 70 h (fun h=>aa<|⟨_,_,_,_,h,lo []⟩) fun h=>ah 5 75 h (fun h=>aa<|⟨_,_,_,_,h,lo []⟩) fun h=>ah 5 80 h (fun h=>aa<|⟨_,_,_,_,h,lo []⟩) fun h=>ah 8 88 h (fun h=>aa<|⟨_,_,_,_,h,lo []⟩) fun h=>ag false 2 91 [.t (.sl 5 (p2.aN.map aq))] h (fun _=>wJ) fun r6 h=>aa<|⟨_,_,_,_,h,lo []⟩) fun h=>ah 14 75 h (fun h=>aa<|⟨_,_,_,_,h,lo []⟩) fun h=>ah 5 80 h (fun h=>aa<|⟨_,_,_,_,h,lo []⟩) fun h=>ah 8 88 h (fun h=>aa<|⟨_,_,_,_,h,lo []⟩) fun h=>ag false 2 91 [.t (.sl 5 (p2.aN.map aq))] h (fun _=>wJ) fun r7 h=>aa<|⟨_,_,_,_,h,lo []⟩) fun h=>ah 8 61 h (fun h=>ag false 4 66 [.agg [.t (.sl 1 (p0.cy.map (aw .i64)))],.i p2.bf,.i p1] h (fun _=>De) fun r8 h=>ah 4 70 h (fun h=>aa<|⟨_,_,_,_,h,lo []⟩) fun h=>ah 5 75 h (fun h=>aa<|⟨_,_,_,_,h,lo []⟩) fun h=>ah 5 80 h (fun h=>aa<|⟨_,_,_,_,h,lo []⟩) fun h=>ah 8 88 h (fun h=>aa<|⟨_,_,_,_,h,lo []⟩) fun h=>ag false 2 91 [.t (.sl 5 (p2.aN.map aq))] h (fun _=>wJ) fun r9 h=>aa<|⟨_,_,_,_,h,lo []⟩) fun h=>ah 14 75 h (fun h=>aa<|⟨_,_,_,_,h,lo []⟩) fun h=>ah 5 80 h (fun h=>aa<|⟨_,_,_,_,h,lo []⟩) fun h=>ah 8 88 h (fun h=>aa<|⟨_,_,_,_,h,lo []⟩) fun h=>ag false 2 91 [.t (.sl 5 (p2.aN.map aq))] h (fun _=>wJ) fun r10 h=>aa<|⟨_,_,_,_,h,lo []⟩
 exact aV [] []<|ag false 1 9 [.agg [.t (.sl 1 (p0.cy.map (aw .i64)))]] h (fun _=>E2) fun r1 h=>ah 2 11 h (fun h=>aa<|⟨_,_,_,_,h,lo []⟩) fun h=>ar 3 3 (aw .i64) p0.cy<|ag false 1 17 [.i p1,.i 0,.i (cu .i64 ((p0.cy.length:Int)) 1)] h (fun _=>bg) fun r2 h=>aa<|⟨_,_,_,_,h,lo []⟩
theorem Dg {u p0 r} (h:qa u p0=some r):ak Tryz.prog 92 [cO (fi p0)] (V.b r) []:=by
 unfold qa at h
 refine b8 Tryz.f92 false ?_
 exact ae<|aE<|ag false 2 5 [.i p0.aP,.i 0,.i 1000000] h (fun _=>bg) fun r1 h=>ah 1 6 h (fun h=>ag false 2 9 [.i p0.cL,.i 0,.i 1] h (fun _=>bg) fun r2 h=>ah 2 11 h (fun h=>ag false 2 14 [.i p0.aY,.i 0,.i 240] h (fun _=>bg) fun r3 h=>aa<|by cases h;exact Wp.ret aj) fun h=>aa<|by cases h;exact Wp.ret aj) fun h=>aa<|by cases h;exact Wp.ret aj
theorem wK {u p0 p1 r} (h:pc u p0 p1=some r):ak Tryz.prog 93 [cO (aB p0),V.i p1] (.one (.s r)) []:=by
 unfold pc at h
 refine b8 Tryz.f93 false ?_
 exact ae<|Wp.seq<|ae<|al h (fun h=>ae<|by cases h;exact Wp.ret aj) fun h=>aC<|ae<|by cases h;exact Wp.ret aj
theorem GB {u p0 r} (h:uo u p0=some r):ak Tryz.prog 94 [cO (aU p0)] (V.b r) []:=by
 unfold uo at h
 refine b8 Tryz.f94 false ?_
 exact ae<|ae<|Wp.seq<|ae<|al h (fun h=>aE<|ah 4 11 h (fun h=>ar 2 5 (aw .u8) p0.fB<|ah 3 17 h (fun h=>ag false 2 20 [.agg ((fi p0.fR).map .t)] h (fun _=>Dg) fun r1 h=>aa<|by cases h;exact Wp.ret aj) fun h=>aa<|by cases h;exact Wp.ret aj) fun h=>aa<|by cases h;exact Wp.ret aj) fun h=>aC<|aE<|ag false 2 24 [.i p0.dY,.i 0,.i 1] h (fun _=>bg) fun r2 h=>ah 1 25 h (fun h=>ag false 2 28 [.i p0.Cf,.i 0,.i 240] h (fun _=>bg) fun r3 h=>ah 2 30 h (fun h=>ar 2 5 (aw .u8) p0.fB<|ah 6 39 h (fun h=>aa<|by cases h;exact Wp.ret aj) fun h=>aa<|by cases h;exact Wp.ret aj) fun h=>aa<|by cases h;exact Wp.ret aj) fun h=>aa<|by cases h;exact Wp.ret aj
theorem A9 {u p0 r} (h:pd u p0=some r):ak Tryz.prog 52 [cO (aB p0)] (V.b r) []:=by
 unfold pd at h
 refine b8 Tryz.f52 false ?_
 refine ae<|Wp.seq<|pk (fun x3 p0=>mA u x3 p0=some r) (fun x3 p0=>⟨[(1,.obj 1 0),(2,.b false),(37,.b x3)],[(1,((aB p0).map .t))],[]⟩) (fun x3 p0 h=>?_) ?_
 ·refine al h (fun h=>ae<|by cases h;exact Wp.ret aj) fun h=>aC<|im (AL u=some r) ⟨[(2,.b false)],[],[]⟩ (fun h=>ae<|by cases h;exact Wp.ret aj)<|ae<|Wp.block<|yR (fun mn x5 p0=>mz u mn x5 p0=some r) (fun x5 p0=>⟨[(1,.obj 1 0),(2,.b false),(3,.i x5)],[(1,((aB p0).map .t))],[]⟩) (fun mn x5 p0 h=>?_) h (lo []) (fun _ _  h=>nomatch h)
  rw [mz] at h
  exact Wp.seq<|aE<|ar 3 155 aU p0.fP<|aa<|al h (fun h=>aC<|Wp.seq<|Wp.block<|aE<|aR 3 155 6 aU h fun y7 h _=>ag false 1 50 [.agg ((aU y7).map .t)] h (fun _=>GB) fun r8 h=>aa<|al h (fun h=>ae<|by cases h;exact Wp.ret aj) fun h=>Wp.skip<|b6<|aO<|aV [] []<|aa<|⟨_,_,h,lo []⟩) fun h=>Wp.exit<|aZ<|aZ<|dj<|aO<|⟨h,lo []⟩
 exact aK (jQ []) (bR [(1,.obj 1),(4,.obj 1),(5,.frz),(6,.frz),(7,.frz),(8,.frz),(9,.obj 1),(10,.frz),(11,.frz),(13,.frz),(14,.frz),(15,.obj 1),(16,.frz),(17,.frz),(19,.frz),(20,.frz),(21,.obj 1),(22,.obj 1),(23,.frz),(24,.frz),(25,.obj 1),(26,.obj 1),(27,.frz),(28,.frz),(29,.frz),(31,.frz),(32,.frz),(33,.obj 1),(34,.frz),(35,.frz)]) kr kr<|ar 2 5 (aw .u8) p0.fA<|ah 2 8 h (fun h=>aa<|⟨_,_,h,lo []⟩) fun h=>ar 2 5 (aw .u8) p0.fB<|ah 3 14 h (fun h=>aa<|⟨_,_,h,lo []⟩) fun h=>ag false 2 17 [.agg ((fi p0.fR).map .t)] h (fun _=>Dg) fun r1 h=>ah 3 20 h (fun h=>aa<|⟨_,_,h,lo []⟩) fun h=>ag false 7 28 [.agg ((aB p0).map .t),.i p0.fR.cL] h (fun _=>wK) fun r2 h=>ar 0 5 (aw .u8) r2<|ah 3 32 h (fun h=>aa<|⟨_,_,h,lo []⟩) fun h=>ar 2 155 aU p0.fP<|aa<|⟨_,_,h,lo []⟩
theorem Ej {u p0 r} (h:rJ u p0=some r):ak Tryz.prog 146 [cO (aB p0)] (.tup [V.i r.1,.one (.ow 5 1 (r.2.map (aw .u8)))]) []:=by
 unfold rJ at h
 refine b8 Tryz.f146 true ?_
 refine ae<|Wp.seq<|aL false 1 5 [.agg ((aB p0).map .t)] h (fun _=>A9) fun r1 h=>al h (fun h=>ae<|by cases h;exact Wp.ret aj) fun h=>aC<|Wp.seq<|aK (jQ []) (bR [(1,.obj 1),(8,.obj 1),(9,.obj 1),(10,.frz),(11,.own 11),(12,.frz),(13,.obj 1),(14,.obj 1),(15,.frz),(16,.frz),(17,.obj 1),(18,.obj 1),(19,.frz),(20,.frz),(21,.own 21)]) kr kr<|ag false 8 16 [.agg ((aB p0).map .t),.i p0.fR.cL] h (fun _=>wK) fun r2 h=>bc 3 kr ?_
 obtain ⟨_,e_3,h⟩:=bind_some h
 exact eS (e:=5) (ax:=.s r2) (alo:=none) (ahi:=(some (.i p0.fR.aY))) (aw .u8) r2 1 0 p0.fR.aY rfl kr kr kr kr kr kr kr kr kr kr kr (bj e_3)<|cg 0 21 5 1 720896 (aw .u8) h fun h=>aa<|by cases h;exact Wp.ret aj
theorem wL {u p0 p1 r} (h:oq u p0 p1=some r):ak Tryz.prog 147 [.one (.s p0),.one (.s p1)] (V.b r) []:=by
 unfold oq at h
 refine b8 Tryz.f147 false ?_
 exact ae<|aE<|bc 1 kr<|xU (y:=.s p0) (e:=5) p0 1 rfl kr kr kr kr kr kr kr<|bc 1 kr<|xU (y:=.s p1) (e:=5) p1 1 rfl kr kr kr kr kr kr kr<|aa<|by cases h;exact Wp.ret aj
theorem qr {u p0 p1 p2 r} (h:nS u p0 p1 p2=some r):ak Tryz.prog 96 [cO (aB p0),V.i p1,.one (.s p2)] (V.b r) []:=by
 unfold nS at h
 refine b8 Tryz.f96 false ?_
 exact ae<|aL false 1 11 [.agg ((aB p0).map .t)] h (fun _=>Ej) fun r1 h=>aE<|ah 4 17 h (fun h=>eX 2 20 [.own 721920,.s p2] h (fun _=>wL) fun r2 h=>aa<|by cases h;exact Wp.ret aj) fun h=>aa<|by cases h;exact Wp.ret aj
theorem Lf {u p0 p1 p2 p3 r} (h:s4 u p0 p1 p2 p3=some r):ak Tryz.prog 97 [cO (aB p0),.one (.s p1),V.i p2,.one (.s p3)] (V.b r) []:=by
 unfold s4 at h
 refine b8 Tryz.f97 false ?_
 exact ae<|aE<|ag false 2 11 [.agg ((aB p0).map .t),.i 0,.s p1] h (fun _=>qr) fun r1 h=>ah 1 12 h (fun h=>aa<|by cases h;exact Wp.ret aj) fun h=>ag false 3 16 [.agg ((aB p0).map .t),.i p2,.s p3] h (fun _=>qr) fun r2 h=>aa<|by cases h;exact Wp.ret aj
theorem xX {u p0 r} (h:qR u p0=some r):ak Tryz.prog 148 [cO (aB p0)] (V.i r) []:=by
 unfold qR at h
 refine b8 Tryz.f148 false ?_
 exact ae<|ae<|by cases h;exact Wp.ret aj
theorem Jf {u p0 r} (h:qS u p0=some r):ak Tryz.prog 234 [cO (aU p0)] (V.w [0,0,5,0,0,0] (aU r)) []:=by
 unfold qS at h
 refine b8 Tryz.f234 true ?_
 exact ae<|ae<|aE<|cg 3 8 5 1 327680 (aw .u8) h fun h=>aa<|ae<|by cases h;exact Wp.ret aj
theorem E5 {u p0 r} (h:uO u p0=some r):ak Tryz.prog 194 [cO (aB p0)] (V.w [5,5,0,0,0,155] (aB r)) []:=by
 unfold uO at h
 refine b8 Tryz.f194 true ?_
 refine ae<|Wp.seq<|aK (jQ []) (bR [(1,.obj 1),(3,.obj 3),(6,.own 6),(7,.obj 1),(8,.frz),(9,.own 9),(10,.own 10),(11,.obj 1),(12,.frz),(13,.own 13),(14,.obj 1),(15,.frz),(16,.own 16)]) kr kr<|cg 3 9 5 1 393216 (aw .u8) h fun h=>cg 3 13 5 1 655360 (aw .u8) h fun h=>aa<|pk (fun p0 x11=>AM u p0 x11=some r) (fun p0 x11=>⟨[(2,.obj 2 0),(3,.obj 3 0)],[(2,[.nil,.nil,.i 0,.i 0,.i 0,.nil]),(3,[.own 197120,.own 197121,.i p0.fR.aP,.i p0.fR.cL,.i p0.fR.aY,.own 197125])],[(197120,.live 5 1 (((([]:List Int))++p0.fA).map (aw .u8))),(197121,.live 5 1 (((([]:List Int))++p0.fB).map (aw .u8))),(197125,.live 155 6 (x11.map aU))]⟩) (fun p0 x11 h=>ae<|by cases h;exact Wp.ret aj)<|ae<|Wp.block<|ef (fun mx x5 p0 x6=>ot u mx x5 p0 x6=some r) (fun x5 p0 x6=>⟨[(1,.obj 1 0),(2,.obj 2 0),(3,.obj 3 0),(4,.i x5)],[(1,((aB p0).map .t)),(2,[.nil,.nil,.i 0,.i 0,.i 0,.nil]),(3,[.own 197120,.own 197121,.i p0.fR.aP,.i p0.fR.cL,.i p0.fR.aY,.own 197125])],[(197120,.live 5 1 (((([]:List Int))++p0.fA).map (aw .u8))),(197121,.live 5 1 (((([]:List Int))++p0.fB).map (aw .u8))),(197125,.live 155 6 (x6.map aU))]⟩) (fun mx x5 p0 x6 h=>?_) h (lo [(197120,589824),(197121,851968),(197125,1048576)]) (fun _ _ _  h=>nomatch h)
 rw [ot] at h
 exact Wp.seq<|aE<|ar 3 155 aU p0.fP<|aa<|al h (fun h=>aC<|Wp.seq<|Wp.block<|aE<|aR 3 155 6 aU h fun y9 h _=>ag false 1 30 [.agg ((aU y9).map .t)] h (fun _=>Jf) fun r10 h=>aa<|aV [] []<|cg (ys:=[r10]) 4 35 155 6 197125 aU h fun h=>ab.all kr<|b6<|aO<|aV [] []<|aa<|⟨_,_,_,h,lo [(197125,2293760)]⟩) fun h=>Wp.exit<|aZ<|aZ<|dj<|aO<|⟨_,_,h,lo []⟩
theorem GC {u p0 p1 p2 r} (h:xq u p0 p1 p2=some r):ak Tryz.prog 235 [.one (.s p0),V.i p1,.one (.s p2)] (.one (.ow 5 1 (r.map (aw .u8)))) []:=by
 unfold xq at h
 refine b8 Tryz.f235 true ?_
 refine ae<|aE<|cg 2 11 5 1 589824 (aw .u8) h fun h=>aa<|lx (fun p1 p2 x5=>xQ u p1 p2 x5=some r) (fun p1 p2 x5=>⟨[(1,.i p1),(2,.s p2),(6,.nil),(7,.own 458753)],[],[(458753,.live 5 1 (x5.map (aw .u8)))]⟩) (fun p1 p2 x5 h=>?_) ?_
 ·refine kC (fun x14=>xP u x14=some r) (fun x14=>⟨[(6,.nil),(7,.own 458753)],[],[(458753,.live 5 1 (x14.map (aw .u8)))]⟩) (fun x14 h=>ae<|by cases h;exact Wp.ret aj)<|ae<|Wp.block<|GA (fun nC p1 p2 x8 x9=>qb u nC p1 p2 x8 x9=some r) (fun p1 p2 x8 x9=>⟨[(1,.i p1),(2,.s p2),(6,.nil),(7,.own 458753),(8,.i x9)],[],[(458753,.live 5 1 (x8.map (aw .u8)))]⟩) (fun nC p1 p2 x8 x9 h=>?_) h (lo []) (fun _ _ _ _  h=>nomatch h)
  rw [qb] at h
  exact Wp.seq<|aE<|ar 2 5 (aw .u8) p2<|aa<|al h (fun h=>aC<|Wp.seq<|Wp.block<|aV [] []<|aR 6 5 1 (aw .u8) h fun y12 h _=>cI 1 5 1 458753 5 (aw .u8) h fun y13 h e_y13=>gm (e:=5) (sz:=1) (m:=1) (aw .u8) x8 458753 (Int.toNat (aX .i64 p1 x9)) 0 y12 (.t (.int .u8 y12)) [.int .u8 y12] rfl kr kr kr kr kr kr kr kr ((cq e_y13).2) kr kr<|ab.all kr<|b6<|aO<|aV [] []<|aa<|⟨_,_,_,_,h,lo []⟩) fun h=>Wp.exit<|aZ<|aZ<|dj<|aO<|⟨_,h,lo []⟩
 refine Wp.block<|ef (fun nD p1 p2 x3=>s5 u nD p1 p2 x3=some r) (fun p1 p2 x3=>⟨[(1,.i p1),(2,.s p2),(6,.nil),(7,.own 458753)],[],[(458753,.live 5 1 (x3.map (aw .u8)))]⟩) (fun nD p1 p2 x3 h=>?_) h (lo [(458753,720896)]) (fun _ _ _  h=>nomatch h)
 rw [s5] at h
 exact Wp.seq<|aE<|ar 1 5 (aw .u8) x3<|ar 2 5 (aw .u8) p2<|aa<|al h (fun h=>aC<|Wp.block<|aV [] []<|cg 2 21 5 1 458753 (aw .u8) h fun h=>ab.all kr<|b6<|aO<|⟨_,_,_,h,lo [(458753,1376256)]⟩) fun h=>Wp.exit<|aZ<|aZ<|dj<|aO<|⟨_,_,_,h,lo []⟩
theorem PZ {u p0 p1 r} (h:qU u p0 p1=some r):ak Tryz.prog 195 [cO (aB p0),cO (aU p1)] (V.w [5,5,0,0,0,155] (aB r)) []:=by
 unfold qU at h
 refine b8 Tryz.f195 true ?_
 exact ae<|aL false 1 7 [.agg ((aB p0).map .t)] h (fun _=>E5) fun r1 h=>Jb (fun x5 x6 x7 x8 x9 r1=>qT u x5 x6 x7 x8 x9 r1=some r) (fun x5 x6 x7 x8 x9 r1=>⟨[(4,.obj 4 0),(5,.obj 5 0)],[(4,[.nil,.nil,.i 0,.i 0,.i 0,.nil]),(5,[.own 328192,.own 328193,.i x7,.i x8,.i x9,.own 328197])],[(328192,.live 5 1 (x5.map (aw .u8))),(328193,.live 5 1 (x6.map (aw .u8))),(328197,.live 155 6 (r1.fP.map aU))]⟩) (fun x5 x6 x7 x8 x9 r1 h=>ae<|by cases h;exact Wp.ret aj)<|Wp.block<|aL false 1 13 [.agg ((aU p1).map .t)] h (fun _=>GB) fun r2 h=>al h (fun h=>Wp.skip<|b6<|aO<|⟨_,_,_,_,_,_,h,lo [(328192,458752),(328193,458753),(328197,458757)]⟩) fun h=>ae<|al h (fun h=>aV [] []<|ag false 6 25 [.s p0.fA,.i p1.Cf,.s p1.fB] h (fun _=>GC) fun r3 h=>ab.all kr<|b6<|aO<|⟨_,_,_,_,_,_,h,lo [(328192,1638400),(328193,458753),(328197,458757)]⟩) fun h=>ae<|al h (fun h=>aV [] []<|ag false 6 37 [.s p0.fB,.i p1.Cf,.s p1.fB] h (fun _=>GC) fun r4 h=>ab.all kr<|b6<|aO<|⟨_,_,_,_,_,_,h,lo [(328192,458752),(328193,2424832),(328197,458757)]⟩) fun h=>aV [] []<|ab.all kr<|b6<|aO<|⟨_,_,_,_,_,_,h,lo [(328192,458752),(328193,458753),(328197,458757)]⟩
theorem Ty {u p0 r} (h:CO u p0=some r):ak Tryz.prog 149 [cO (aB p0)] (V.w [5,5,0,0,0,155] (aB r)) []:=by
 unfold CO at h
 refine b8 Tryz.f149 true ?_
 refine ae<|aL false 1 6 [.agg ((aB p0).map .t)] h (fun _=>E5) fun r1 h=>Wp.seq<|aL false 1 8 [.agg ((aB p0).map .t)] h (fun _=>A9) fun r2 h=>al h (fun h=>ae<|by cases h;exact Wp.ret aj) fun h=>aC<|Jb (fun x26 x27 x28 x29 x30 x31=>DE u x26 x27 x28 x29 x30 x31=some r) (fun x26 x27 x28 x29 x30 x31=>⟨[(2,.obj 2 0),(3,.obj 3 0)],[(2,[.nil,.nil,.i 0,.i 0,.i 0,.nil]),(3,[.own 197120,.own 197121,.i x28,.i x29,.i x30,.own 197125])],[(197120,.live 5 1 (x26.map (aw .u8))),(197121,.live 5 1 (x27.map (aw .u8))),(197125,.live 155 6 (x31.map aU))]⟩) (fun x26 x27 x28 x29 x30 x31 h=>ae<|ae<|by cases h;exact Wp.ret aj)<|ae<|Wp.block<|PD (fun o6 x10 p0 x11 x12 x13 x14 x15 x16=>rK u o6 x10 p0 x11 x12 x13 x14 x15 x16=some r) (fun x10 p0 x11 x12 x13 x14 x15 x16=>⟨[(1,.obj 1 0),(2,.obj 2 0),(3,.obj 3 0),(4,.i x10)],[(1,((aB p0).map .t)),(2,[.nil,.nil,.i 0,.i 0,.i 0,.nil]),(3,[.own 197120,.own 197121,.i x13,.i x14,.i x15,.own 197125])],[(197120,.live 5 1 (x11.map (aw .u8))),(197121,.live 5 1 (x12.map (aw .u8))),(197125,.live 155 6 (x16.map aU))]⟩) (fun o6 x10 p0 x11 x12 x13 x14 x15 x16 h=>?_) h (lo [(197120,393216),(197121,393217),(197125,393221)]) (fun _ _ _ _ _ _ _ _  h=>nomatch h)
 rw [rK] at h
 exact Wp.seq<|aE<|ar 3 155 aU p0.fP<|aa<|al h (fun h=>aC<|Wp.seq<|Wp.block<|Wp.le (Le.trans (mV 3 0 197120 5 1 [.own 197120,.own 197121,.i x13,.i x14,.i x15,.own 197125] (x11.map (aw .u8)) kr kr kr) (Le.trans (mV 3 1 197121 5 1 [.s x11,.own 197121,.i x13,.i x14,.i x15,.own 197125] (x12.map (aw .u8)) kr kr kr) (mV 3 5 197125 155 6 [.s x11,.s x12,.i x13,.i x14,.i x15,.own 197125] (x16.map aU) kr kr kr)))<|aK (jQ []) (bR [(1,.obj 1),(3,.obj 3),(4,.frz),(18,.frz),(19,.obj 1),(20,.frz),(21,.frz),(22,.frz),(23,.frz),(24,.own 24)]) kr kr<|aR 4 155 6 aU h fun y24 h _=>ag false 1 24 [.agg [.s x11,.s x12,.i x13,.i x14,.i x15,.t (.sl 6 (x16.map aU))],.agg ((aU y24).map .t)] h (fun _=>PZ) fun r25 h=>ab.all kr<|b6<|aO<|aV [] []<|aa<|⟨_,_,_,_,_,_,_,_,h,lo [(197120,1572864),(197121,1572865),(197125,1572869)]⟩) fun h=>Wp.exit<|aZ<|aZ<|dj<|aO<|⟨_,_,_,_,_,_,h,lo []⟩
theorem wM {u p0 p1 r} (h:mB u p0 p1=some r):ak Tryz.prog 150 [.one (.s p0),.one (.s p1)] (V.b r) []:=by
 unfold mB at h
 refine b8 Tryz.f150 false ?_
 refine ae<|aE<|ar 1 5 (aw .u8) p0<|ar 1 5 (aw .u8) p1<|ah 2 10 h (fun h=>?_) (fun h=>?_)
 ·refine ar 2 5 (aw .u8) p1 ?_
  obtain ⟨_,e_1,h⟩:=bind_some h
  exact eS (e:=5) (ax:=.s p0) (alo:=none) (ahi:=(some (.i ((p1.length:Int))))) (aw .u8) p0 1 0 ((p1.length:Int)) rfl kr kr kr kr kr kr kr kr kr kr kr (bj e_1)<|ag false 1 16 [.t (.sl 1 (((p0.take (Int.toNat ((p1.length:Int)))).drop (Int.toNat 0)).map (aw .u8))),.s p1] h (fun _=>wL) fun r2 h=>aa<|by cases h;exact Wp.ret aj
 exact aa<|by cases h;exact Wp.ret aj
theorem Jg {u p0 p1 p2 p3 r} (h:qV u p0 p1 p2 p3=some r):ak Tryz.prog 98 [cO (aB p0),cO (ai p1),cO (cJ p2),V.i p3] (V.b r) []:=by
 unfold qV at h
 refine b8 Tryz.f98 false ?_
 refine ae<|Wp.seq<|aK (jQ []) (bR [(4,.obj 4),(13,.frz),(14,.frz),(15,.frz),(16,.frz)]) kr kr<|ag false 2 15 [.agg ((aB p0).map .t)] h (fun _=>xX) fun r1 h=>ag false 0 16 [.agg ((aB p0).map .t),.i r1] h (fun _=>wK) fun r2 h=>aa<|Wp.seq<|ae<|Wp.block<|ae<|al h (fun h=>?_) (fun h=>?_)
 ·refine pk (fun p0 p2=>qA u p0 p2=some r) (fun p0 p2=>⟨[(4,.obj 4 0),(6,.obj 6 0),(8,.b false)],[(4,((aB p0).map .t)),(6,[.i p2.aT,.s p2.bh])],[]⟩) (fun p0 p2 h=>aL false 1 37 [.agg ((aB p0).map .t)] h (fun _=>Ty) fun r8 h=>Wp.seq<|Wp.le (Le.trans (mV 11 0 2424832 5 1 [.own 2424832,.own 2424833,.i r8.fR.aP,.i r8.fR.cL,.i r8.fR.aY,.own 2424837] (r8.fA.map (aw .u8)) kr kr kr) (Le.trans (mV 11 1 2424833 5 1 [.s r8.fA,.own 2424833,.i r8.fR.aP,.i r8.fR.cL,.i r8.fR.aY,.own 2424837] (r8.fB.map (aw .u8)) kr kr kr) (mV 11 5 2424837 155 6 [.s r8.fA,.s r8.fB,.i r8.fR.aP,.i r8.fR.cL,.i r8.fR.aY,.own 2424837] (r8.fP.map aU) kr kr kr)))<|aK (jQ []) (bR [(4,.obj 4),(6,.obj 6),(11,.obj 11),(38,.frz),(39,.frz),(40,.frz),(41,.frz),(42,.obj 6),(43,.frz),(44,.frz)]) kr kr<|ag false 2 40 [.agg ((aB p0).map .t)] h (fun _=>xX) fun r9 h=>ag false 0 41 [.agg ((aB r8).map .t),.i r9] h (fun _=>wK) fun r10 h=>ag false 2 44 [.s r10,.s p2.bh] h (fun _=>wM) fun r11 h=>aa<|by cases h;exact Wp.ret aj)<|ae<|Wp.block<|ef (fun iY x4 p0 p2=>iE u iY x4 p0 p2=some r) (fun x4 p0 p2=>⟨[(4,.obj 4 0),(6,.obj 6 0),(8,.b false),(10,.i x4)],[(4,((aB p0).map .t)),(6,[.i p2.aT,.s p2.bh])],[]⟩) (fun iY x4 p0 p2 h=>?_) h (lo []) (fun _ _ _  h=>nomatch h)
  rw [iE] at h
  exact Wp.seq<|aE<|ar 3 155 aU p0.fP<|aa<|al h (fun h=>aC<|Wp.seq<|Wp.block<|Wp.seq<|aK (jQ []) (bR [(4,.obj 4),(10,.frz),(27,.obj 4),(28,.frz),(29,.frz),(30,.frz),(31,.frz),(32,.frz),(33,.frz),(34,.frz)]) kr kr<|aR 3 155 6 aU h fun y6 h _=>ag false 3 34 [.agg ((aB p0).map .t)] h (fun _=>xX) fun r7 h=>aa<|al h (fun h=>ae<|by cases h;exact Wp.ret aj) fun h=>Wp.skip<|b6<|aO<|aV [] []<|aa<|⟨_,_,_,h,lo []⟩) fun h=>Wp.exit<|aZ<|aZ<|dj<|aO<|⟨_,_,h,lo []⟩
 exact ae<|al h (fun h=>aE<|ar 2 155 aU p0.fP<|ah 2 51 h (fun h=>ag false 3 55 [.s r2,.s p2.bh] h (fun _=>wM) fun r8 h=>aa<|by cases h;exact Wp.ret aj) fun h=>aa<|by cases h;exact Wp.ret aj) fun h=>ae<|al h (fun h=>Wp.seq<|aK (jQ []) (bR [(4,.obj 4),(5,.obj 5),(12,.obj 12),(59,.obj 5),(60,.frz),(61,.frz),(62,.frz),(63,.obj 5),(64,.frz),(65,.frz)]) kr kr<|ag false 3 62 [.agg ((aB p0).map .t)] h (fun _=>xX) fun r9 h=>aa<|Wp.seq<|aK (jQ []) (bR [(4,.obj 4),(6,.obj 6),(9,.frz),(12,.obj 12),(66,.obj 4),(67,.frz),(68,.frz),(69,.frz),(70,.frz),(71,.obj 4),(72,.frz),(73,.frz),(74,.frz),(75,.frz),(77,.frz),(78,.frz),(79,.obj 4),(80,.frz),(81,.frz),(82,.frz),(83,.frz),(84,.frz),(86,.frz),(87,.frz),(88,.frz),(89,.obj 6),(90,.frz),(92,.frz)]) kr kr<|ar 2 155 aU p0.fP<|ah 2 70 h (fun h=>aR 2 155 6 aU h fun y10 h _=>ah 5 78 h (fun h=>aR 2 155 6 aU h fun y11 h _=>ah 6 87 h (fun h=>ag false 3 91 [.s r2,.s p2.bh] h (fun _=>wM) fun r12 h=>aa<|by cases h;exact Wp.ret aj) fun h=>aa<|by cases h;exact Wp.ret aj) fun h=>aa<|by cases h;exact Wp.ret aj) fun h=>aa<|by cases h;exact Wp.ret aj) fun h=>Wp.skip<|b6<|aO<|ae<|by cases h;exact Wp.ret aj
theorem Ek {u p0 p1 r} (h:iF u p0 p1=some r):ak Tryz.prog 54 [cO (bN p0),V.i p1] (V.b r) []:=by
 unfold iF at h
 refine b8 Tryz.f54 false ?_
 exact ae<|aE<|aR 3 111 12 ay h fun y1 h _=>aa<|aE<|aR 3 116 6 aB h fun y2 h _=>aa<|Wp.seq<|ae<|al h (fun h=>Wp.seq<|aK (jQ []) (bR [(2,.obj 2),(5,.obj 5),(6,.obj 6),(19,.obj 5),(20,.frz),(21,.frz),(22,.frz),(23,.obj 2),(24,.frz),(25,.frz),(26,.frz),(27,.frz),(29,.frz),(30,.frz),(31,.obj 6),(32,.frz),(33,.frz),(35,.frz)]) kr kr<|ah 3 21 h (fun h=>aR 3 121 1 bd h fun y3 h _=>ag false 2 28 [.agg ((aB y2).map .t),.i 0,.s y3.fB] h (fun _=>qr) fun r4 h=>ah 2 30 h (fun h=>ar 2 155 aU y2.fP<|aa<|by cases h;exact Wp.ret aj) fun h=>aa<|by cases h;exact Wp.ret aj) fun h=>aa<|by cases h;exact Wp.ret aj) fun h=>aC<|Wp.seq<|Wp.seq<|aK (jQ []) (bR [(1,.frz),(2,.obj 2),(6,.obj 6),(36,.frz),(37,.obj 2),(38,.frz),(39,.frz),(40,.frz),(41,.frz),(42,.frz),(43,.obj 2),(44,.frz),(45,.frz)]) kr kr<|aR 4 121 1 bd h fun y5 h _=>ag false 4 45 [.agg ((aB y2).map .t),.s y5.fB,.i 1,.s p0.jh] h (fun _=>Lf) fun r6 h=>aa<|al h (fun h=>ae<|by cases h;exact Wp.ret aj) fun h=>aC<|Wp.seq<|ae<|Wp.block<|ae<|al h (fun h=>aE<|ar 2 155 aU y2.fP<|aa<|by cases h;exact Wp.ret aj) fun h=>ae<|al h (fun h=>Wp.seq<|aK (jQ []) (bR [(1,.frz),(2,.obj 2),(6,.obj 6),(57,.obj 6),(58,.frz),(59,.frz),(60,.frz),(61,.frz),(62,.frz),(63,.obj 2),(64,.frz),(65,.frz),(66,.frz),(67,.frz),(68,.frz),(70,.frz)]) kr kr<|ar 2 155 aU y2.fP<|ah 2 61 h (fun h=>aR 4 121 1 bd h fun y7 h _=>ag false 2 69 [.agg ((aB y2).map .t),.i 0,.s y7.fB] h (fun _=>qr) fun r8 h=>aa<|by cases h;exact Wp.ret aj) fun h=>aa<|by cases h;exact Wp.ret aj) fun h=>ae<|al h (fun h=>aE<|ar 2 155 aU y2.fP<|ah 2 77 h (fun h=>ag false 3 81 [.agg ((aB y2).map .t),.i 1,.s p0.jh] h (fun _=>qr) fun r9 h=>aa<|by cases h;exact Wp.ret aj) fun h=>aa<|by cases h;exact Wp.ret aj) fun h=>Wp.skip<|b6<|aO<|Wp.seq<|aK (jQ []) (bR [(1,.frz),(2,.obj 2),(5,.obj 5),(6,.obj 6),(83,.frz),(84,.obj 2),(85,.frz),(86,.frz),(87,.frz),(88,.frz),(89,.frz),(90,.frz),(91,.frz),(92,.frz),(93,.obj 5),(94,.frz),(95,.obj 5),(96,.frz),(97,.obj 5),(98,.frz),(100,.frz)]) kr kr<|aR 4 121 1 bd h fun y10 h _=>ag false 2 90 [.agg ((aB y2).map .t),.i 0,.s y10.fB] h (fun _=>qr) fun r11 h=>ah 1 91 h (fun h=>ag false 7 99 [.agg ((aB y2).map .t),.agg ((ai y1.av).map .t),.agg [.i y1.a7.aT,.s y1.a7.bh],.i y1.aJ] h (fun _=>Jg) fun r12 h=>aa<|pj ⟨[(4,.b r12)],[],[]⟩<|by cases h;exact Wp.ret aj) fun h=>aa<|by cases h;exact Wp.ret aj
theorem Nf {u p0 r} (h:vC u p0=some r):ak Tryz.prog 19 [cO (bN p0)] (V.b r) []:=by
 unfold vC at h
 refine b8 Tryz.f19 false ?_
 refine ae<|aE<|ar 3 3 (aw .i64) p0.fT.cy<|aa<|Wp.seq<|pk (fun p0 x5=>d4 u p0 x5=some r) (fun p0 x5=>⟨[(1,.obj 1 0),(2,.b false),(3,.i ((p0.fT.cy.length:Int))),(68,.b x5)],[(1,((bN p0).map .t))],[]⟩) (fun p0 x5 h=>?_) ?_
 ·refine al h (fun h=>ae<|by cases h;exact Wp.ret aj) fun h=>aC<|aL false 1 70 [.agg ((bN p0).map .t)] h (fun _=>RR) fun r6 h=>kC (fun p0=>pH u p0=some r) (fun p0=>⟨[(1,.obj 1 0),(2,.b false),(3,.i ((p0.fT.cy.length:Int)))],[(1,((bN p0).map .t))],[]⟩) (fun p0 h=>?_) ?_
  ·refine im (zj u=some r) ⟨[(2,.b false)],[],[]⟩ (fun h=>ae<|by cases h;exact Wp.ret aj)<|ae<|Wp.block<|yR (fun gy p0 x21=>i8 u gy p0 x21=some r) (fun p0 x21=>⟨[(1,.obj 1 0),(2,.b false),(3,.i ((p0.fT.cy.length:Int))),(6,.i x21)],[(1,((bN p0).map .t))],[]⟩) (fun gy p0 x21 h=>?_) h (lo []) (fun _ _  h=>nomatch h)
   rw [i8] at h
   exact Wp.seq<|aE<|ar 3 118 aI p0.eo<|aa<|al h (fun h=>aC<|Wp.seq<|Wp.block<|lx (fun p0 x21 x27=>na u (fun z0 z1=>i8 u gy z0 z1) p0 x21 x27=some r) (fun p0 x21 x27=>⟨[(1,.obj 1 0),(2,.b false),(3,.i ((p0.fT.cy.length:Int))),(6,.i x21),(149,.b x27)],[(1,((bN p0).map .t))],[]⟩) (fun p0 x21 x27 h=>al h (fun h=>ae<|by cases h;exact Wp.ret aj) fun h=>Wp.skip<|b6<|aO<|aV [] []<|aa<|⟨_,_,h,lo []⟩)<|aV [] []<|aR 3 118 3 aI h fun y23 h _=>ag false 4 136 [.i y23.du,.i 0,.i (cu .i64 ((p0.fT.cy.length:Int)) 1)] h (fun _=>bg) fun r24 h=>ah 2 138 h (fun h=>aa<|⟨_,_,_,h,lo []⟩) fun h=>aR 3 118 3 aI h fun y25 h _=>ag false 4 147 [.i y25.GU,.i 0,.i (cu .i64 ((p0.fT.cy.length:Int)) 1)] h (fun _=>bg) fun r26 h=>aa<|⟨_,_,_,h,lo []⟩) fun h=>Wp.exit<|aZ<|aZ<|dj<|aO<|⟨h,lo []⟩
  refine ae<|Wp.block<|ef (fun dR p0 x8 r6=>d3 u dR p0 x8 r6=some r) (fun p0 x8 r6=>⟨[(1,.obj 1 0),(2,.b false),(3,.i ((p0.fT.cy.length:Int))),(4,.obj 4 0),(5,.i x8)],[(1,((bN p0).map .t)),(4,((ai r6).map .t))],[]⟩) (fun dR p0 x8 r6 h=>?_) h (Le.trans (mV 4 3 4587523 176 2 [.i r6.aP,.i r6.aS,.i r6.aY,.own 4587523] (r6.aD.map aH) kr kr kr) (lo [])) (fun _ _ _  h=>nomatch h)
  rw [d3] at h
  exact Wp.seq<|ae<|al h (fun h=>aC<|Wp.seq<|Wp.block<|nO (fun p0 x8 x19 r6=>d2 u (fun z0 z1 z2=>d3 u dR z0 z1 z2) p0 x8 x19 r6=some r) (fun p0 x8 x19 r6=>⟨[(1,.obj 1 0),(2,.b false),(3,.i ((p0.fT.cy.length:Int))),(4,.obj 4 0),(5,.i x8),(120,.b x19)],[(1,((bN p0).map .t)),(4,((ai r6).map .t))],[]⟩) (fun p0 x8 x19 r6 h=>al h (fun h=>ae<|by cases h;exact Wp.ret aj) fun h=>Wp.skip<|b6<|aO<|aV [] []<|aa<|⟨_,_,_,h,lo []⟩)<|aK (jQ []) (bR [(1,.obj 1),(4,.obj 4),(5,.frz),(76,.obj 1),(77,.frz),(78,.frz),(79,.obj 1),(80,.frz),(81,.frz),(82,.frz),(83,.frz),(84,.frz),(85,.frz),(86,.frz),(87,.obj 1),(88,.frz),(89,.frz),(90,.frz),(91,.frz),(92,.frz),(94,.frz),(95,.frz),(96,.obj 1),(97,.frz),(98,.frz),(99,.frz),(100,.frz),(101,.frz),(102,.frz),(103,.frz),(104,.obj 1),(105,.frz),(106,.frz),(107,.frz),(108,.frz),(109,.frz),(110,.frz),(111,.frz),(114,.frz),(115,.frz),(116,.frz),(117,.frz),(118,.frz)]) kr kr<|aR 6 111 12 ay h fun y10 h _=>ag false 1 84 [.agg [.t (.sl 1 (p0.fT.cy.map (aw .i64)))],.i x8,.agg ((ay y10).map .t)] h (fun _=>PY) fun r11 h=>ah 2 86 h (fun h=>aa<|⟨_,_,_,_,h,lo []⟩) fun h=>aR 3 116 6 aB h fun y12 h _=>ag false 1 92 [.agg ((aB y12).map .t)] h (fun _=>A9) fun r13 h=>ah 3 95 h (fun h=>aa<|⟨_,_,_,_,h,lo []⟩) fun h=>aR 3 111 12 ay h fun y14 h _=>ah 4 103 h (fun h=>aR 3 111 12 ay h fun y15 h _=>ag false 3 111 [.agg ((ai y15.av).map .t),.agg ((ai r6).map .t)] h (fun _=>pR) fun r16 h=>ah 4 115 h (fun h=>aa<|⟨_,_,_,_,h,lo []⟩) fun h=>ag false 2 118 [.agg ((bN p0).map .t),.i x8] h (fun _=>Ek) fun r17 h=>aa<|⟨_,_,_,_,h,lo []⟩) fun h=>ag false 14 118 [.agg ((bN p0).map .t),.i x8] h (fun _=>Ek) fun r18 h=>aa<|⟨_,_,_,_,h,lo []⟩) fun h=>Wp.exit<|aZ<|aZ<|dj<|aO<|⟨_,h,lo []⟩
 exact aV [] []<|ag false 2 13 [.agg ((pE p0.fC).map .t)] h (fun _=>PV) fun r1 h=>ah 2 15 h (fun h=>aa<|⟨_,_,h,lo []⟩) fun h=>ag false 2 18 [.agg [.t (.sl 1 (p0.fT.cy.map (aw .i64)))]] h (fun _=>E2) fun r2 h=>ah 3 21 h (fun h=>aa<|⟨_,_,h,lo []⟩) fun h=>ar 5 5 (aw .u8) p0.jh<|ag false 0 28 [.i p0.fC.aS,.i ((p0.jh.length:Int))] h (fun _=>wG) fun r3 h=>ah 3 31 h (fun h=>aa<|⟨_,_,h,lo []⟩) fun h=>ag false 3 35 [.t (.sl 1 (p0.fZ.map bd)),.i ((p0.fT.cy.length:Int))] h (fun _=>Na) fun r4 h=>ah 3 38 h (fun h=>aa<|⟨_,_,h,lo []⟩) fun h=>ar 2 111 ay p0.fN<|ah 4 45 h (fun h=>aa<|⟨_,_,h,lo []⟩) fun h=>ar 2 116 aB p0.fD<|ah 4 52 h (fun h=>aa<|⟨_,_,h,lo []⟩) fun h=>ar 2 118 aI p0.eo<|ah 3 58 h (fun h=>aa<|⟨_,_,h,lo []⟩) fun h=>ar 2 127 cp p0.pX<|ah 3 64 h (fun h=>aa<|⟨_,_,h,lo []⟩) fun h=>aa<|⟨_,_,h,lo []⟩
theorem E6 {u p0 r} (h:uP u p0=some r):ak Tryz.prog 196 [cO (ai p0)] (V.w [0,0,0,176] (ai r)) []:=by
 unfold uP at h
 refine b8 Tryz.f196 true ?_
 exact ae<|ae<|aE<|cg 3 8 176 2 327680 aH h fun h=>aa<|ae<|by cases h;exact Wp.ret aj
theorem E7 {u p0 r} (h:uQ u p0=some r):ak Tryz.prog 197 [cO (cJ p0)] (V.w [0,5] (cJ r)) []:=by
 unfold uQ at h
 refine b8 Tryz.f197 true ?_
 exact ae<|Wp.seq<|aK (jQ []) (bR [(1,.obj 1),(2,.obj 2),(3,.obj 1),(4,.frz),(5,.own 5),(6,.obj 1),(7,.frz),(8,.own 8),(9,.own 8)]) kr kr<|cg 5 8 5 1 327680 (aw .u8) h fun h=>aa<|by cases h;exact Wp.ret aj
theorem gS {u p0 r} (h:fy u p0=some r):ak Tryz.prog 151 [cO (ay p0)] (V.w [0,0,0,0,0,0,176,0,5,0,149,0] (ay r)) []:=by
 unfold fy at h
 refine b8 Tryz.f151 true ?_
 exact ae<|ae<|aL false 2 7 [.agg ((ai p0.av).map .t)] h (fun _=>E6) fun r1 h=>aL false 2 11 [.agg [.i p0.a7.aT,.s p0.a7.bh]] h (fun _=>E7) fun r2 h=>aE<|cg 3 16 149 5 851968 aq h fun h=>aa<|ae<|by cases h;exact Wp.ret aj
theorem iO {u p0 p1 r} (h:ga u p0 p1=some r):ak Tryz.prog 198 [.one (.s p0),V.i p1] (.tup [V.i r.1,V.i r.2.1,V.b r.2.2]) []:=by
 unfold ga at h
 refine b8 Tryz.f198 false ?_
 refine ae<|ae<|im (vD u=some r) ⟨[(4,.i 0),(5,.i 0),(6,.b false)],[],[]⟩ (fun h=>ae<|by cases h;exact Wp.ret aj)<|ae<|Wp.block<|GA (fun fJ p0 p1 x3 x4=>dE u fJ p0 p1 x3 x4=some r) (fun p0 p1 x3 x4=>⟨[(0,.s p0),(1,.i p1),(4,.i 0),(5,.i 0),(6,.b false),(7,.i x3),(8,.i x4)],[],[]⟩) (fun fJ p0 p1 x3 x4 h=>?_) h (lo []) (fun _ _ _ _  h=>nomatch h)
 rw [dE] at h
 refine Wp.seq<|ae<|al h (fun h=>?_) (fun h=>?_)
 ·refine aC<|Wp.seq<|Wp.block<|Wp.seq<|wF (fun p0 p1 x3 x4 x7=>mC u (fun z0 z1 z2 z3=>dE u fJ z0 z1 z2 z3) p0 p1 x3 x4 x7=some r) (fun p0 p1 x3 x4 x7=>⟨[(0,.s p0),(1,.i p1),(4,.i 0),(5,.i 0),(6,.b false),(7,.i x3),(8,.i x4),(23,.b x7)],[],[]⟩) (fun p0 p1 x3 x4 x7 h=>?_) ?_
  ·refine al h (fun h=>ae<|by cases h;exact Wp.ret aj) fun h=>aC<|aE<|aR 4 5 1 (aw .u8) h fun y8 h _=>aa<|aE<|bc 5 kr ?_
   obtain ⟨_,e_9,h⟩:=bind_some h
   exact iM .shl (.int .i64 (fx .i64 (IntKind.wrap .i64 y8) 127)) (.int .i64 (gR .i64 7 x4)) (.int .i64 (i4 .i64 (fx .i64 (IntKind.wrap .i64 y8) 127) (gR .i64 7 x4))) rfl kr kr kr kr (B2 _ _ _ _ _ (bj e_9))<|aa<|ae<|al h (fun h=>Wp.seq<|Jb (fun p0 p1 x3 y8 x4 x10=>qW u (fun z0 z1 z2 z3=>dE u fJ z0 z1 z2 z3) p0 p1 x3 y8 x4 x10=some r) (fun p0 p1 x3 y8 x4 x10=>⟨[(0,.s p0),(1,.i p1),(4,.i 0),(5,.i 0),(6,.b false),(7,.i (sV .i64 x3 (i4 .i64 (fx .i64 (IntKind.wrap .i64 y8) 127) (gR .i64 7 x4)))),(8,.i x4),(49,.b x10)],[],[]⟩) (fun p0 p1 x3 y8 x4 x10 h=>al h (fun h=>ae<|by cases h;exact Wp.ret aj) fun h=>aC<|ae<|by cases h;exact Wp.ret aj)<|aV [] []<|ah 3 42 h (fun h=>ah 4 46 h (fun h=>aa<|⟨_,_,_,_,_,_,h,lo []⟩) fun h=>aa<|⟨_,_,_,_,_,_,h,lo []⟩) fun h=>aa<|⟨_,_,_,_,_,_,h,lo []⟩) fun h=>Wp.skip<|b6<|aO<|aV [] []<|aa<|⟨_,_,_,_,h,lo []⟩
  exact aV [] []<|ah 3 16 h (fun h=>aa<|⟨_,_,_,_,_,h,lo []⟩) fun h=>ar 2 5 (aw .u8) p0<|aa<|⟨_,_,_,_,_,h,lo []⟩
 exact Wp.exit<|aZ<|aZ<|dj<|aO<|⟨h,lo []⟩
theorem Lg {u p0 p1 r} (h:s6 u p0 p1=some r):ak Tryz.prog 283 [.one (.s p0),V.i p1] (.tup [V.i r.1,V.i r.2.1,V.b r.2.2]) []:=by
 unfold s6 at h
 refine b8 Tryz.f283 false ?_
 refine ae<|ae<|im (rL u=some r) ⟨[(4,.i 0),(5,.i 0),(6,.b false)],[],[]⟩ (fun h=>ae<|by cases h;exact Wp.ret aj)<|ae<|Wp.block<|GA (fun jH p0 p1 x3 x4=>fE u jH p0 p1 x3 x4=some r) (fun p0 p1 x3 x4=>⟨[(0,.s p0),(1,.i p1),(4,.i 0),(5,.i 0),(6,.b false),(7,.i x3),(8,.i x4)],[],[]⟩) (fun jH p0 p1 x3 x4 h=>?_) h (lo []) (fun _ _ _ _  h=>nomatch h)
 rw [fE] at h
 refine Wp.seq<|ae<|al h (fun h=>?_) (fun h=>?_)
 ·refine aC<|Wp.seq<|Wp.block<|Wp.seq<|aE<|ar 2 5 (aw .u8) p0<|aa<|al h (fun h=>ae<|by cases h;exact Wp.ret aj) fun h=>aC<|aE<|aR 4 5 1 (aw .u8) h fun y7 h _=>aa<|aE<|bc 5 kr ?_
  obtain ⟨_,e_8,h⟩:=bind_some h
  exact iM .shl (.int .i64 (fx .i64 (IntKind.wrap .i64 y7) 127)) (.int .i64 (gR .i64 7 x4)) (.int .i64 (i4 .i64 (fx .i64 (IntKind.wrap .i64 y7) 127) (gR .i64 7 x4))) rfl kr kr kr kr (B2 _ _ _ _ _ (bj e_8))<|aa<|ae<|al h (fun h=>aE<|ah 8 43 h (fun h=>aa<|by cases h;exact Wp.ret aj) fun h=>aa<|by cases h;exact Wp.ret aj) fun h=>Wp.skip<|b6<|aO<|aV [] []<|aa<|⟨_,_,_,_,h,lo []⟩
 exact Wp.exit<|aZ<|aZ<|dj<|aO<|⟨h,lo []⟩
theorem P0 {u p0 p1 r} (h:yw u p0 p1=some r):ak Tryz.prog 236 [.one (.s p0),V.i p1] (.tup [V.w [0,0,0,176] (ai r.1),V.i r.2.1,V.b r.2.2]) []:=by
 unfold yw at h
 refine b8 Tryz.f236 true ?_
 refine ae<|ae<|aL false 2 29 [.s p0,.i p1] h (fun _=>iO) fun r1 h=>aL false 2 36 [.s p0,.i r1.2.1] h (fun _=>iO) fun r2 h=>aL false 2 43 [.s p0,.i r2.2.1] h (fun _=>iO) fun r3 h=>Wp.seq<|wF (fun p0 r1 r2 r3 x4=>qX u p0 r1 r2 r3 x4=some r) (fun p0 r1 r2 r3 x4=>⟨[(0,.s p0),(4,.obj 4 0),(5,.i 0),(6,.b false),(7,.obj 7 0),(8,.i r1.1),(11,.i r2.1),(14,.i r3.1),(15,.i r3.2.1),(56,.b x4)],[(4,[.i 0,.i 0,.i 0,.nil]),(7,[.i 0,.i 0,.i 0,.nil])],[]⟩) (fun p0 r1 r2 r3 x4 h=>?_) ?_
 ·refine al h (fun h=>ae<|by cases h;exact Wp.ret aj) fun h=>aC<|ae<|wF (fun x19 r1 r2 r3 x20=>ou u x19 r1 r2 r3 x20=some r) (fun x19 r1 r2 r3 x20=>⟨[(4,.obj 4 0),(5,.i 0),(6,.b false),(7,.obj 7 0),(15,.i x19),(17,.obj 17 0)],[(4,[.i 0,.i 0,.i 0,.nil]),(7,[.i 0,.i 0,.i 0,.nil]),(17,[.i r1.1,.i r2.1,.i r3.1,.own 1114627])],[(1114627,.live 176 2 (x20.map aH))]⟩) (fun x19 r1 r2 r3 x20 h=>Wp.seq<|aE<|eX 1 100 [.agg [.i r1.1,.i r2.1,.i r3.1,.own 1114627]] h (fun _=>nZ) fun r21 h=>aa<|al h (fun h=>ae<|by cases h;exact Wp.ret aj) fun h=>aC<|ae<|by cases h;exact Wp.ret aj)<|ae<|Wp.block<|Z5 (fun ib p0 r1 r2 r3 x8 x9 x10=>dG u ib p0 r1 r2 r3 x8 x9 x10=some r) (fun p0 r1 r2 r3 x8 x9 x10=>⟨[(0,.s p0),(4,.obj 4 0),(5,.i 0),(6,.b false),(7,.obj 7 0),(8,.i r1.1),(11,.i r2.1),(14,.i r3.1),(15,.i x8),(17,.obj 17 0),(18,.i x9)],[(4,[.i 0,.i 0,.i 0,.nil]),(7,[.i 0,.i 0,.i 0,.nil]),(17,[.i r1.1,.i r2.1,.i r3.1,.own 1114627])],[(1114627,.live 176 2 (x10.map aH))]⟩) (fun ib p0 r1 r2 r3 x8 x9 x10 h=>?_) h (Le.trans (jv 17 3 1114627 176 2 [.i r1.1,.i r2.1,.i r3.1,.nil] kr kr kr) (lo [])) (fun _ _ _ _ _ _ _  h=>nomatch h)
  rw [dG] at h
  exact Wp.seq<|PC (fun p0 r1 r2 r3 x8 x9 x15 x10=>jW u (fun z0 z1 z2 z3 z4 z5 z6=>dG u ib z0 z1 z2 z3 z4 z5 z6) p0 r1 r2 r3 x8 x9 x15 x10=some r) (fun p0 r1 r2 r3 x8 x9 x15 x10=>⟨[(0,.s p0),(4,.obj 4 0),(5,.i 0),(6,.b false),(7,.obj 7 0),(8,.i r1.1),(11,.i r2.1),(14,.i r3.1),(15,.i x8),(17,.obj 17 0),(18,.i x9),(70,.b x15)],[(4,[.i 0,.i 0,.i 0,.nil]),(7,[.i 0,.i 0,.i 0,.nil]),(17,[.i r1.1,.i r2.1,.i r3.1,.own 1114627])],[(1114627,.live 176 2 (x10.map aH))]⟩) (fun p0 r1 r2 r3 x8 x9 x15 x10 h=>al h (fun h=>aC<|Wp.seq<|Wp.block<|aL false 2 76 [.s p0,.i x8] h (fun _=>Lg) fun r16 h=>Wp.seq<|ae<|al h (fun h=>ae<|by cases h;exact Wp.ret aj) fun h=>aC<|aL false 1 85 [.i r16.1] h (fun _=>Eh) fun r17 h=>aE<|eX 1 89 [.own 5570560] h (fun _=>qq) fun r18 h=>aa<|ae<|aE<|cg (ys:=[(bM.mk r18.fW r16.1)]) 4 96 176 2 1114627 aH h fun h=>aa<|aV [] []<|ab.all kr<|b6<|aO<|aV [] []<|aa<|⟨_,_,_,_,_,_,_,h,lo [(1114627,6291456)]⟩) fun h=>Wp.exit<|aZ<|aZ<|dj<|aO<|⟨_,_,_,_,_,h,lo []⟩)<|aV [] []<|ag false 3 65 [.i r2.1,.i r3.1] h (fun _=>wH) fun r14 h=>ah 2 67 h (fun h=>aa<|⟨_,_,_,_,_,_,_,_,h,lo []⟩) fun h=>aa<|⟨_,_,_,_,_,_,_,_,h,lo []⟩
 exact aV [] []<|ah 3 49 h (fun h=>aa<|⟨_,_,_,_,_,h,lo []⟩) fun h=>ah 4 53 h (fun h=>aa<|⟨_,_,_,_,_,h,lo []⟩) fun h=>aa<|⟨_,_,_,_,_,h,lo []⟩
theorem Ng {u p0 p1 p2 r} (h:vE u p0 p1 p2=some r):ak Tryz.prog 237 [.one (.s p0),V.i p1,V.i p2] (.tup [.one (.ow 5 1 (r.1.map (aw .u8))),V.i r.2.1,V.b r.2.2]) []:=by
 unfold vE at h
 refine b8 Tryz.f237 true ?_
 refine ae<|aL false 2 15 [.s p0,.i p1] h (fun _=>iO) fun r1 h=>Wp.seq<|lx (fun p0 r1 x2=>pI u p0 r1 x2=some r) (fun p0 r1 x2=>⟨[(0,.s p0),(6,.nil),(7,.i 0),(8,.b false),(9,.i r1.1),(10,.i r1.2.1),(33,.b x2)],[],[]⟩) (fun p0 r1 x2 h=>?_) ?_
 ·refine al h (fun h=>ae<|by cases h;exact Wp.ret aj) fun h=>aC<|aE<|bc 6 kr ?_
  obtain ⟨_,e_3,h⟩:=bind_some h
  exact eS (e:=5) (ax:=.s p0) (alo:=(some (.i r1.2.1))) (ahi:=(some (.i (aX .i64 r1.2.1 r1.1)))) (aw .u8) p0 1 r1.2.1 (aX .i64 r1.2.1 r1.1) rfl kr kr kr kr kr kr kr kr kr kr kr (bj e_3)<|cg 0 42 5 1 2293760 (aw .u8) h fun h=>aa<|by cases h;exact Wp.ret aj
 exact aV [] []<|ah 3 21 h (fun h=>aa<|⟨_,_,_,h,lo []⟩) fun h=>ah 5 26 h (fun h=>aa<|⟨_,_,_,h,lo []⟩) fun h=>ar 2 5 (aw .u8) p0<|aa<|⟨_,_,_,h,lo []⟩
theorem Nh {u p0 p1 p2 r} (h:fF u p0 p1 p2=some r):ak Tryz.prog 199 [.one (.s p0),V.i p1,V.i p2] (.tup [V.w [0,0,0,0,0,176,0,0,0,5] (dA r.1),V.i r.2.1,V.b r.2.2]) []:=by
 unfold fF at h
 refine b8 Tryz.f199 true ?_
 refine ae<|ae<|Wp.seq<|ae<|al h (fun h=>aL false 2 34 [.s p0,.i p1] h (fun _=>P0) fun r1 h=>ae<|ae<|by cases h;exact Wp.ret aj) fun h=>aC<|aL false 2 46 [.s p0,.i p1] h (fun _=>iO) fun r2 h=>ae<|wF (fun x20 p2 r2 x21 x22=>tO u x20 p2 r2 x21 x22=some r) (fun x20 p2 r2 x21 x22=>⟨[(6,.obj 6 0),(7,.i 0),(8,.b false),(9,.obj 9 0),(14,.i x20)],[(6,[.i 0,.i 0,.i 0,.i 0,.i 0,.nil,.i 0,.i 0,.i 0,.nil]),(9,[.i p2,.i r2.1,.i 0,.i 0,.i 0,.nil,.i x21,.i x22,.i 0,.nil])],[]⟩) (fun x20 p2 r2 x21 x22 h=>ae<|by cases h;exact Wp.ret aj)<|Wp.block<|ae<|al h (fun h=>ae<|by cases h;exact Wp.ret aj) fun h=>ae<|al h (fun h=>?_) (fun h=>?_)
 ·refine ae<|nO (fun x14 x15 p2 r2=>tP u x14 x15 p2 r2=some r) (fun x14 x15 p2 r2=>⟨[(6,.obj 6 0),(7,.i 0),(8,.b false),(9,.obj 9 0),(14,.i x14),(16,.own 1048577)],[(6,[.i 0,.i 0,.i 0,.i 0,.i 0,.nil,.i 0,.i 0,.i 0,.nil]),(9,[.i p2,.i r2.1,.i 0,.i 0,.i 0,.nil,.i 0,.i 0,.i 0,.nil])],[(1048577,.live 3 1 (x15.map (aw .i64)))]⟩) (fun x14 x15 p2 r2 h=>Wp.seq<|aK (jQ []) (bR [(9,.obj 9),(16,.own 16),(83,.own 16),(84,.el 16),(85,.frz),(86,.own 16),(87,.el 16),(88,.frz),(89,.frz),(90,.frz),(91,.obj 9)]) kr kr<|cI 1 3 1 1048577 3 (aw .i64) h fun y16 h e_y16=>iN 0 1 1 1048577 0 3 false (aw .i64) ((cq e_y16).2)<|cI 1 3 1 1048577 3 (aw .i64) h fun y17 h e_y17=>iN 0 1 1 1048577 0 3 false (aw .i64) ((cq e_y17).2)<|aa<|aK (jQ []) (bR [(9,.obj 9),(16,.own 16),(92,.own 16),(93,.el 16),(94,.frz),(95,.own 16),(96,.el 16),(97,.frz),(98,.frz),(99,.frz),(100,.obj 9)]) kr kr<|cI 1 3 1 1048577 3 (aw .i64) h fun y18 h e_y18=>iN 0 1 1 1048577 0 3 false (aw .i64) ((cq e_y18).2)<|cI 1 3 1 1048577 3 (aw .i64) h fun y19 h e_y19=>iN 0 1 1 1048577 0 3 false (aw .i64) ((cq e_y19).2)<|ab.all kr<|b6<|aO<|⟨_,_,_,_,_,h,lo []⟩)<|ae<|Wp.block<|Zk (fun gz p0 x6 x7 x8 p2 r2=>cY u gz p0 x6 x7 x8 p2 r2=some r) (fun p0 x6 x7 x8 p2 r2=>⟨[(0,.s p0),(6,.obj 6 0),(7,.i 0),(8,.b false),(9,.obj 9 0),(14,.i x6),(16,.own 1048577),(17,.i x8)],[(6,[.i 0,.i 0,.i 0,.i 0,.i 0,.nil,.i 0,.i 0,.i 0,.nil]),(9,[.i p2,.i r2.1,.i 0,.i 0,.i 0,.nil,.i 0,.i 0,.i 0,.nil])],[(1048577,.live 3 1 (x7.map (aw .i64)))]⟩) (fun gz p0 x6 x7 x8 p2 r2 h=>?_) h (lo [(1048577,3866624)]) (fun _ _ _ _ _ _  h=>nomatch h)
  rw [cY] at h
  exact Wp.seq<|ae<|al h (fun h=>aC<|Wp.seq<|Wp.block<|aL false 2 67 [.s p0,.i x6] h (fun _=>iO) fun r12 h=>Wp.seq<|PC (fun p0 x6 x7 x8 r12 x13 p2 r2=>nb u (fun z0 z1 z2 z3 z4 z5=>cY u gz z0 z1 z2 z3 z4 z5) p0 x6 x7 x8 r12 x13 p2 r2=some r) (fun p0 x6 x7 x8 r12 x13 p2 r2=>⟨[(0,.s p0),(6,.obj 6 0),(7,.i 0),(8,.b false),(9,.obj 9 0),(14,.i x6),(16,.own 1048577),(17,.i x8),(18,.i r12.1),(19,.i r12.2.1),(76,.b x13)],[(6,[.i 0,.i 0,.i 0,.i 0,.i 0,.nil,.i 0,.i 0,.i 0,.nil]),(9,[.i p2,.i r2.1,.i 0,.i 0,.i 0,.nil,.i 0,.i 0,.i 0,.nil])],[(1048577,.live 3 1 (x7.map (aw .i64)))]⟩) (fun p0 x6 x7 x8 r12 x13 p2 r2 h=>al h (fun h=>ae<|by cases h;exact Wp.ret aj) fun h=>aC<|aE<|cg 3 81 3 1 1048577 (aw .i64) h fun h=>aa<|aV [] []<|ab.all kr<|b6<|aO<|aV [] []<|aa<|⟨_,_,_,_,_,_,h,lo [(1048577,5308416)]⟩)<|aV [] []<|ah 3 73 h (fun h=>aa<|⟨_,_,_,_,_,_,_,_,h,lo []⟩) fun h=>aa<|⟨_,_,_,_,_,_,_,_,h,lo []⟩) fun h=>Wp.exit<|aZ<|aZ<|dj<|aO<|⟨_,_,_,_,h,lo []⟩
 exact ae<|al h (fun h=>aL false 2 107 [.s p0,.i r2.2.1] h (fun _=>iO) fun r13 h=>aL false 2 114 [.s p0,.i r13.2.1,.i 6] h (fun _=>Ng) fun r14 h=>ae<|ae<|aE<|ah 4 125 h (fun h=>aa<|by cases h;exact Wp.ret aj) fun h=>aa<|by cases h;exact Wp.ret aj) fun h=>Wp.skip<|b6<|aO<|⟨_,_,_,_,_,h,lo []⟩
theorem GD {u p0 r} (h:xr u p0=some r):ak Tryz.prog 200 [cO (dA p0)] (V.b r) []:=by
 unfold xr at h
 refine b8 Tryz.f200 false ?_
 exact ae<|aL false 3 8 [.agg ((ai p0.av).map .t),.agg [.i 0,.i 0,.i 0,.nil]] h (fun _=>pR) fun r1 h=>lx (fun r1 x2 p0=>qc u r1 x2 p0=some r) (fun r1 x2 p0=>⟨[(1,.obj 1 0),(2,.b false),(3,.b r1),(4,.b x2)],[(1,((dA p0).map .t))],[]⟩) (fun r1 x2 p0 h=>Wp.seq<|ae<|Wp.block<|ae<|al h (fun h=>aE<|ah 4 35 h (fun h=>ah 6 41 h (fun h=>ag false 2 44 [.agg ((ai p0.av).map .t)] h (fun _=>nZ) fun r3 h=>ah 2 46 h (fun h=>aa<|by cases h;exact Wp.ret aj) fun h=>aa<|by cases h;exact Wp.ret aj) fun h=>aa<|by cases h;exact Wp.ret aj) fun h=>aa<|by cases h;exact Wp.ret aj) fun h=>ae<|al h (fun h=>aE<|ag false 2 53 [.i p0.aP,.i 0,.i 1000000] h (fun _=>bg) fun r4 h=>ah 1 54 h (fun h=>ah 3 57 h (fun h=>ag false 2 60 [.i p0.bw] h (fun _=>cR) fun r5 h=>ah 2 62 h (fun h=>ag false 2 65 [.i p0.bL] h (fun _=>cR) fun r6 h=>ah 2 67 h (fun h=>ah 5 72 h (fun h=>ar 2 5 (aw .u8) p0.fB<|aa<|by cases h;exact Wp.ret aj) fun h=>aa<|by cases h;exact Wp.ret aj) fun h=>aa<|by cases h;exact Wp.ret aj) fun h=>aa<|by cases h;exact Wp.ret aj) fun h=>aa<|by cases h;exact Wp.ret aj) fun h=>aa<|by cases h;exact Wp.ret aj) fun h=>ae<|al h (fun h=>aE<|ag false 2 82 [.i p0.aP,.i 1,.i 1000000] h (fun _=>bg) fun r7 h=>ah 1 83 h (fun h=>ah 3 86 h (fun h=>ah 5 91 h (fun h=>ah 5 96 h (fun h=>ag false 2 99 [.i p0.fI,.i 0,.i 39] h (fun _=>bg) fun r8 h=>ah 2 101 h (fun h=>ar 2 5 (aw .u8) p0.fB<|ag false 0 105 [.i ((p0.fB.length:Int)),.i 1,.i 6] h (fun _=>bg) fun r9 h=>aa<|by cases h;exact Wp.ret aj) fun h=>aa<|by cases h;exact Wp.ret aj) fun h=>aa<|by cases h;exact Wp.ret aj) fun h=>aa<|by cases h;exact Wp.ret aj) fun h=>aa<|by cases h;exact Wp.ret aj) fun h=>aa<|by cases h;exact Wp.ret aj) fun h=>Wp.skip<|b6<|aO<|aE<|ah 4 110 h (fun h=>ag false 2 113 [.i p0.aP,.i 0,.i 1000000] h (fun _=>bg) fun r10 h=>ah 2 115 h (fun h=>ah 3 118 h (fun h=>aa<|by cases h;exact Wp.ret aj) fun h=>aa<|by cases h;exact Wp.ret aj) fun h=>aa<|by cases h;exact Wp.ret aj) fun h=>aa<|by cases h;exact Wp.ret aj)<|aV [] []<|ah 4 12 h (fun h=>ah 5 17 h (fun h=>ah 5 22 h (fun h=>ar 2 5 (aw .u8) p0.fB<|aa<|⟨_,_,_,h,lo []⟩) fun h=>aa<|⟨_,_,_,h,lo []⟩) fun h=>aa<|⟨_,_,_,h,lo []⟩) fun h=>aa<|⟨_,_,_,h,lo []⟩
theorem P1 {u p0 r} (h:yx u p0=some r):ak Tryz.prog 152 [.one (.s p0)] (.tup [V.w [0,0,0,0,0,176,0,0,0,5] (dA r.1),V.b r.2]) []:=by
 unfold yx at h
 refine b8 Tryz.f152 true ?_
 refine ae<|aL false 1 15 [.s p0,.i 0] h (fun _=>iO) fun r1 h=>Wp.seq<|lx (fun p0 r1 x2=>vG u p0 r1 x2=some r) (fun p0 r1 x2=>⟨[(0,.s p0),(2,.obj 2 0),(3,.b false),(4,.i r1.1),(5,.i r1.2.1),(25,.b x2)],[(2,[.i 0,.i 0,.i 0,.i 0,.i 0,.nil,.i 0,.i 0,.i 0,.nil])],[]⟩) (fun p0 r1 x2 h=>?_) ?_
 ·refine al h (fun h=>ae<|by cases h;exact Wp.ret aj) fun h=>aC<|aL false 3 31 [.s p0,.i r1.2.1,.i r1.1] h (fun _=>Nh) fun r3 h=>Wp.seq<|lx (fun p0 r3 x5=>vF u p0 r3 x5=some r) (fun p0 r3 x5=>⟨[(0,.s p0),(2,.obj 2 0),(3,.b false),(7,.obj 7 0),(8,.i r3.2.1),(41,.b x5)],[(2,[.i 0,.i 0,.i 0,.i 0,.i 0,.nil,.i 0,.i 0,.i 0,.nil]),(7,[.i r3.1.bz,.i r3.1.aP,.i r3.1.av.aP,.i r3.1.av.aS,.i r3.1.av.aY,.own 459269,.i r3.1.bw,.i r3.1.bL,.i r3.1.fI,.own 459273])],[(459269,.live 176 2 (r3.1.av.aD.map aH)),(459273,.live 5 1 (r3.1.fB.map (aw .u8)))]⟩) (fun p0 r3 x5 h=>?_) ?_
  ·refine al h (fun h=>ae<|by cases h;exact Wp.ret aj) fun h=>aC<|aL false 2 46 [.s p0,.i r3.2.1] h (fun _=>iO) fun r6 h=>Wp.seq<|pk (fun x9 r3=>qY u x9 r3=some r) (fun x9 r3=>⟨[(2,.obj 2 0),(3,.b false),(7,.obj 7 0),(65,.b x9)],[(2,[.i 0,.i 0,.i 0,.i 0,.i 0,.nil,.i 0,.i 0,.i 0,.nil]),(7,[.i r3.1.bz,.i r3.1.aP,.i r3.1.av.aP,.i r3.1.av.aS,.i r3.1.av.aY,.own 459269,.i r3.1.bw,.i r3.1.bL,.i r3.1.fI,.own 459273])],[(459269,.live 176 2 (r3.1.av.aD.map aH)),(459273,.live 5 1 (r3.1.fB.map (aw .u8)))]⟩) (fun x9 r3 h=>al h (fun h=>ae<|by cases h;exact Wp.ret aj) fun h=>aC<|ae<|by cases h;exact Wp.ret aj)<|aV [] []<|ah 3 52 h (fun h=>aa<|⟨_,_,h,lo []⟩) fun h=>ar 2 5 (aw .u8) p0<|ah 3 58 h (fun h=>aa<|⟨_,_,h,lo []⟩) fun h=>bc 3 kr ?_
   obtain ⟨_,e_7,h⟩:=bind_some h
   exact eS (e:=5) (ax:=.s p0) (alo:=none) (ahi:=(some (.i r3.2.1))) (aw .u8) p0 1 0 r3.2.1 rfl kr kr kr kr kr kr kr kr kr kr kr (bj e_7)<|ag false 0 63 [.t (.sl 1 (((p0.take (Int.toNat r3.2.1)).drop (Int.toNat 0)).map (aw .u8)))] h (fun _=>wI) fun r8 h=>aa<|⟨_,_,h,lo []⟩
  exact aV [] []<|ah 3 37 h (fun h=>aa<|⟨_,_,_,h,lo [(459269,2031621),(459273,2031625)]⟩) fun h=>eX 1 39 [.agg [.i r3.1.bz,.i r3.1.aP,.i r3.1.av.aP,.i r3.1.av.aS,.i r3.1.av.aY,.own 2031621,.i r3.1.bw,.i r3.1.bL,.i r3.1.fI,.own 2031625]] h (fun _=>GD) fun r4 h=>aa<|⟨_,_,_,h,lo [(459269,2031621),(459273,2031625)]⟩
 exact aV [] []<|ah 3 21 h (fun h=>aa<|⟨_,_,_,h,lo []⟩) fun h=>ar 1 5 (aw .u8) p0<|aa<|⟨_,_,_,h,lo []⟩
theorem pS {u p0 r} (h:lz u p0=some r):ak Tryz.prog 153 [cO (ay p0)] (V.w [0,0,0,0,0,0,176,0,5,0,149,0] (ay r)) []:=by
 unfold lz at h
 refine b8 Tryz.f153 true ?_
 exact ae<|aL false 1 5 [.agg ((ay p0).map .t)] h (fun _=>gS) fun r1 h=>ae<|ae<|by cases h;exact Wp.ret aj
theorem Cl {u p0 p1 r} (h:uq u p0 p1=some r):ak Tryz.prog 238 [.one (.t (.sl 5 (p0.map aq))),V.i p1] (V.i r) []:=by
 unfold uq at h
 refine b8 Tryz.f238 false ?_
 refine ae<|im (Ch u=some r) ⟨[(4,.i 0)],[],[]⟩ (fun h=>ae<|by cases h;exact Wp.ret aj)<|ae<|Wp.block<|ef (fun nz p0 p1 x2=>qd u nz p0 p1 x2=some r) (fun p0 p1 x2=>⟨[(0,.t (.sl 5 (p0.map aq))),(1,.i p1),(4,.i 0),(5,.i x2)],[],[]⟩) (fun nz p0 p1 x2 h=>?_) h (lo []) (fun _ _ _  h=>nomatch h)
 rw [qd] at h
 exact Wp.seq<|aE<|ar 2 149 aq p0<|aa<|al h (fun h=>aC<|Wp.seq<|Wp.block<|aE<|aR 2 149 5 aq h fun y4 h _=>aa<|al h (fun h=>ae<|by cases h;exact Wp.ret aj) fun h=>Wp.skip<|b6<|aO<|aV [] []<|aa<|⟨_,_,_,h,lo []⟩) fun h=>Wp.exit<|aZ<|aZ<|dj<|aO<|⟨h,lo []⟩
theorem Tz {u p0 p1 p2 p3 r} (h:CP u p0 p1 p2 p3=some r):ak Tryz.prog 201 [.one (.t (.sl 5 (p0.map aq))),V.i p1,V.i p2,V.i p3] (.one (.ow 149 5 (r.map aq))) []:=by
 unfold CP at h
 refine b8 Tryz.f201 true ?_
 refine ae<|aE<|cg 2 15 149 5 851968 aq h fun h=>aa<|Wp.seq<|wF (fun p0 p1 p2 p3 x5=>vI u p0 p1 p2 p3 x5=some r) (fun p0 p1 p2 p3 x5=>⟨[(0,.t (.sl 5 (p0.map aq))),(1,.i p1),(2,.i p2),(3,.i p3),(8,.nil),(9,.own 589825),(28,.b x5)],[],[(589825,.live 149 5 (((([]:List Kid))++p0).map aq))]⟩) (fun p0 p1 p2 p3 x5 h=>?_) ?_
 ·refine al h (fun h=>ae<|by cases h;exact Wp.ret aj) fun h=>aC<|aL false 2 32 [.t (.sl 5 (p0.map aq)),.i p1] h (fun _=>Cl) fun r6 h=>Wp.seq<|ae<|al h (fun h=>?_) (fun h=>?_)
  ·refine ae<|wF (fun p1 p2 p3 p0 x12=>Aa u p1 p2 p3 p0 x12=some r) (fun p1 p2 p3 p0 x12=>⟨[(1,.i p1),(2,.i p2),(3,.i p3),(8,.nil),(9,.own 589825),(10,.i x12)],[],[(589825,.live 149 5 (((([]:List Kid))++p0).map aq))]⟩) (fun p1 p2 p3 p0 x12 h=>?_) ?_
   ·refine ae<|Wp.seq<|Wp.le (Le.frz 9 589825 149 5 (((([]:List Kid))++p0).map aq) kr kr kr)<|aK (jQ []) (bR [(9,.frz),(10,.frz),(11,.obj 11),(54,.own 54),(55,.frz),(56,.frz),(57,.frz),(58,.own 58),(59,.frz),(60,.own 60),(61,.own 61),(62,.frz),(63,.frz),(64,.frz),(65,.own 65)]) kr kr<|bc 3 kr ?_
    obtain ⟨_,e_13,h⟩:=bind_some h
    refine eS (e:=149) (ax:=.t (.sl 5 (((([]:List Kid))++p0).map aq))) (alo:=none) (ahi:=(some (.i x12))) aq ((([]:List Kid))++p0) 5 0 x12 rfl kr kr kr kr kr kr kr kr kr kr kr (bj e_13)<|cg 0 58 149 5 3538944 aq h fun h=>cg (ys:=[(Kid.mk p1 p2 p3 0 0)]) 2 61 149 5 3801088 aq h fun h=>bc 2 kr ?_
    obtain ⟨_,e_16,h⟩:=bind_some h
    exact eS (e:=149) (ax:=.t (.sl 5 (((([]:List Kid))++p0).map aq))) (alo:=(some (.i x12))) (ahi:=none) aq ((([]:List Kid))++p0) 5 x12 ((((([]:List Kid))++p0).length:Int)) rfl kr kr kr kr kr kr kr kr kr kr kr (bj e_16)<|cg 0 65 149 5 3997696 aq h fun h=>aa<|by cases h;exact Wp.ret aj
   refine Wp.block<|Jc (fun kj p1 p2 p3 p0 x8=>lA u kj p1 p2 p3 p0 x8=some r) (fun p1 p2 p3 p0 x8=>⟨[(1,.i p1),(2,.i p2),(3,.i p3),(8,.nil),(9,.own 589825),(10,.i x8)],[],[(589825,.live 149 5 (((([]:List Kid))++p0).map aq))]⟩) (fun kj p1 p2 p3 p0 x8 h=>?_) h (lo []) (fun _ _ _ _ _  h=>nomatch h)
   rw [lA] at h
   exact Wp.seq<|Jb (fun p1 p2 p3 p0 x8 x11=>vH u (fun z0 z1 z2 z3 z4=>lA u kj z0 z1 z2 z3 z4) p1 p2 p3 p0 x8 x11=some r) (fun p1 p2 p3 p0 x8 x11=>⟨[(1,.i p1),(2,.i p2),(3,.i p3),(8,.nil),(9,.own 589825),(10,.i x8),(47,.b x11)],[],[(589825,.live 149 5 (((([]:List Kid))++p0).map aq))]⟩) (fun p1 p2 p3 p0 x8 x11 h=>al h (fun h=>aC<|Wp.block<|aV [] []<|ab.all kr<|b6<|aO<|⟨_,_,_,_,_,h,lo []⟩) fun h=>Wp.exit<|aZ<|aZ<|dj<|aO<|⟨_,_,_,_,_,h,lo []⟩)<|aV [] []<|ar 2 149 aq ((([]:List Kid))++p0)<|ah 2 39 h (fun h=>cI 2 149 5 589825 149 aq h fun y10 h e_y10=>iN 1 5 1 589825 0 149 false aq ((cq e_y10).2)<|aa<|⟨_,_,_,_,_,_,h,lo []⟩) fun h=>aa<|⟨_,_,_,_,_,_,h,lo []⟩
  exact aC<|aE<|cI 2 149 5 589825 149 aq h fun y11 h e_y11=>iN 0 5 5 589825 0 149 true aq ((cq e_y11).2)<|aa<|ae<|ae<|ae<|aE<|cI 3 149 5 589825 149 aq h fun y12 h e_y12=>gm (e:=149) (sz:=5) (m:=5) aq ((([]:List Kid))++p0) 589825 (Int.toNat r6) 0 ((Kid.mk y11.fb p2 (sV .i64 y11.bL p3) 0 y11.c8)) (.agg [.i y11.fb,.i p2,.i (sV .i64 y11.bL p3),.i 0,.i y11.c8]) [.int .i64 y11.fb,.int .i64 p2,.int .i64 (sV .i64 y11.bL p3),.int .i64 0,.int .i64 y11.c8] rfl kr kr kr kr kr kr kr kr ((cq e_y12).2) kr kr<|aa<|ae<|by cases h;exact Wp.ret aj
 exact aV [] []<|ag false 1 17 [.i p1,.i 0,.i 6] h (fun _=>bg) fun r2 h=>ah 2 19 h (fun h=>aa<|⟨_,_,_,_,_,h,lo [(589825,983040)]⟩) fun h=>ag false 1 21 [.i p2] h (fun _=>cR) fun r3 h=>ah 3 24 h (fun h=>aa<|⟨_,_,_,_,_,h,lo [(589825,983040)]⟩) fun h=>ag false 1 26 [.i p3] h (fun _=>cR) fun r4 h=>aa<|⟨_,_,_,_,_,h,lo [(589825,983040)]⟩
theorem dK {u p0 p1 r} (h:dX u p0 p1=some r):ak Tryz.prog 284 [.one (.s p0),V.i p1] (.one (.ow 5 1 (r.map (aw .u8)))) []:=by
 unfold dX at h
 refine b8 Tryz.f284 true ?_
 refine ae<|aE<|cg 2 8 5 1 393216 (aw .u8) h fun h=>aa<|Wp.seq<|aL false 1 10 [.i p1,.i 0,.i 1000000000000] h (fun _=>bg) fun r2 h=>al h (fun h=>ae<|by cases h;exact Wp.ret aj) fun h=>aC<|pk (fun x9 x10=>vJ u x9 x10=some r) (fun x9 x10=>⟨[(1,.i x9),(4,.nil),(5,.own 327681)],[],[(327681,.live 5 1 (x10.map (aw .u8)))]⟩) (fun x9 x10 h=>aE<|cg 4 28 5 1 327681 (aw .u8) h fun h=>aa<|by cases h;exact Wp.ret aj)<|Wp.block<|yR (fun mq x5 x6=>mD u mq x5 x6=some r) (fun x5 x6=>⟨[(1,.i x5),(4,.nil),(5,.own 327681)],[],[(327681,.live 5 1 (x6.map (aw .u8)))]⟩) (fun mq x5 x6 h=>?_) h (lo [(327681,524288)]) (fun _ _  h=>nomatch h)
 rw [mD] at h
 exact Wp.seq<|ae<|al h (fun h=>aC<|Wp.block<|aE<|cg 6 21 5 1 327681 (aw .u8) h fun h=>aa<|aV [] []<|ab.all kr<|b6<|aO<|⟨_,_,h,lo [(327681,1376256)]⟩) fun h=>Wp.exit<|aZ<|aZ<|dj<|aO<|⟨_,_,h,lo []⟩
theorem Lh {u p0 p1 r} (h:s7 u p0 p1=some r):ak Tryz.prog 302 [.one (.ow 5 1 (p0.map (aw .u8))),V.i p1] (.one (.ow 5 1 (r.map (aw .u8)))) []:=by
 unfold s7 at h
 refine b8 Tryz.f302 true ?_
 refine ae<|pk (fun x7 x8=>rM u x7 x8=some r) (fun x7 x8=>⟨[(0,.own 1),(1,.i x8),(4,.nil)],[],[(1,.live 5 1 (x7.map (aw .u8)))]⟩) (fun x7 x8 h=>aE<|cg 4 20 5 1 1 (aw .u8) h fun h=>aa<|by cases h;exact Wp.ret aj)<|Wp.block<|yR (fun jI x3 x4=>jq u jI x3 x4=some r) (fun x3 x4=>⟨[(0,.own 1),(1,.i x4),(4,.nil)],[],[(1,.live 5 1 (x3.map (aw .u8)))]⟩) (fun jI x3 x4 h=>?_) h (lo [(1,58982400)]) (fun _ _  h=>nomatch h)
 rw [jq] at h
 exact Wp.seq<|ae<|al h (fun h=>aC<|Wp.block<|aE<|cg 6 13 5 1 1 (aw .u8) h fun h=>aa<|aV [] []<|ab.all kr<|b6<|aO<|⟨_,_,h,lo [(1,851968)]⟩) fun h=>Wp.exit<|aZ<|aZ<|dj<|aO<|⟨_,_,h,lo []⟩
theorem P2 {u p0 p1 r} (h:yy u p0 p1=some r):ak Tryz.prog 285 [.one (.s p0),cO (ai p1)] (.one (.ow 5 1 (r.map (aw .u8)))) []:=by
 unfold yy at h
 refine b8 Tryz.f285 true ?_
 refine ae<|aE<|cg 2 9 5 1 458752 (aw .u8) h fun h=>aa<|Wp.seq<|aL false 1 11 [.agg ((ai p1).map .t)] h (fun _=>nZ) fun r2 h=>al h (fun h=>ae<|by cases h;exact Wp.ret aj) fun h=>aC<|Wp.seq<|aK (jQ []) (bR [(3,.obj 3),(5,.own 9),(14,.own 9),(15,.obj 3),(16,.frz),(17,.own 17),(18,.obj 3),(19,.frz),(20,.own 20),(21,.obj 3),(22,.frz),(23,.own 23)]) kr kr<|ag false 3 17 [.own 589824,.i p1.aP] h (fun _=>dK) fun r3 h=>ag false 2 20 [.own 1114112,.i p1.aS] h (fun _=>dK) fun r4 h=>ag false 2 23 [.own 1310720,.i p1.aY] h (fun _=>dK) fun r5 h=>aa<|kC (fun x14=>AP u x14=some r) (fun x14=>⟨[(4,.nil),(5,.own 327681)],[],[(327681,.live 5 1 (x14.map (aw .u8)))]⟩) (fun x14 h=>ae<|by cases h;exact Wp.ret aj)<|ae<|Wp.block<|ef (fun mp x8 x9 p1=>oz u mp x8 x9 p1=some r) (fun x8 x9 p1=>⟨[(3,.obj 3 0),(4,.nil),(5,.own 327681),(6,.i x9)],[(3,((ai p1).map .t))],[(327681,.live 5 1 (x8.map (aw .u8)))]⟩) (fun mp x8 x9 p1 h=>?_) h (lo [(327681,1507328)]) (fun _ _ _  h=>nomatch h)
 rw [oz] at h
 exact Wp.seq<|aE<|ar 3 176 aH p1.aD<|aa<|al h (fun h=>aC<|Wp.seq<|Wp.block<|aV [] []<|aR 4 176 2 aH h fun y12 h _=>ag true 2 38 [.own 327681,.i y12.fS] h (fun _=>Lh) fun r13 h=>ab.all kr<|b6<|aO<|aV [] []<|aa<|⟨_,_,_,h,lo [(327681,2490368)]⟩) fun h=>Wp.exit<|aZ<|aZ<|dj<|aO<|⟨_,h,lo []⟩
theorem El {u p0 r} (h:vK u p0=some r):ak Tryz.prog 286 [V.i p0] (.tup [V.i r.1,V.i r.2]) []:=by
 unfold vK at h
 refine b8 Tryz.f286 false ?_
 exact ae<|ae<|by cases h;exact Wp.ret aj
theorem Ni {u p0 p1 r} (h:Ab u p0 p1=some r):ak Tryz.prog 287 [.one (.s p0),.one (.s p1)] (.one (.ow 5 1 (r.map (aw .u8)))) []:=by
 unfold Ab at h
 refine b8 Tryz.f287 true ?_
 exact ae<|aE<|ar 2 5 (aw .u8) p1<|ag false 0 8 [.s p0,.i ((p1.length:Int))] h (fun _=>dK) fun r1 h=>cg 1 10 5 1 524288 (aw .u8) h fun h=>aa<|by cases h;exact Wp.ret aj
theorem P3 {u p0 r} (h:yz u p0=some r):ak Tryz.prog 239 [cO (dA p0)] (.one (.ow 5 1 (r.map (aw .u8)))) []:=by
 unfold yz at h
 refine b8 Tryz.f239 true ?_
 exact ae<|Wp.seq<|aL false 1 7 [.agg ((dA p0).map .t)] h (fun _=>GD) fun r1 h=>al h (fun h=>ae<|by cases h;exact Wp.ret aj) fun h=>aC<|aL false 3 13 [.own 655360,.i p0.bz] h (fun _=>dK) fun r2 h=>kC (fun x15=>mE u x15=some r) (fun x15=>⟨[(2,.nil),(3,.own 196609)],[],[(196609,.live 5 1 (x15.map (aw .u8)))]⟩) (fun x15 h=>aE<|eX 2 67 [.own 196609] h (fun _=>wI) fun r16 h=>ag false 0 68 [.own 196609,.i r16] h (fun _=>dK) fun r17 h=>aa<|by cases h;exact Wp.ret aj)<|ae<|Wp.block<|ae<|al h (fun h=>aV [] []<|ag false 3 25 [.own 851968,.agg ((ai p0.av).map .t)] h (fun _=>P2) fun r3 h=>ab.all kr<|b6<|aO<|⟨_,h,lo [(196609,1638400)]⟩) fun h=>ae<|al h (fun h=>aL false 2 31 [.i p0.bw] h (fun _=>El) fun r4 h=>aE<|ag false 3 37 [.own 851968,.i p0.aP] h (fun _=>dK) fun r5 h=>ag false 1 39 [.own 2424832,.i r4.1] h (fun _=>dK) fun r6 h=>ag false 1 41 [.own 2555904,.i r4.2] h (fun _=>dK) fun r7 h=>aa<|aL false 2 45 [.i p0.bL] h (fun _=>El) fun r8 h=>aV [] []<|ag false 2 50 [.own 2686976,.i r8.1] h (fun _=>dK) fun r9 h=>ag false 1 52 [.own 3276800,.i r8.2] h (fun _=>dK) fun r10 h=>ab.all kr<|b6<|aO<|⟨_,h,lo [(196609,3407872)]⟩) fun h=>ae<|al h (fun h=>aK (jQ []) (bR [(1,.obj 1),(3,.own 13),(55,.own 13),(56,.obj 1),(57,.frz),(58,.own 58),(59,.obj 1),(60,.frz),(61,.own 61),(62,.obj 1),(63,.frz),(64,.own 64)]) kr kr<|ag false 3 58 [.own 851968,.i p0.aP] h (fun _=>dK) fun r11 h=>ag false 2 61 [.own 3801088,.i p0.fI] h (fun _=>dK) fun r12 h=>ag false 2 64 [.own 3997696,.s p0.fB] h (fun _=>Ni) fun r13 h=>ab.all kr<|b6<|aO<|⟨_,h,lo [(196609,4194304)]⟩) fun h=>aV [] []<|ag false 3 19 [.own 851968,.i p0.aP] h (fun _=>dK) fun r14 h=>ab.all kr<|b6<|aO<|⟨_,h,lo [(196609,1245184)]⟩
theorem oS {u p0 p1 p2 r} (h:iw u p0 p1 p2=some r):ak Tryz.prog 202 [V.i p0,V.i p1,cO (dA p2)] (V.w [0,0,5] (aI r)) []:=by
 unfold iw at h
 refine b8 Tryz.f202 true ?_
 exact ae<|aL false 3 10 [.agg ((dA p2).map .t)] h (fun _=>P3) fun r1 h=>by cases h;exact Wp.ret aj
theorem E8 {u p0 r} (h:uR u p0=some r):ak Tryz.prog 241 [cO (ay p0)] (V.i r) []:=by
 unfold uR at h
 refine b8 Tryz.f241 false ?_
 exact ae<|ae<|by cases h;exact Wp.ret aj
theorem E9 {u p0 p1 p2 r} (h:uS u p0 p1 p2=some r):ak Tryz.prog 240 [.one (.t (.sl 5 (p0.map aq))),V.i p1,V.i p2] (V.i r) []:=by
 unfold uS at h
 refine b8 Tryz.f240 false ?_
 exact ae<|aL false 2 10 [.t (.sl 5 (p0.map aq)),.i p1] h (fun _=>Cl) fun r1 h=>Wp.seq<|nO (fun p0 p2 r1 x7=>oA u p0 p2 r1 x7=some r) (fun p0 p2 r1 x7=>⟨[(0,.t (.sl 5 (p0.map aq))),(2,.i p2),(6,.i 0),(7,.i r1),(35,.b x7)],[],[]⟩) (fun p0 p2 r1 x7 h=>al h (fun h=>ae<|by cases h;exact Wp.ret aj) fun h=>aC<|Wp.seq<|aK (jQ []) (bR [(0,.frz),(2,.frz),(7,.frz),(36,.frz),(37,.frz),(38,.frz),(39,.frz),(40,.frz),(41,.frz),(42,.frz),(43,.frz),(44,.frz),(45,.frz),(46,.frz),(47,.frz),(48,.frz)]) kr kr<|aR 2 149 5 aq h fun y8 h _=>aR 6 149 5 aq h fun y9 h _=>aa<|by cases h;exact Wp.ret aj)<|aV [] []<|ah 3 13 h (fun h=>aa<|⟨_,_,_,_,h,lo []⟩) fun h=>ag false 1 15 [.i p2] h (fun _=>cR) fun r2 h=>ah 3 18 h (fun h=>aa<|⟨_,_,_,_,h,lo []⟩) fun h=>aR 2 149 5 aq h fun y3 h _=>ag false 2 24 [.i y3.bw] h (fun _=>cR) fun r4 h=>ah 3 27 h (fun h=>aa<|⟨_,_,_,_,h,lo []⟩) fun h=>aR 2 149 5 aq h fun y5 h _=>ag false 2 33 [.i y5.c8] h (fun _=>cR) fun r6 h=>aa<|⟨_,_,_,_,h,lo []⟩
theorem Nj {u p0 r} (h:vL u p0=some r):ak Tryz.prog 242 [V.i p0] (.one (.ow 3 1 (r.map (aw .i64)))) []:=by
 unfold vL at h
 refine b8 Tryz.f242 true ?_
 refine ae<|ae<|kC (fun x9=>tQ u x9=some r) (fun x9=>⟨[(2,.nil),(3,.own 196609)],[],[(196609,.live 3 1 (x9.map (aw .i64)))]⟩) (fun x9 h=>ae<|by cases h;exact Wp.ret aj)<|ae<|Wp.block<|ef (fun gw p0 x3 x4=>i9 u gw p0 x3 x4=some r) (fun p0 x3 x4=>⟨[(0,.i p0),(2,.nil),(3,.own 196609),(4,.i x4)],[],[(196609,.live 3 1 (x3.map (aw .i64)))]⟩) (fun gw p0 x3 x4 h=>?_) h (lo [(196609,327680)]) (fun _ _ _  h=>nomatch h)
 rw [i9] at h
 exact Wp.seq<|ae<|al h (fun h=>aC<|lx (fun p0 x8 x4=>kW u (fun z0 z1 z2=>i9 u gw z0 z1 z2) p0 x8 x4=some r) (fun p0 x8 x4=>⟨[(0,.i p0),(2,.nil),(3,.own 196609),(4,.i x4)],[],[(196609,.live 3 1 (x8.map (aw .i64)))]⟩) (fun p0 x8 x4 h=>aV [] []<|aa<|⟨_,_,_,h,lo []⟩)<|Wp.block<|aL false 2 12 [.i p0,.i x4] h (fun _=>lI) fun r7 h=>al h (fun h=>aV [] []<|cg 3 16 3 1 196609 (aw .i64) h fun h=>ab.all kr<|b6<|aO<|⟨_,_,_,h,lo [(196609,1048576)]⟩) fun h=>Wp.skip<|b6<|aO<|⟨_,_,_,h,lo []⟩) fun h=>Wp.exit<|aZ<|aZ<|dj<|aO<|⟨_,h,lo []⟩
theorem Em {u p0 p1 p2 r} (h:pq u p0 p1 p2=some r):ak Tryz.prog 243 [cO (ai p0),cO (cJ p1),V.i p2] (.tup [.one (.ow 5 1 (r.1.map (aw .u8))),V.b r.2]) []:=by
 unfold pq at h
 refine b8 Tryz.f243 true ?_
 refine ae<|Wp.seq<|nO (fun p2 x3 p0 p1=>tR u p2 x3 p0 p1=some r) (fun p2 x3 p0 p1=>⟨[(2,.i p2),(3,.obj 3 0),(4,.obj 4 0),(6,.nil),(7,.b false),(20,.b x3)],[(3,((ai p0).map .t)),(4,[.i p1.aT,.s p1.bh])],[]⟩) (fun p2 x3 p0 p1 h=>?_) ?_
 ·refine al h (fun h=>ae<|by cases h;exact Wp.ret aj) fun h=>aC<|aL false 5 28 [.i p0.aS,.i p0.aY,.i p2] h (fun _=>mM) fun r4 h=>aE<|bc 7 kr ?_
  obtain ⟨_,e_5,h⟩:=bind_some h
  exact eS (e:=5) (ax:=.s p1.bh) (alo:=(some (.i r4.1))) (ahi:=(some (.i (aX .i64 r4.1 r4.2)))) (aw .u8) p1.bh 1 r4.1 (aX .i64 r4.1 r4.2) rfl kr kr kr kr kr kr kr kr kr kr kr (bj e_5)<|cg 0 39 5 1 2031616 (aw .u8) h fun h=>aa<|by cases h;exact Wp.ret aj
 exact aV [] []<|ag false 2 12 [.agg ((ai p0).map .t),.agg [.i p1.aT,.s p1.bh]] h (fun _=>ui) fun r1 h=>ah 2 14 h (fun h=>aa<|⟨_,_,_,_,h,lo []⟩) fun h=>ag false 3 18 [.i p1.aT,.i p2] h (fun _=>lI) fun r2 h=>aa<|⟨_,_,_,_,h,lo []⟩
theorem Eo {u p0 p1 p2 r} (h:pr u p0 p1 p2=some r):ak Tryz.prog 244 [V.i p0,V.i p1,.one (.s p2)] (V.w [0,0,0,0,0,0,0,0,0,5] (dA r)) []:=by
 unfold pr at h
 refine b8 Tryz.f244 true ?_
 exact ae<|aE<|cg 4 11 5 1 589824 (aw .u8) h fun h=>aa<|by cases h;exact Wp.ret aj
theorem Dh {u p0 p1 p2 r} (h:qe u p0 p1 p2=some r):ak Tryz.prog 245 [.one (.t (.sl 5 (p0.map aq))),V.i p1,V.i p2] (.one (.ow 149 5 (r.map aq))) []:=by
 unfold qe at h
 refine b8 Tryz.f245 true ?_
 exact ae<|aE<|cg 2 12 149 5 655360 aq h fun h=>aa<|aL false 2 15 [.t (.sl 5 (p0.map aq)),.i p1] h (fun _=>Cl) fun r2 h=>Wp.seq<|nO (fun p2 p0 r2 x6=>oB u p2 p0 r2 x6=some r) (fun p2 p0 r2 x6=>⟨[(2,.i p2),(6,.nil),(7,.own 458753),(8,.i r2),(31,.b x6)],[],[(458753,.live 149 5 (((([]:List Kid))++p0).map aq))]⟩) (fun p2 p0 r2 x6 h=>al h (fun h=>ae<|by cases h;exact Wp.ret aj) fun h=>aC<|aE<|cI 2 149 5 458753 149 aq h fun y7 h e_y7=>iN 0 5 5 458753 0 149 true aq ((cq e_y7).2)<|aa<|ae<|aE<|cI 3 149 5 458753 149 aq h fun y8 h e_y8=>gm (e:=149) (sz:=5) (m:=5) aq ((([]:List Kid))++p0) 458753 (Int.toNat r2) 0 ((Kid.mk y7.fb y7.bw y7.bL y7.qM (sV .i64 y7.c8 p2))) (.agg [.i y7.fb,.i y7.bw,.i y7.bL,.i y7.qM,.i (sV .i64 y7.c8 p2)]) [.int .i64 y7.fb,.int .i64 y7.bw,.int .i64 y7.bL,.int .i64 y7.qM,.int .i64 (sV .i64 y7.c8 p2)] rfl kr kr kr kr kr kr kr kr ((cq e_y8).2) kr kr<|aa<|ae<|by cases h;exact Wp.ret aj)<|aV [] []<|ah 3 18 h (fun h=>aa<|⟨_,_,_,_,h,lo [(458753,786432)]⟩) fun h=>ag false 1 20 [.i p2] h (fun _=>cR) fun r3 h=>ah 3 23 h (fun h=>aa<|⟨_,_,_,_,h,lo [(458753,786432)]⟩) fun h=>aR 2 149 5 aq h fun y4 h _=>ag false 2 29 [.i y4.c8] h (fun _=>cR) fun r5 h=>aa<|⟨_,_,_,_,h,lo [(458753,786432)]⟩
theorem Jh {u p0 p1 p2 r} (h:qZ u p0 p1 p2=some r):ak Tryz.prog 203 [cO (ay p0),V.i p1,V.i p2] (V.w [0,0,0,0,0,0,176,0,5,0,149,0,118] (tL r)) []:=by
 unfold qZ at h
 refine b8 Tryz.f203 true ?_
 refine ae<|aL false 1 14 [.agg ((ay p0).map .t)] h (fun _=>gS) fun r1 h=>Wp.seq<|aK (jQ []) (bR [(2,.frz),(3,.obj 3),(17,.obj 3),(18,.frz),(19,.frz),(20,.frz),(21,.frz),(22,.frz)]) kr kr<|ag false 4 21 [.agg ((ay p0).map .t)] h (fun _=>E8) fun r2 h=>ag false 0 22 [.t (.sl 5 (p0.aN.map aq)),.i p2,.i r2] h (fun _=>E9) fun r3 h=>aa<|aL false 1 24 [.i r3] h (fun _=>Nj) fun r4 h=>wF (fun p2 r3 p0 r1 x17=>qB u p2 r3 p0 r1 x17=some r) (fun p2 r3 p0 r1 x17=>⟨[(2,.i p2),(3,.obj 3 0),(6,.obj 6 0),(7,.obj 7 0),(8,.i r3)],[(3,((ay p0).map .t)),(6,[.b false,.i 0,.i 0,.i 0,.i 0,.i 0,.nil,.i 0,.nil,.i 0,.nil,.i 0,.nil]),(7,[.b r1.fK,.i r1.bf,.i r1.be,.i r1.av.aP,.i r1.av.aS,.i r1.av.aY,.own 459270,.i r1.a7.aT,.own 459272,.i r1.aJ,.own 459274,.i r1.a8,.own 459276])],[(459270,.live 176 2 (r1.av.aD.map aH)),(459272,.live 5 1 (r1.a7.bh.map (aw .u8))),(459274,.live 149 5 (r1.aN.map aq)),(459276,.live 118 3 (x17.map aI))]⟩) (fun p2 r3 p0 r1 x17 h=>aL false 4 65 [.t (.sl 5 (p0.aN.map aq)),.i p2,.i r3] h (fun _=>Dh) fun r18 h=>ae<|by cases h;exact Wp.ret aj)<|ae<|Wp.block<|PD (fun eO p1 p2 r3 r4 x7 p0 r1 x8=>gc u eO p1 p2 r3 r4 x7 p0 r1 x8=some r) (fun p1 p2 r3 r4 x7 p0 r1 x8=>⟨[(1,.i p1),(2,.i p2),(3,.obj 3 0),(6,.obj 6 0),(7,.obj 7 0),(8,.i r3),(9,.own 589825),(10,.i x7)],[(3,((ay p0).map .t)),(6,[.b false,.i 0,.i 0,.i 0,.i 0,.i 0,.nil,.i 0,.nil,.i 0,.nil,.i 0,.nil]),(7,[.b r1.fK,.i r1.bf,.i r1.be,.i r1.av.aP,.i r1.av.aS,.i r1.av.aY,.own 459270,.i r1.a7.aT,.own 459272,.i r1.aJ,.own 459274,.i r1.a8,.own 459276])],[(459270,.live 176 2 (r1.av.aD.map aH)),(459272,.live 5 1 (r1.a7.bh.map (aw .u8))),(459274,.live 149 5 (r1.aN.map aq)),(459276,.live 118 3 (x8.map aI)),(589825,.live 3 1 (r4.map (aw .i64)))]⟩) (fun eO p1 p2 r3 r4 x7 p0 r1 x8 h=>?_) h (lo [(589825,1572864),(459270,917510),(459272,917512),(459274,917514),(459276,983040)]) (fun _ _ _ _ _ _ _ _  h=>nomatch h)
 rw [gc] at h
 exact Wp.seq<|aE<|ar 2 3 (aw .i64) r4<|aa<|al h (fun h=>aC<|PC (fun p1 p2 r3 r4 x7 p0 r1 x16=>kp u (fun z0 z1 z2 z3 z4 z5 z6 z7=>gc u eO z0 z1 z2 z3 z4 z5 z6 z7) p1 p2 r3 r4 x7 p0 r1 x16=some r) (fun p1 p2 r3 r4 x7 p0 r1 x16=>⟨[(1,.i p1),(2,.i p2),(3,.obj 3 0),(6,.obj 6 0),(7,.obj 7 0),(8,.i r3),(9,.own 589825),(10,.i x7)],[(3,((ay p0).map .t)),(6,[.b false,.i 0,.i 0,.i 0,.i 0,.i 0,.nil,.i 0,.nil,.i 0,.nil,.i 0,.nil]),(7,[.b r1.fK,.i r1.bf,.i r1.be,.i r1.av.aP,.i r1.av.aS,.i r1.av.aY,.own 459270,.i r1.a7.aT,.own 459272,.i r1.aJ,.own 459274,.i r1.a8,.own 459276])],[(459270,.live 176 2 (r1.av.aD.map aH)),(459272,.live 5 1 (r1.a7.bh.map (aw .u8))),(459274,.live 149 5 (r1.aN.map aq)),(459276,.live 118 3 (x16.map aI)),(589825,.live 3 1 (r4.map (aw .i64)))]⟩) (fun p1 p2 r3 r4 x7 p0 r1 x16 h=>aV [] []<|aa<|⟨_,_,_,_,_,_,_,_,h,lo []⟩)<|Wp.block<|Wp.seq<|aK (jQ []) (bR [(3,.obj 3),(9,.own 9),(10,.frz),(32,.obj 3),(33,.frz),(34,.obj 3),(35,.frz),(36,.own 9),(37,.frz),(38,.el 9),(39,.frz),(41,.own 40),(42,.frz)]) kr kr<|cI 6 3 1 589825 3 (aw .i64) h fun y11 h e_y11=>iN 0 1 1 589825 0 3 false (aw .i64) ((cq e_y11).2)<|ag false 0 40 [.agg ((ai p0.av).map .t),.agg [.i p0.a7.aT,.s p0.a7.bh],.i y11] h (fun _=>Em) fun r12 h=>aa<|ae<|al h (fun h=>aK (jQ []) (bR [(1,.frz),(2,.frz),(3,.obj 3),(7,.obj 7),(9,.own 9),(10,.frz),(11,.own 40),(44,.obj 7),(45,.own 7),(46,.frz),(47,.frz),(48,.obj 3),(49,.obj 3),(50,.frz),(51,.own 9),(52,.frz),(53,.el 9),(54,.frz),(55,.own 40),(56,.own 56),(57,.own 57),(58,.own 58),(59,.own 59),(60,.obj 7)]) kr kr<|cI 9 3 1 589825 3 (aw .i64) h fun y13 h e_y13=>iN 0 1 1 589825 0 3 false (aw .i64) ((cq e_y13).2)<|ag false 1 56 [.i p0.av.aP,.i y13,.own 2621440] h (fun _=>Eo) fun r14 h=>ag false 0 57 [.i p1,.i p2,.agg [.i r14.bz,.i r14.aP,.i r14.av.aP,.i r14.av.aS,.i r14.av.aY,.t (.sl 2 (r14.av.aD.map aH)),.i r14.bw,.i r14.bL,.i r14.fI,.own 3670025]] h (fun _=>oS) fun r15 h=>cg (ys:=[r15]) 1 59 118 3 459276 aI h fun h=>ab.all kr<|b6<|aO<|⟨_,_,_,_,_,_,_,_,h,lo [(459276,3866624)]⟩) fun h=>Wp.skip<|b6<|aO<|⟨_,_,_,_,_,_,_,_,h,lo []⟩) fun h=>Wp.exit<|aZ<|aZ<|dj<|aO<|⟨_,_,_,_,_,h,lo []⟩
theorem Hp {u p0 p1 p2 p3 r} (h:pJ u p0 p1 p2 p3=some r):ak Tryz.prog 154 [cO (ay p0),V.i p1,V.i p2,cO (dA p3)] (V.w [0,0,0,0,0,0,176,0,5,0,149,0,118] (tL r)) []:=by
 unfold pJ at h
 refine b8 Tryz.f154 true ?_
 exact ae<|aL false 1 12 [.agg ((ay p0).map .t)] h (fun _=>gS) fun r1 h=>Wp.seq<|ae<|al h (fun h=>ae<|by cases h;exact Wp.ret aj) fun h=>aC<|aL false 7 26 [.t (.sl 5 (p0.aN.map aq)),.i p2,.i p3.bw,.i p3.bL] h (fun _=>Tz) fun r2 h=>lx (fun r1 r2 x10=>pt u r1 r2 x10=some r) (fun r1 r2 x10=>⟨[(8,.obj 8 0),(9,.obj 9 0)],[(8,[.b false,.i 0,.i 0,.i 0,.i 0,.i 0,.nil,.i 0,.nil,.i 0,.nil,.i 0,.nil]),(9,[.b r1.fK,.i r1.bf,.i r1.be,.i r1.av.aP,.i r1.av.aS,.i r1.av.aY,.own 590342,.i r1.a7.aT,.own 590344,.i r1.aJ,.own 590346,.i r1.a8,.own 590348])],[(590342,.live 176 2 (r1.av.aD.map aH)),(590344,.live 5 1 (r1.a7.bh.map (aw .u8))),(590346,.live 149 5 (r2.map aq)),(590348,.live 118 3 (x10.map aI))]⟩) (fun r1 r2 x10 h=>ae<|by cases h;exact Wp.ret aj)<|Wp.block<|ae<|al h (fun h=>aK (jQ []) (bR [(1,.frz),(2,.frz),(9,.obj 9),(55,.obj 9),(56,.own 13),(57,.frz),(58,.frz),(59,.frz),(60,.own 60),(61,.own 61),(62,.own 62),(63,.obj 9)]) kr kr<|ag false 5 60 [.i p1,.i p2,.agg [.i 4,.i 0,.i 0,.i 0,.i 0,.nil,.i 0,.i 0,.i 0,.nil]] h (fun _=>oS) fun r3 h=>cg (ys:=[r3]) 1 62 118 3 851968 aI h fun h=>ab.all kr<|b6<|aO<|⟨_,_,_,h,lo [(590342,786438),(590344,786440),(590346,1703936),(590348,4063232)]⟩) fun h=>ae<|al h (fun h=>aK (jQ []) (bR [(1,.frz),(2,.frz),(4,.obj 4),(9,.obj 9),(71,.obj 9),(72,.own 13),(73,.frz),(74,.frz),(75,.obj 4),(76,.frz),(77,.frz),(78,.own 78),(79,.own 79),(80,.own 80),(81,.obj 9)]) kr kr<|ag false 7 78 [.i p1,.i p2,.agg [.i 1,.i 0,.i p0.av.aP,.i p0.av.aS,.i p0.av.aY,.t (.sl 2 (p0.av.aD.map aH)),.i 0,.i 0,.i 0,.nil]] h (fun _=>oS) fun r5 h=>cg (ys:=[r5]) 1 80 118 3 851968 aI h fun h=>ab.all kr<|b6<|aO<|⟨_,_,_,h,lo [(590342,786438),(590344,786440),(590346,1703936),(590348,5242880)]⟩) fun h=>aL false 4 33 [.agg [.b r1.fK,.i r1.bf,.i r1.be,.i r1.av.aP,.i r1.av.aS,.i r1.av.aY,.own 786438,.i r1.a7.aT,.own 786440,.i r1.aJ,.own 1703936,.i r1.a8],.i p1,.i p2] h (fun _=>Jh) fun r7 h=>pj ⟨[(1,.i p1),(2,.i p2),(4,.obj 4 0),(8,.obj 8 0),(9,.obj 9 0),(10,.obj 10 0)],[(4,((ay p0).map .t)),(8,[.b false,.i 0,.i 0,.i 0,.i 0,.i 0,.nil,.i 0,.nil,.i 0,.nil,.i 0,.nil]),(9,[.b r1.fK,.i r1.bf,.i r1.be,.i r1.av.aP,.i r1.av.aS,.i r1.av.aY,.own 786438,.i r1.a7.aT,.own 786440,.i r1.aJ,.own 1703936,.i r1.a8,.own 851968]),(10,[.b r7.fN.fK,.i r7.fN.bf,.i r7.fN.be,.i r7.fN.av.aP,.i r7.fN.av.aS,.i r7.fN.av.aY,.own 2162694,.i r7.fN.a7.aT,.own 2162696,.i r7.fN.aJ,.own 2162698,.i r7.fN.a8,.own 2162700])],[(786438,.frz 2 (r1.av.aD.map aH)),(786440,.frz 1 (r1.a7.bh.map (aw .u8))),(851968,.live 118 3 ((([]:List au)).map aI)),(1703936,.frz 5 (r2.map aq)),(2162694,.live 176 2 (r7.fN.av.aD.map aH)),(2162696,.live 5 1 (r7.fN.a7.bh.map (aw .u8))),(2162698,.live 149 5 (r7.fN.aN.map aq)),(2162700,.live 118 3 (r7.sU.map aI))]⟩<|nO (fun r1 r2 r7 x9=>pu u r1 r2 r7 x9=some r) (fun r1 r2 r7 x9=>⟨[(8,.obj 8 0),(9,.obj 9 0),(10,.obj 10 0)],[(8,[.b false,.i 0,.i 0,.i 0,.i 0,.i 0,.nil,.i 0,.nil,.i 0,.nil,.i 0,.nil]),(9,[.b r1.fK,.i r1.bf,.i r1.be,.i r1.av.aP,.i r1.av.aS,.i r1.av.aY,.t (.sl 2 (r1.av.aD.map aH)),.i r1.a7.aT,.s r1.a7.bh,.i r1.aJ,.t (.sl 5 (r2.map aq)),.i r1.a8,.own 590348]),(10,[.b r7.fN.fK,.i r7.fN.bf,.i r7.fN.be,.i r7.fN.av.aP,.i r7.fN.av.aS,.i r7.fN.av.aY,.own 655878,.i r7.fN.a7.aT,.own 655880,.i r7.fN.aJ,.own 655882,.i r7.fN.a8,.own 655884])],[(590348,.live 118 3 ((([]:List au)).map aI)),(655878,.live 176 2 (r7.fN.av.aD.map aH)),(655880,.live 5 1 (r7.fN.a7.bh.map (aw .u8))),(655882,.live 149 5 (r7.fN.aN.map aq)),(655884,.live 118 3 (x9.map aI))]⟩) (fun r1 r2 r7 x9 h=>ae<|by cases h;exact Wp.ret aj)<|aE<|ar 2 118 aI r7.sU<|aa<|al h (fun h=>aK (jQ []) (bR [(1,.frz),(2,.frz),(4,.obj 4),(10,.obj 10),(38,.obj 10),(39,.own 33),(40,.frz),(41,.frz),(42,.obj 4),(43,.obj 4),(44,.frz),(45,.frz),(46,.own 46),(47,.own 47),(48,.own 48),(49,.obj 10)]) kr kr<|ag false 8 46 [.i p1,.i p2,.agg [.i 4,.i p0.av.aP,.i 0,.i 0,.i 0,.nil,.i 0,.i 0,.i 0,.nil]] h (fun _=>oS) fun r8 h=>cg (ys:=[r8]) 1 48 118 3 2162700 aI h fun h=>aa<|⟨_,_,_,_,h,Le.trans (B3 9 6 786438 2 [.b r1.fK,.i r1.bf,.i r1.be,.i r1.av.aP,.i r1.av.aS,.i r1.av.aY,.own 786438,.i r1.a7.aT,.own 786440,.i r1.aJ,.own 1703936,.i r1.a8,.own 851968] (r1.av.aD.map aH) kr kr kr) (Le.trans (B3 9 8 786440 1 [.b r1.fK,.i r1.bf,.i r1.be,.i r1.av.aP,.i r1.av.aS,.i r1.av.aY,.t (.sl 2 (r1.av.aD.map aH)),.i r1.a7.aT,.own 786440,.i r1.aJ,.own 1703936,.i r1.a8,.own 851968] (r1.a7.bh.map (aw .u8)) kr kr kr) (Le.trans (B3 9 10 1703936 5 [.b r1.fK,.i r1.bf,.i r1.be,.i r1.av.aP,.i r1.av.aS,.i r1.av.aY,.t (.sl 2 (r1.av.aD.map aH)),.i r1.a7.aT,.s r1.a7.bh,.i r1.aJ,.own 1703936,.i r1.a8,.own 851968] (r2.map aq) kr kr kr) (lo [(590348,851968),(655878,2162694),(655880,2162696),(655882,2162698),(655884,3145728)])))⟩) fun h=>aC<|⟨_,_,_,_,h,Le.trans (B3 9 6 786438 2 [.b r1.fK,.i r1.bf,.i r1.be,.i r1.av.aP,.i r1.av.aS,.i r1.av.aY,.own 786438,.i r1.a7.aT,.own 786440,.i r1.aJ,.own 1703936,.i r1.a8,.own 851968] (r1.av.aD.map aH) kr kr kr) (Le.trans (B3 9 8 786440 1 [.b r1.fK,.i r1.bf,.i r1.be,.i r1.av.aP,.i r1.av.aS,.i r1.av.aY,.t (.sl 2 (r1.av.aD.map aH)),.i r1.a7.aT,.own 786440,.i r1.aJ,.own 1703936,.i r1.a8,.own 851968] (r1.a7.bh.map (aw .u8)) kr kr kr) (Le.trans (B3 9 10 1703936 5 [.b r1.fK,.i r1.bf,.i r1.be,.i r1.av.aP,.i r1.av.aS,.i r1.av.aY,.t (.sl 2 (r1.av.aD.map aH)),.i r1.a7.aT,.s r1.a7.bh,.i r1.aJ,.own 1703936,.i r1.a8,.own 851968] (r2.map aq) kr kr kr) (lo [(590348,851968),(655878,2162694),(655880,2162696),(655882,2162698),(655884,2162700)])))⟩
theorem Li {u p0 r} (h:s8 u p0=some r):ak Tryz.prog 288 [cO (ai p0)] (V.w [0,5] (cJ r)) []:=by
 unfold s8 at h
 refine b8 Tryz.f288 true ?_
 refine ae<|Wp.seq<|aL false 1 4 [.agg ((ai p0).map .t)] h (fun _=>nZ) fun r1 h=>al h (fun h=>ae<|by cases h;exact Wp.ret aj) fun h=>aC<|aE<|bc 2 kr ?_
 obtain ⟨_,e_2,h⟩:=bind_some h
 obtain ⟨_,e_3,h⟩:=bind_some h
 exact nN (aw .u8) (0:Int) 9 5 1 1 p0.aY p0.aY rfl rfl kr kr kr kr kr kr (bj e_2) (of_decide_eq_true (bj e_3)) kr<|aa<|by cases h;exact Wp.ret aj
theorem Ji {u p0 r} (h:Am u p0=some r):ak Tryz.prog 310 [V.i p0] (V.b r) []:=by
 unfold Am at h
 refine b8 Tryz.f310 false ?_
 exact ae<|aL false 1 4 [.i p0,.i 0,.i 63000] h (fun _=>bg) fun r1 h=>by cases h;exact Wp.ret aj
theorem Hq {u p0 r} (h:pK u p0=some r):ak Tryz.prog 311 [V.i p0] (.tup [V.i r.1,V.i r.2]) []:=by
 unfold pK at h
 refine b8 Tryz.f311 false ?_
 exact ae<|Wp.seq<|aL false 1 5 [.i p0] h (fun _=>Ji) fun r1 h=>al h (fun h=>ae<|by cases h;exact Wp.ret aj) fun h=>aC<|ae<|by cases h;exact Wp.ret aj
end Go.Tm
