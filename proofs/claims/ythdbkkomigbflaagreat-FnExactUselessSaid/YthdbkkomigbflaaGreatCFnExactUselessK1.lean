/- The functions as they are translated do what the pure functions say (printed). -/
import Derived.Test.YthdbkkomigbflaaGreatCFnExactUselessD
import Derived.Test.YthdbkkomigbflaaGreatProg
set_option maxRecDepth 100000
set_option maxHeartbeats 20000000
set_option linter.unusedVariables false
set_option linter.unusedSimpArgs false
namespace Go.Tm
open Go.Proofs
section
variable {P:Program} {n:Nat} {ls:List Nat} {Q:Exit→St→Prop} {st:St} {x y:Code} {α0 α1 α2 α3 α4 α5 α6 α7 α8 α9 α10 α11 α12 α13 α14 α15 α16 α17 α18 α19 α20:Type}
theorem io (G:Prop) (S:Sx) (J:G→Wp P n ls y Q (S).st) (h:Wp P n ls x (mM (fun s=>G∧Le n ls s (S).st) Q) st):Wp P n ls (.seq x y) Q st:=Lh _ (fun s ⟨h,e⟩=>Wp.le e (J h)) h
theorem jL (G:α0→Prop) (S:α0→Sx) (J:∀ v0,G v0→Wp P n ls y Q (S v0).st) (h:Wp P n ls x (mM (fun s=>∃ v0,G v0∧Le n ls s (S v0).st) Q) st):Wp P n ls (.seq x y) Q st:=Lh _ (fun s ⟨v0,h,e⟩=>Wp.le e (J v0 h)) h
theorem pn (G:α0→α1→Prop) (S:α0→α1→Sx) (J:∀ v0 v1,G v0 v1→Wp P n ls y Q (S v0 v1).st) (h:Wp P n ls x (mM (fun s=>∃ v0 v1,G v0 v1∧Le n ls s (S v0 v1).st) Q) st):Wp P n ls (.seq x y) Q st:=Lh _ (fun s ⟨v0,v1,h,e⟩=>Wp.le e (J v0 v1 h)) h
theorem kh (G:α0→α1→α2→Prop) (S:α0→α1→α2→Sx) (J:∀ v0 v1 v2,G v0 v1 v2→Wp P n ls y Q (S v0 v1 v2).st) (h:Wp P n ls x (mM (fun s=>∃ v0 v1 v2,G v0 v1 v2∧Le n ls s (S v0 v1 v2).st) Q) st):Wp P n ls (.seq x y) Q st:=Lh _ (fun s ⟨v0,v1,v2,h,e⟩=>Wp.le e (J v0 v1 v2 h)) h
theorem m2 (G:α0→α1→α2→α3→Prop) (S:α0→α1→α2→α3→Sx) (J:∀ v0 v1 v2 v3,G v0 v1 v2 v3→Wp P n ls y Q (S v0 v1 v2 v3).st) (h:Wp P n ls x (mM (fun s=>∃ v0 v1 v2 v3,G v0 v1 v2 v3∧Le n ls s (S v0 v1 v2 v3).st) Q) st):Wp P n ls (.seq x y) Q st:=Lh _ (fun s ⟨v0,v1,v2,v3,h,e⟩=>Wp.le e (J v0 v1 v2 v3 h)) h
theorem wL (G:α0→α1→α2→α3→α4→Prop) (S:α0→α1→α2→α3→α4→Sx) (J:∀ v0 v1 v2 v3 v4,G v0 v1 v2 v3 v4→Wp P n ls y Q (S v0 v1 v2 v3 v4).st) (h:Wp P n ls x (mM (fun s=>∃ v0 v1 v2 v3 v4,G v0 v1 v2 v3 v4∧Le n ls s (S v0 v1 v2 v3 v4).st) Q) st):Wp P n ls (.seq x y) Q st:=Lh _ (fun s ⟨v0,v1,v2,v3,v4,h,e⟩=>Wp.le e (J v0 v1 v2 v3 v4 h)) h
theorem Jk (G:α0→α1→α2→α3→α4→α5→Prop) (S:α0→α1→α2→α3→α4→α5→Sx) (J:∀ v0 v1 v2 v3 v4 v5,G v0 v1 v2 v3 v4 v5→Wp P n ls y Q (S v0 v1 v2 v3 v4 v5).st) (h:Wp P n ls x (mM (fun s=>∃ v0 v1 v2 v3 v4 v5,G v0 v1 v2 v3 v4 v5∧Le n ls s (S v0 v1 v2 v3 v4 v5).st) Q) st):Wp P n ls (.seq x y) Q st:=Lh _ (fun s ⟨v0,v1,v2,v3,v4,v5,h,e⟩=>Wp.le e (J v0 v1 v2 v3 v4 v5 h)) h
theorem qad (G:α0→α1→α2→α3→α4→α5→α6→Prop) (S:α0→α1→α2→α3→α4→α5→α6→Sx) (J:∀ v0 v1 v2 v3 v4 v5 v6,G v0 v1 v2 v3 v4 v5 v6→Wp P n ls y Q (S v0 v1 v2 v3 v4 v5 v6).st) (h:Wp P n ls x (mM (fun s=>∃ v0 v1 v2 v3 v4 v5 v6,G v0 v1 v2 v3 v4 v5 v6∧Le n ls s (S v0 v1 v2 v3 v4 v5 v6).st) Q) st):Wp P n ls (.seq x y) Q st:=Lh _ (fun s ⟨v0,v1,v2,v3,v4,v5,v6,h,e⟩=>Wp.le e (J v0 v1 v2 v3 v4 v5 v6 h)) h
theorem PM (G:α0→α1→α2→α3→α4→α5→α6→α7→Prop) (S:α0→α1→α2→α3→α4→α5→α6→α7→Sx) (J:∀ v0 v1 v2 v3 v4 v5 v6 v7,G v0 v1 v2 v3 v4 v5 v6 v7→Wp P n ls y Q (S v0 v1 v2 v3 v4 v5 v6 v7).st) (h:Wp P n ls x (mM (fun s=>∃ v0 v1 v2 v3 v4 v5 v6 v7,G v0 v1 v2 v3 v4 v5 v6 v7∧Le n ls s (S v0 v1 v2 v3 v4 v5 v6 v7).st) Q) st):Wp P n ls (.seq x y) Q st:=Lh _ (fun s ⟨v0,v1,v2,v3,v4,v5,v6,v7,h,e⟩=>Wp.le e (J v0 v1 v2 v3 v4 v5 v6 v7 h)) h
theorem Zt (G:α0→α1→α2→α3→α4→α5→α6→α7→α8→Prop) (S:α0→α1→α2→α3→α4→α5→α6→α7→α8→Sx) (J:∀ v0 v1 v2 v3 v4 v5 v6 v7 v8,G v0 v1 v2 v3 v4 v5 v6 v7 v8→Wp P n ls y Q (S v0 v1 v2 v3 v4 v5 v6 v7 v8).st) (h:Wp P n ls x (mM (fun s=>∃ v0 v1 v2 v3 v4 v5 v6 v7 v8,G v0 v1 v2 v3 v4 v5 v6 v7 v8∧Le n ls s (S v0 v1 v2 v3 v4 v5 v6 v7 v8).st) Q) st):Wp P n ls (.seq x y) Q st:=Lh _ (fun s ⟨v0,v1,v2,v3,v4,v5,v6,v7,v8,h,e⟩=>Wp.le e (J v0 v1 v2 v3 v4 v5 v6 v7 v8 h)) h
theorem Yo (G:α0→α1→α2→α3→α4→α5→α6→α7→α8→α9→α10→Prop) (S:α0→α1→α2→α3→α4→α5→α6→α7→α8→α9→α10→Sx) (J:∀ v0 v1 v2 v3 v4 v5 v6 v7 v8 v9 v10,G v0 v1 v2 v3 v4 v5 v6 v7 v8 v9 v10→Wp P n ls y Q (S v0 v1 v2 v3 v4 v5 v6 v7 v8 v9 v10).st) (h:Wp P n ls x (mM (fun s=>∃ v0 v1 v2 v3 v4 v5 v6 v7 v8 v9 v10,G v0 v1 v2 v3 v4 v5 v6 v7 v8 v9 v10∧Le n ls s (S v0 v1 v2 v3 v4 v5 v6 v7 v8 v9 v10).st) Q) st):Wp P n ls (.seq x y) Q st:=Lh _ (fun s ⟨v0,v1,v2,v3,v4,v5,v6,v7,v8,v9,v10,h,e⟩=>Wp.le e (J v0 v1 v2 v3 v4 v5 v6 v7 v8 v9 v10 h)) h
theorem ZH (G:α0→α1→α2→α3→α4→α5→α6→α7→α8→α9→α10→α11→Prop) (S:α0→α1→α2→α3→α4→α5→α6→α7→α8→α9→α10→α11→Sx) (J:∀ v0 v1 v2 v3 v4 v5 v6 v7 v8 v9 v10 v11,G v0 v1 v2 v3 v4 v5 v6 v7 v8 v9 v10 v11→Wp P n ls y Q (S v0 v1 v2 v3 v4 v5 v6 v7 v8 v9 v10 v11).st) (h:Wp P n ls x (mM (fun s=>∃ v0 v1 v2 v3 v4 v5 v6 v7 v8 v9 v10 v11,G v0 v1 v2 v3 v4 v5 v6 v7 v8 v9 v10 v11∧Le n ls s (S v0 v1 v2 v3 v4 v5 v6 v7 v8 v9 v10 v11).st) Q) st):Wp P n ls (.seq x y) Q st:=Lh _ (fun s ⟨v0,v1,v2,v3,v4,v5,v6,v7,v8,v9,v10,v11,h,e⟩=>Wp.le e (J v0 v1 v2 v3 v4 v5 v6 v7 v8 v9 v10 v11 h)) h
theorem ZI (G:α0→α1→α2→α3→α4→α5→α6→α7→α8→α9→α10→α11→α12→α13→α14→α15→α16→α17→α18→α19→α20→Prop) (S:α0→α1→α2→α3→α4→α5→α6→α7→α8→α9→α10→α11→α12→α13→α14→α15→α16→α17→α18→α19→α20→Sx) (J:∀ v0 v1 v2 v3 v4 v5 v6 v7 v8 v9 v10 v11 v12 v13 v14 v15 v16 v17 v18 v19 v20,G v0 v1 v2 v3 v4 v5 v6 v7 v8 v9 v10 v11 v12 v13 v14 v15 v16 v17 v18 v19 v20→Wp P n ls y Q (S v0 v1 v2 v3 v4 v5 v6 v7 v8 v9 v10 v11 v12 v13 v14 v15 v16 v17 v18 v19 v20).st) (h:Wp P n ls x (mM (fun s=>∃ v0 v1 v2 v3 v4 v5 v6 v7 v8 v9 v10 v11 v12 v13 v14 v15 v16 v17 v18 v19 v20,G v0 v1 v2 v3 v4 v5 v6 v7 v8 v9 v10 v11 v12 v13 v14 v15 v16 v17 v18 v19 v20∧Le n ls s (S v0 v1 v2 v3 v4 v5 v6 v7 v8 v9 v10 v11 v12 v13 v14 v15 v16 v17 v18 v19 v20).st) Q) st):Wp P n ls (.seq x y) Q st:=Lh _ (fun s ⟨v0,v1,v2,v3,v4,v5,v6,v7,v8,v9,v10,v11,v12,v13,v14,v15,v16,v17,v18,v19,v20,h,e⟩=>Wp.le e (J v0 v1 v2 v3 v4 v5 v6 v7 v8 v9 v10 v11 v12 v13 v14 v15 v16 v17 v18 v19 v20 h)) h
theorem yW (G:Nat→α0→α1→Prop) (S:α0→α1→Sx) (hs:∀ k v0 v1,G (k+1) v0 v1→Wp P n ls x (mM (fun s=>∃ v0 v1,G k v0 v1∧Le n ls s (S v0 v1).st) Q) (S v0 v1).st) {k:Nat} {v0 v1} (h:G k v0 v1) (hl:Le n ls st (S v0 v1).st) (h0:∀ v0 v1,¬ G 0 v0 v1):Wp P n ls (.loop x) Q st:=Wp.L (fun k s=>∃ v0 v1,G k v0 v1∧Le n ls s (S v0 v1).st) (fun s ⟨v0,v1,h,e⟩=>h0 v0 v1 h) (fun k s ⟨v0,v1,h,e⟩=>Wp.le e (hs k v0 v1 h)) ⟨_,_,h,hl⟩
theorem dZ (G:Nat→α0→α1→α2→Prop) (S:α0→α1→α2→Sx) (hs:∀ k v0 v1 v2,G (k+1) v0 v1 v2→Wp P n ls x (mM (fun s=>∃ v0 v1 v2,G k v0 v1 v2∧Le n ls s (S v0 v1 v2).st) Q) (S v0 v1 v2).st) {k:Nat} {v0 v1 v2} (h:G k v0 v1 v2) (hl:Le n ls st (S v0 v1 v2).st) (h0:∀ v0 v1 v2,¬ G 0 v0 v1 v2):Wp P n ls (.loop x) Q st:=Wp.L (fun k s=>∃ v0 v1 v2,G k v0 v1 v2∧Le n ls s (S v0 v1 v2).st) (fun s ⟨v0,v1,v2,h,e⟩=>h0 v0 v1 v2 h) (fun k s ⟨v0,v1,v2,h,e⟩=>Wp.le e (hs k v0 v1 v2 h)) ⟨_,_,_,h,hl⟩
theorem GI (G:Nat→α0→α1→α2→α3→Prop) (S:α0→α1→α2→α3→Sx) (hs:∀ k v0 v1 v2 v3,G (k+1) v0 v1 v2 v3→Wp P n ls x (mM (fun s=>∃ v0 v1 v2 v3,G k v0 v1 v2 v3∧Le n ls s (S v0 v1 v2 v3).st) Q) (S v0 v1 v2 v3).st) {k:Nat} {v0 v1 v2 v3} (h:G k v0 v1 v2 v3) (hl:Le n ls st (S v0 v1 v2 v3).st) (h0:∀ v0 v1 v2 v3,¬ G 0 v0 v1 v2 v3):Wp P n ls (.loop x) Q st:=Wp.L (fun k s=>∃ v0 v1 v2 v3,G k v0 v1 v2 v3∧Le n ls s (S v0 v1 v2 v3).st) (fun s ⟨v0,v1,v2,v3,h,e⟩=>h0 v0 v1 v2 v3 h) (fun k s ⟨v0,v1,v2,v3,h,e⟩=>Wp.le e (hs k v0 v1 v2 v3 h)) ⟨_,_,_,_,h,hl⟩
theorem Jl (G:Nat→α0→α1→α2→α3→α4→Prop) (S:α0→α1→α2→α3→α4→Sx) (hs:∀ k v0 v1 v2 v3 v4,G (k+1) v0 v1 v2 v3 v4→Wp P n ls x (mM (fun s=>∃ v0 v1 v2 v3 v4,G k v0 v1 v2 v3 v4∧Le n ls s (S v0 v1 v2 v3 v4).st) Q) (S v0 v1 v2 v3 v4).st) {k:Nat} {v0 v1 v2 v3 v4} (h:G k v0 v1 v2 v3 v4) (hl:Le n ls st (S v0 v1 v2 v3 v4).st) (h0:∀ v0 v1 v2 v3 v4,¬ G 0 v0 v1 v2 v3 v4):Wp P n ls (.loop x) Q st:=Wp.L (fun k s=>∃ v0 v1 v2 v3 v4,G k v0 v1 v2 v3 v4∧Le n ls s (S v0 v1 v2 v3 v4).st) (fun s ⟨v0,v1,v2,v3,v4,h,e⟩=>h0 v0 v1 v2 v3 v4 h) (fun k s ⟨v0,v1,v2,v3,v4,h,e⟩=>Wp.le e (hs k v0 v1 v2 v3 v4 h)) ⟨_,_,_,_,_,h,hl⟩
theorem Zu (G:Nat→α0→α1→α2→α3→α4→α5→Prop) (S:α0→α1→α2→α3→α4→α5→Sx) (hs:∀ k v0 v1 v2 v3 v4 v5,G (k+1) v0 v1 v2 v3 v4 v5→Wp P n ls x (mM (fun s=>∃ v0 v1 v2 v3 v4 v5,G k v0 v1 v2 v3 v4 v5∧Le n ls s (S v0 v1 v2 v3 v4 v5).st) Q) (S v0 v1 v2 v3 v4 v5).st) {k:Nat} {v0 v1 v2 v3 v4 v5} (h:G k v0 v1 v2 v3 v4 v5) (hl:Le n ls st (S v0 v1 v2 v3 v4 v5).st) (h0:∀ v0 v1 v2 v3 v4 v5,¬ G 0 v0 v1 v2 v3 v4 v5):Wp P n ls (.loop x) Q st:=Wp.L (fun k s=>∃ v0 v1 v2 v3 v4 v5,G k v0 v1 v2 v3 v4 v5∧Le n ls s (S v0 v1 v2 v3 v4 v5).st) (fun s ⟨v0,v1,v2,v3,v4,v5,h,e⟩=>h0 v0 v1 v2 v3 v4 v5 h) (fun k s ⟨v0,v1,v2,v3,v4,v5,h,e⟩=>Wp.le e (hs k v0 v1 v2 v3 v4 v5 h)) ⟨_,_,_,_,_,_,h,hl⟩
theorem qae (G:Nat→α0→α1→α2→α3→α4→α5→α6→Prop) (S:α0→α1→α2→α3→α4→α5→α6→Sx) (hs:∀ k v0 v1 v2 v3 v4 v5 v6,G (k+1) v0 v1 v2 v3 v4 v5 v6→Wp P n ls x (mM (fun s=>∃ v0 v1 v2 v3 v4 v5 v6,G k v0 v1 v2 v3 v4 v5 v6∧Le n ls s (S v0 v1 v2 v3 v4 v5 v6).st) Q) (S v0 v1 v2 v3 v4 v5 v6).st) {k:Nat} {v0 v1 v2 v3 v4 v5 v6} (h:G k v0 v1 v2 v3 v4 v5 v6) (hl:Le n ls st (S v0 v1 v2 v3 v4 v5 v6).st) (h0:∀ v0 v1 v2 v3 v4 v5 v6,¬ G 0 v0 v1 v2 v3 v4 v5 v6):Wp P n ls (.loop x) Q st:=Wp.L (fun k s=>∃ v0 v1 v2 v3 v4 v5 v6,G k v0 v1 v2 v3 v4 v5 v6∧Le n ls s (S v0 v1 v2 v3 v4 v5 v6).st) (fun s ⟨v0,v1,v2,v3,v4,v5,v6,h,e⟩=>h0 v0 v1 v2 v3 v4 v5 v6 h) (fun k s ⟨v0,v1,v2,v3,v4,v5,v6,h,e⟩=>Wp.le e (hs k v0 v1 v2 v3 v4 v5 v6 h)) ⟨_,_,_,_,_,_,_,h,hl⟩
theorem PN (G:Nat→α0→α1→α2→α3→α4→α5→α6→α7→Prop) (S:α0→α1→α2→α3→α4→α5→α6→α7→Sx) (hs:∀ k v0 v1 v2 v3 v4 v5 v6 v7,G (k+1) v0 v1 v2 v3 v4 v5 v6 v7→Wp P n ls x (mM (fun s=>∃ v0 v1 v2 v3 v4 v5 v6 v7,G k v0 v1 v2 v3 v4 v5 v6 v7∧Le n ls s (S v0 v1 v2 v3 v4 v5 v6 v7).st) Q) (S v0 v1 v2 v3 v4 v5 v6 v7).st) {k:Nat} {v0 v1 v2 v3 v4 v5 v6 v7} (h:G k v0 v1 v2 v3 v4 v5 v6 v7) (hl:Le n ls st (S v0 v1 v2 v3 v4 v5 v6 v7).st) (h0:∀ v0 v1 v2 v3 v4 v5 v6 v7,¬ G 0 v0 v1 v2 v3 v4 v5 v6 v7):Wp P n ls (.loop x) Q st:=Wp.L (fun k s=>∃ v0 v1 v2 v3 v4 v5 v6 v7,G k v0 v1 v2 v3 v4 v5 v6 v7∧Le n ls s (S v0 v1 v2 v3 v4 v5 v6 v7).st) (fun s ⟨v0,v1,v2,v3,v4,v5,v6,v7,h,e⟩=>h0 v0 v1 v2 v3 v4 v5 v6 v7 h) (fun k s ⟨v0,v1,v2,v3,v4,v5,v6,v7,h,e⟩=>Wp.le e (hs k v0 v1 v2 v3 v4 v5 v6 v7 h)) ⟨_,_,_,_,_,_,_,_,h,hl⟩
end
theorem PO {u p0 p1 r} (h:BF u p0 p1=some r):al Tryz.prog 41 [.one (.t (.sl 1 (p0.map (aw .i64)))),V.i p1] (V.i r) []:=by
 unfold BF at h
 refine b8 Tryz.f41 false ?_
 exact ae<|aE<|ar 2 3 (aw .i64) p0<|aa<|Wp.seq<|ae<|ak h (fun h=>ae<|by cases h;exact Wp.ret aj) fun h=>aC<|ae<|by cases h;exact Wp.ret aj
theorem PP {u p0 p1 r} (h:yo u p0 p1=some r):al Tryz.prog 12 [cO (hH p0),V.i p1] (V.i r) []:=by
 unfold yo at h
 refine b8 Tryz.f12 false ?_
 exact ae<|aK false 3 8 [.t (.sl 1 (p0.cx.map (aw .i64))),.i p1] h (fun _=>PO) fun r1 h=>Wp.seq<|ae<|ak h (fun h=>ae<|by cases h;exact Wp.ret aj) fun h=>aC<|ae<|by cases h;exact Wp.ret aj
theorem lg {u p0 p1 r} (h:gO u p0 p1=some r):al Tryz.prog 13 [.one (.s p0),V.i p1] (V.i r) []:=by
 unfold gO at h
 refine b8 Tryz.f13 false ?_
 exact ae<|aE<|ar 2 5 (aw .u8) p0<|aa<|Wp.seq<|ae<|ak h (fun h=>ae<|by cases h;exact Wp.ret aj) fun h=>aC<|ae<|by cases h;exact Wp.ret aj
theorem M8 {u p0 p1 r} (h:rF u p0 p1=some r):al Tryz.prog 42 [cO (bd p0),V.i p1] (V.i r) []:=by
 unfold rF at h
 refine b8 Tryz.f42 false ?_
 exact ae<|aK false 3 8 [.s p0.fB,.i p1] h (fun _=>lg) fun r1 h=>Wp.seq<|ae<|ak h (fun h=>ae<|by cases h;exact Wp.ret aj) fun h=>aC<|ae<|by cases h;exact Wp.ret aj
theorem Lj {u p0 p1 r} (h:p6 u p0 p1=some r):al Tryz.prog 14 [.one (.t (.sl 1 (p0.map bd))),V.i p1] (V.i r) []:=by
 unfold p6 at h
 refine b8 Tryz.f14 false ?_
 refine ae<|aE<|ar 2 80 bd p0<|aa<|Wp.seq<|ae<|ak h (fun h=>ae<|by cases h;exact Wp.ret aj) fun h=>aC<|jL (fun x9=>xm u x9=some r) (fun x9=>⟨[(1,.i x9),(4,.i 0)],[],[]⟩) (fun x9 h=>ae<|by cases h;exact Wp.ret aj)<|ae<|Wp.block<|dZ (fun jF p0 x3 x4=>jo u jF p0 x3 x4=some r) (fun p0 x3 x4=>⟨[(0,.t (.sl 1 (p0.map bd))),(1,.i x3),(4,.i 0),(5,.i x4)],[],[]⟩) (fun jF p0 x3 x4 h=>?_) h (lo []) (fun _ _ _  h=>nomatch h)
 rw [jo] at h
 exact Wp.seq<|aE<|ar 2 80 bd p0<|aa<|ak h (fun h=>aC<|Wp.seq<|Wp.block<|aE<|aR 2 80 1 bd h fun y7 h _=>ag false 2 23 [.agg [.s y7.fB],.i x3] h (fun _=>M8) fun r8 h=>aa<|ae<|ak h (fun h=>ae<|by cases h;exact Wp.ret aj) fun h=>Wp.skip<|bY<|aN<|aV [] []<|aa<|⟨_,_,_,h,lo []⟩) fun h=>Wp.exit<|aZ<|aZ<|de<|aN<|⟨_,h,lo []⟩
theorem PQ {u p0 p1 r} (h:BG u p0 p1=some r):al Tryz.prog 132 [.one (.t (.sl 2 (p0.map aH))),V.i p1] (V.i r) []:=by
 unfold BG at h
 refine b8 Tryz.f132 false ?_
 exact ae<|aE<|ar 2 238 aH p0<|aa<|Wp.seq<|ae<|ak h (fun h=>ae<|by cases h;exact Wp.ret aj) fun h=>aC<|ae<|by cases h;exact Wp.ret aj
theorem Hv {u p0 p1 r} (h:pH u p0 p1=some r):al Tryz.prog 82 [cO (ai p0),V.i p1] (V.i r) []:=by
 unfold pH at h
 refine b8 Tryz.f82 false ?_
 exact ae<|aK false 3 8 [.t (.sl 2 (p0.aD.map aH)),.i p1] h (fun _=>PQ) fun r1 h=>Wp.seq<|ae<|ak h (fun h=>ae<|by cases h;exact Wp.ret aj) fun h=>aC<|ae<|by cases h;exact Wp.ret aj
theorem M9 {u p0 p1 r} (h:rG u p0 p1=some r):al Tryz.prog 83 [cO (cJ p0),V.i p1] (V.i r) []:=by
 unfold rG at h
 refine b8 Tryz.f83 false ?_
 exact ae<|aK false 3 8 [.s p0.bg,.i p1] h (fun _=>lg) fun r1 h=>Wp.seq<|ae<|ak h (fun h=>ae<|by cases h;exact Wp.ret aj) fun h=>aC<|ae<|by cases h;exact Wp.ret aj
theorem PS {u p0 p1 r} (h:uH u p0 p1=some r):al Tryz.prog 84 [.one (.t (.sl 5 (p0.map am))),V.i p1] (V.i r) []:=by
 unfold uH at h
 refine b8 Tryz.f84 false ?_
 exact ae<|aE<|ar 2 210 am p0<|aa<|Wp.seq<|ae<|ak h (fun h=>ae<|by cases h;exact Wp.ret aj) fun h=>aC<|ae<|by cases h;exact Wp.ret aj
theorem PT {u p0 p1 r} (h:uI u p0 p1=some r):al Tryz.prog 43 [cO (ay p0),V.i p1] (V.i r) []:=by
 unfold uI at h
 refine b8 Tryz.f43 false ?_
 exact ae<|aK false 3 8 [.agg ((ai p0.av).map .t),.i p1] h (fun _=>Hv) fun r1 h=>Wp.seq<|ae<|ak h (fun h=>ae<|by cases h;exact Wp.ret aj) fun h=>aC<|aK false 3 14 [.agg [.i p0.a7.aT,.s p0.a7.bg],.i r1] h (fun _=>M9) fun r2 h=>Wp.seq<|ae<|ak h (fun h=>ae<|by cases h;exact Wp.ret aj) fun h=>aC<|aK false 3 20 [.t (.sl 5 (p0.aO.map am)),.i r2] h (fun _=>PS) fun r3 h=>Wp.seq<|ae<|ak h (fun h=>ae<|by cases h;exact Wp.ret aj) fun h=>aC<|ae<|by cases h;exact Wp.ret aj
theorem Na {u p0 p1 r} (h:pp u p0 p1=some r):al Tryz.prog 15 [.one (.t (.sl 12 (p0.map ay))),V.i p1] (V.i r) []:=by
 unfold pp at h
 refine b8 Tryz.f15 false ?_
 refine ae<|aE<|ar 2 89 ay p0<|aa<|Wp.seq<|ae<|ak h (fun h=>ae<|by cases h;exact Wp.ret aj) fun h=>aC<|jL (fun x9=>za u x9=some r) (fun x9=>⟨[(1,.i x9),(4,.i 0)],[],[]⟩) (fun x9 h=>ae<|by cases h;exact Wp.ret aj)<|ae<|Wp.block<|dZ (fun kO p0 x3 x4=>kW u kO p0 x3 x4=some r) (fun p0 x3 x4=>⟨[(0,.t (.sl 12 (p0.map ay))),(1,.i x3),(4,.i 0),(5,.i x4)],[],[]⟩) (fun kO p0 x3 x4 h=>?_) h (lo []) (fun _ _ _  h=>nomatch h)
 rw [kW] at h
 exact Wp.seq<|aE<|ar 2 89 ay p0<|aa<|ak h (fun h=>aC<|Wp.seq<|Wp.block<|aE<|aR 2 89 12 ay h fun y7 h _=>ag false 2 23 [.agg ((ay y7).map .t),.i x3] h (fun _=>PT) fun r8 h=>aa<|ae<|ak h (fun h=>ae<|by cases h;exact Wp.ret aj) fun h=>Wp.skip<|bY<|aN<|aV [] []<|aa<|⟨_,_,_,h,lo []⟩) fun h=>Wp.exit<|aZ<|aZ<|de<|aN<|⟨_,h,lo []⟩
theorem RU {u p0 p1 r} (h:xn u p0 p1=some r):al Tryz.prog 133 [cO (aU p0),V.i p1] (V.i r) []:=by
 unfold xn at h
 refine b8 Tryz.f133 false ?_
 exact ae<|aK false 3 8 [.s p0.fB,.i p1] h (fun _=>lg) fun r1 h=>Wp.seq<|ae<|ak h (fun h=>ae<|by cases h;exact Wp.ret aj) fun h=>aC<|ae<|by cases h;exact Wp.ret aj
theorem PU {u p0 p1 r} (h:uJ u p0 p1=some r):al Tryz.prog 85 [.one (.t (.sl 6 (p0.map aU))),V.i p1] (V.i r) []:=by
 unfold uJ at h
 refine b8 Tryz.f85 false ?_
 refine ae<|aE<|ar 2 187 aU p0<|aa<|Wp.seq<|ae<|ak h (fun h=>ae<|by cases h;exact Wp.ret aj) fun h=>aC<|jL (fun x9=>AC u x9=some r) (fun x9=>⟨[(1,.i x9),(4,.i 0)],[],[]⟩) (fun x9 h=>ae<|by cases h;exact Wp.ret aj)<|ae<|Wp.block<|dZ (fun mi p0 x3 x4=>mz u mi p0 x3 x4=some r) (fun p0 x3 x4=>⟨[(0,.t (.sl 6 (p0.map aU))),(1,.i x3),(4,.i 0),(5,.i x4)],[],[]⟩) (fun mi p0 x3 x4 h=>?_) h (lo []) (fun _ _ _  h=>nomatch h)
 rw [mz] at h
 exact Wp.seq<|aE<|ar 2 187 aU p0<|aa<|ak h (fun h=>aC<|Wp.seq<|Wp.block<|aE<|aR 2 187 6 aU h fun y7 h _=>ag false 2 23 [.agg ((aU y7).map .t),.i x3] h (fun _=>RU) fun r8 h=>aa<|ae<|ak h (fun h=>ae<|by cases h;exact Wp.ret aj) fun h=>Wp.skip<|bY<|aN<|aV [] []<|aa<|⟨_,_,_,h,lo []⟩) fun h=>Wp.exit<|aZ<|aZ<|de<|aN<|⟨_,h,lo []⟩
theorem PV {u p0 p1 r} (h:uK u p0 p1=some r):al Tryz.prog 44 [cO (aB p0),V.i p1] (V.i r) []:=by
 unfold uK at h
 refine b8 Tryz.f44 false ?_
 exact ae<|aK false 3 8 [.s p0.fA,.i p1] h (fun _=>lg) fun r1 h=>Wp.seq<|ae<|ak h (fun h=>ae<|by cases h;exact Wp.ret aj) fun h=>aC<|aK false 3 14 [.s p0.fB,.i r1] h (fun _=>lg) fun r2 h=>Wp.seq<|ae<|ak h (fun h=>ae<|by cases h;exact Wp.ret aj) fun h=>aC<|aK false 3 20 [.t (.sl 6 (p0.fP.map aU)),.i r2] h (fun _=>PU) fun r3 h=>Wp.seq<|ae<|ak h (fun h=>ae<|by cases h;exact Wp.ret aj) fun h=>aC<|ae<|by cases h;exact Wp.ret aj
theorem Nb {u p0 p1 r} (h:nH u p0 p1=some r):al Tryz.prog 16 [.one (.t (.sl 6 (p0.map aB))),V.i p1] (V.i r) []:=by
 unfold nH at h
 refine b8 Tryz.f16 false ?_
 refine ae<|aE<|ar 2 95 aB p0<|aa<|Wp.seq<|ae<|ak h (fun h=>ae<|by cases h;exact Wp.ret aj) fun h=>aC<|jL (fun x9=>zb u x9=some r) (fun x9=>⟨[(1,.i x9),(4,.i 0)],[],[]⟩) (fun x9 h=>ae<|by cases h;exact Wp.ret aj)<|ae<|Wp.block<|dZ (fun kN p0 x3 x4=>kX u kN p0 x3 x4=some r) (fun p0 x3 x4=>⟨[(0,.t (.sl 6 (p0.map aB))),(1,.i x3),(4,.i 0),(5,.i x4)],[],[]⟩) (fun kN p0 x3 x4 h=>?_) h (lo []) (fun _ _ _  h=>nomatch h)
 rw [kX] at h
 exact Wp.seq<|aE<|ar 2 95 aB p0<|aa<|ak h (fun h=>aC<|Wp.seq<|Wp.block<|aE<|aR 2 95 6 aB h fun y7 h _=>ag false 2 23 [.agg ((aB y7).map .t),.i x3] h (fun _=>PV) fun r8 h=>aa<|ae<|ak h (fun h=>ae<|by cases h;exact Wp.ret aj) fun h=>Wp.skip<|bY<|aN<|aV [] []<|aa<|⟨_,_,_,h,lo []⟩) fun h=>Wp.exit<|aZ<|aZ<|de<|aN<|⟨_,h,lo []⟩
theorem Lk {u p0 p1 r} (h:p7 u p0 p1=some r):al Tryz.prog 45 [cO (aI p0),V.i p1] (V.i r) []:=by
 unfold p7 at h
 refine b8 Tryz.f45 false ?_
 exact ae<|aK false 3 8 [.s p0.fB,.i p1] h (fun _=>lg) fun r1 h=>Wp.seq<|ae<|ak h (fun h=>ae<|by cases h;exact Wp.ret aj) fun h=>aC<|ae<|by cases h;exact Wp.ret aj
theorem Jm {u p0 p1 r} (h:iB u p0 p1=some r):al Tryz.prog 17 [.one (.t (.sl 3 (p0.map aI))),V.i p1] (V.i r) []:=by
 unfold iB at h
 refine b8 Tryz.f17 false ?_
 refine ae<|aE<|ar 2 98 aI p0<|aa<|Wp.seq<|ae<|ak h (fun h=>ae<|by cases h;exact Wp.ret aj) fun h=>aC<|jL (fun x9=>vo u x9=some r) (fun x9=>⟨[(1,.i x9),(4,.i 0)],[],[]⟩) (fun x9 h=>ae<|by cases h;exact Wp.ret aj)<|ae<|Wp.block<|dZ (fun iY p0 x3 x4=>iA u iY p0 x3 x4=some r) (fun p0 x3 x4=>⟨[(0,.t (.sl 3 (p0.map aI))),(1,.i x3),(4,.i 0),(5,.i x4)],[],[]⟩) (fun iY p0 x3 x4 h=>?_) h (lo []) (fun _ _ _  h=>nomatch h)
 rw [iA] at h
 exact Wp.seq<|aE<|ar 2 98 aI p0<|aa<|ak h (fun h=>aC<|Wp.seq<|Wp.block<|aE<|aR 2 98 3 aI h fun y7 h _=>ag false 2 23 [.agg ((aI y7).map .t),.i x3] h (fun _=>Lk) fun r8 h=>aa<|ae<|ak h (fun h=>ae<|by cases h;exact Wp.ret aj) fun h=>Wp.skip<|bY<|aN<|aV [] []<|aa<|⟨_,_,_,h,lo []⟩) fun h=>Wp.exit<|aZ<|aZ<|de<|aN<|⟨_,h,lo []⟩
theorem Nc {u p0 p1 r} (h:jM u p0 p1=some r):al Tryz.prog 18 [.one (.t (.sl 3 (p0.map cp))),V.i p1] (V.i r) []:=by
 unfold jM at h
 refine b8 Tryz.f18 false ?_
 exact ae<|aE<|ar 2 129 cp p0<|aa<|Wp.seq<|ae<|ak h (fun h=>ae<|by cases h;exact Wp.ret aj) fun h=>aC<|ae<|by cases h;exact Wp.ret aj
theorem Nd {u p0 p1 r} (h:vp u p0 p1=some r):al Tryz.prog 5 [cO (bw p0),V.i p1] (V.i r) []:=by
 unfold vp at h
 refine b8 Tryz.f5 false ?_
 exact ae<|aK false 3 8 [.agg [.t (.sl 1 (p0.fT.cx.map (aw .i64)))],.i p1] h (fun _=>PP) fun r1 h=>Wp.seq<|ae<|ak h (fun h=>ae<|by cases h;exact Wp.ret aj) fun h=>aC<|aK false 3 14 [.s p0.jj,.i r1] h (fun _=>lg) fun r2 h=>Wp.seq<|ae<|ak h (fun h=>ae<|by cases h;exact Wp.ret aj) fun h=>aC<|aK false 3 20 [.t (.sl 1 (p0.f6.map bd)),.i r2] h (fun _=>Lj) fun r3 h=>Wp.seq<|ae<|ak h (fun h=>ae<|by cases h;exact Wp.ret aj) fun h=>aC<|aK false 3 26 [.t (.sl 12 (p0.fN.map ay)),.i r3] h (fun _=>Na) fun r4 h=>Wp.seq<|ae<|ak h (fun h=>ae<|by cases h;exact Wp.ret aj) fun h=>aC<|aK false 3 32 [.t (.sl 6 (p0.fD.map aB)),.i r4] h (fun _=>Nb) fun r5 h=>Wp.seq<|ae<|ak h (fun h=>ae<|by cases h;exact Wp.ret aj) fun h=>aC<|aK false 3 38 [.t (.sl 3 (p0.dX.map aI)),.i r5] h (fun _=>Jm) fun r6 h=>Wp.seq<|ae<|ak h (fun h=>ae<|by cases h;exact Wp.ret aj) fun h=>aC<|aK false 3 44 [.t (.sl 3 (p0.p5.map cp)),.i r6] h (fun _=>Nc) fun r7 h=>Wp.seq<|ae<|ak h (fun h=>ae<|by cases h;exact Wp.ret aj) fun h=>aC<|ae<|by cases h;exact Wp.ret aj
theorem PW {u p0 r} (h:yp u p0=some r):al Tryz.prog 22 [cO (pG p0)] (cO (pG r)) []:=by
 unfold yp at h
 refine b8 Tryz.f22 false ?_
 exact ae<|ae<|ae<|ae<|ae<|ae<|ae<|by cases h;exact Wp.ret aj
theorem PX {u p0 r} (h:yq u p0=some r):al Tryz.prog 56 [.one (.t (.sl 1 (p0.map (aw .i64))))] (.one (.ow 3 1 (r.map (aw .i64)))) []:=by
 unfold yq at h
 refine b8 Tryz.f56 true ?_
 refine ae<|aE<|ar 1 3 (aw .i64) p0 ?_
 obtain ⟨_,e_1,h⟩:=bind_some h
 obtain ⟨_,e_2,h⟩:=bind_some h
 refine nQ (aw .i64) (0:Int) 7 3 1 8 ((p0.length:Int)) ((p0.length:Int)) rfl rfl kr kr kr kr kr kr (bj e_1) (of_decide_eq_true (bj e_2)) kr<|aa<|jL (fun x11=>AD u x11=some r) (fun x11=>⟨[(2,.nil),(3,.own 196609)],[],[(196609,.live 3 1 (x11.map (aw .i64)))]⟩) (fun x11 h=>ae<|by cases h;exact Wp.ret aj)<|ae<|Wp.block<|dZ (fun mj p0 x5 x6=>oe u mj p0 x5 x6=some r) (fun p0 x5 x6=>⟨[(0,.t (.sl 1 (p0.map (aw .i64)))),(2,.nil),(3,.own 196609),(4,.i x6)],[],[(196609,.live 3 1 (x5.map (aw .i64)))]⟩) (fun mj p0 x5 x6 h=>?_) h (lo [(196609,458752)]) (fun _ _ _  h=>nomatch h)
 rw [oe] at h
 exact Wp.seq<|aE<|ar 2 3 (aw .i64) p0<|aa<|ak h (fun h=>aC<|Wp.seq<|Wp.block<|aV [] []<|aR 4 3 1 (aw .i64) h fun y9 h _=>cI 1 3 1 196609 3 (aw .i64) h fun y10 h e_y10=>gm (e:=3) (sz:=1) (m:=1) (aw .i64) x5 196609 (Int.toNat x6) 0 y9 (.i y9) [.int .i64 y9] rfl kr kr kr kr kr kr kr kr ((cq e_y10).2) kr kr<|ab.all kr<|bY<|aN<|aV [] []<|aa<|⟨_,_,_,h,lo []⟩) fun h=>Wp.exit<|aZ<|aZ<|de<|aN<|⟨_,h,lo []⟩
theorem PY {u p0 r} (h:yr u p0=some r):al Tryz.prog 23 [cO (hH p0)] (V.w [3] (hH r)) []:=by
 unfold yr at h
 refine b8 Tryz.f23 true ?_
 exact ae<|ae<|aK false 2 6 [.t (.sl 1 (p0.cx.map (aw .i64)))] h (fun _=>PX) fun r1 h=>ae<|by cases h;exact Wp.ret aj
theorem lh {u p0 r} (h:iC u p0=some r):al Tryz.prog 24 [.one (.s p0)] (.one (.ow 5 1 (r.map (aw .u8)))) []:=by
 unfold iC at h
 refine b8 Tryz.f24 true ?_
 refine ae<|aE<|ar 1 5 (aw .u8) p0 ?_
 obtain ⟨_,e_1,h⟩:=bind_some h
 obtain ⟨_,e_2,h⟩:=bind_some h
 refine nQ (aw .u8) (0:Int) 7 5 1 1 ((p0.length:Int)) ((p0.length:Int)) rfl rfl kr kr kr kr kr kr (bj e_1) (of_decide_eq_true (bj e_2)) kr<|aa<|jL (fun x11=>zd u x11=some r) (fun x11=>⟨[(2,.nil),(3,.own 196609)],[],[(196609,.live 5 1 (x11.map (aw .u8)))]⟩) (fun x11 h=>ae<|by cases h;exact Wp.ret aj)<|ae<|Wp.block<|dZ (fun kP p0 x5 x6=>m4 u kP p0 x5 x6=some r) (fun p0 x5 x6=>⟨[(0,.s p0),(2,.nil),(3,.own 196609),(4,.i x6)],[],[(196609,.live 5 1 (x5.map (aw .u8)))]⟩) (fun kP p0 x5 x6 h=>?_) h (lo [(196609,458752)]) (fun _ _ _  h=>nomatch h)
 rw [m4] at h
 exact Wp.seq<|aE<|ar 2 5 (aw .u8) p0<|aa<|ak h (fun h=>aC<|Wp.seq<|Wp.block<|aV [] []<|aR 4 5 1 (aw .u8) h fun y9 h _=>cI 1 5 1 196609 5 (aw .u8) h fun y10 h e_y10=>gm (e:=5) (sz:=1) (m:=1) (aw .u8) x5 196609 (Int.toNat x6) 0 y9 (.t (.int .u8 y9)) [.int .u8 y9] rfl kr kr kr kr kr kr kr kr ((cq e_y10).2) kr kr<|ab.all kr<|bY<|aN<|aV [] []<|aa<|⟨_,_,_,h,lo []⟩) fun h=>Wp.exit<|aZ<|aZ<|de<|aN<|⟨_,h,lo []⟩
theorem Ne {u p0 r} (h:rH u p0=some r):al Tryz.prog 57 [cO (bd p0)] (V.w [5] (bd r)) []:=by
 unfold rH at h
 refine b8 Tryz.f57 true ?_
 exact ae<|ae<|aK false 2 6 [.s p0.fB] h (fun _=>lh) fun r1 h=>ae<|by cases h;exact Wp.ret aj
theorem Ll {u p0 r} (h:s0 u p0=some r):al Tryz.prog 25 [.one (.t (.sl 1 (p0.map bd)))] (.one (.ow 121 1 (r.map bd))) []:=by
 unfold s0 at h
 refine b8 Tryz.f25 true ?_
 refine ae<|aE<|ar 1 80 bd p0 ?_
 obtain ⟨_,e_1,h⟩:=bind_some h
 obtain ⟨_,e_2,h⟩:=bind_some h
 refine nQ bd ((ba.mk ([])):ba) 7 121 1 24 ((p0.length:Int)) ((p0.length:Int)) rfl rfl kr kr kr kr kr kr (bj e_1) (of_decide_eq_true (bj e_2)) kr<|aa<|jL (fun x12=>xo u x12=some r) (fun x12=>⟨[(2,.nil),(3,.own 196609)],[],[(196609,.live 121 1 (x12.map bd))]⟩) (fun x12 h=>ae<|by cases h;exact Wp.ret aj)<|ae<|Wp.block<|dZ (fun jG p0 x5 x6=>lQ u jG p0 x5 x6=some r) (fun p0 x5 x6=>⟨[(0,.t (.sl 1 (p0.map bd))),(2,.nil),(3,.own 196609),(4,.i x6)],[],[(196609,.live 121 1 (x5.map bd))]⟩) (fun jG p0 x5 x6 h=>?_) h (lo [(196609,458752)]) (fun _ _ _  h=>nomatch h)
 rw [lQ] at h
 exact Wp.seq<|aE<|ar 2 80 bd p0<|aa<|ak h (fun h=>aC<|Wp.seq<|Wp.block<|aV [] []<|aR 4 80 1 bd h fun y9 h _=>ag false 1 20 [.agg [.s y9.fB]] h (fun _=>Ne) fun r10 h=>cI 0 121 1 196609 121 bd h fun y11 h e_y11=>yU (e:=121) (sz:=1) (m:=1) bd x5 196609 (Int.toNat x6) 0 r10 (.agg [.own 1310720]) [.sl 1 (r10.fB.map (aw .u8))] rfl kr kr kr kr kr kr kr kr ((cq e_y11).2) kr kr<|ab.all kr<|bY<|aN<|aV [] []<|aa<|⟨_,_,_,h,lo []⟩) fun h=>Wp.exit<|aZ<|aZ<|de<|aN<|⟨_,h,lo []⟩
theorem RV {u p0 r} (h:xp u p0=some r):al Tryz.prog 206 [cO (aH p0)] (cO (aH r)) []:=by
 unfold xp at h
 refine b8 Tryz.f206 false ?_
 exact ae<|ae<|ae<|ae<|ae<|by cases h;exact Wp.ret aj
theorem PZ {u p0 r} (h:yu u p0=some r):al Tryz.prog 156 [.one (.t (.sl 2 (p0.map aH)))] (.one (.ow 176 2 (r.map aH))) []:=by
 unfold yu at h
 refine b8 Tryz.f156 true ?_
 refine ae<|aE<|ar 1 238 aH p0 ?_
 obtain ⟨_,e_1,h⟩:=bind_some h
 obtain ⟨_,e_2,h⟩:=bind_some h
 refine nQ aH ((bN.mk 0 0):bN) 7 176 2 16 ((p0.length:Int)) ((p0.length:Int)) rfl rfl kr kr kr kr kr kr (bj e_1) (of_decide_eq_true (bj e_2)) kr<|aa<|jL (fun x12=>AF u x12=some r) (fun x12=>⟨[(2,.nil),(3,.own 196609)],[],[(196609,.live 176 2 (x12.map aH))]⟩) (fun x12 h=>ae<|by cases h;exact Wp.ret aj)<|ae<|Wp.block<|dZ (fun mn p0 x5 x6=>og u mn p0 x5 x6=some r) (fun p0 x5 x6=>⟨[(0,.t (.sl 2 (p0.map aH))),(2,.nil),(3,.own 196609),(4,.i x6)],[],[(196609,.live 176 2 (x5.map aH))]⟩) (fun mn p0 x5 x6 h=>?_) h (lo [(196609,458752)]) (fun _ _ _  h=>nomatch h)
 rw [og] at h
 exact Wp.seq<|aE<|ar 2 238 aH p0<|aa<|ak h (fun h=>aC<|Wp.seq<|Wp.block<|aV [] []<|aR 4 238 2 aH h fun y9 h _=>ag false 1 20 [.agg [.i y9.fW,.i y9.fS]] h (fun _=>RV) fun r10 h=>cI 0 176 2 196609 176 aH h fun y11 h e_y11=>gm (e:=176) (sz:=2) (m:=2) aH x5 196609 (Int.toNat x6) 0 r10 (.agg [.i r10.fW,.i r10.fS]) [.int .i64 r10.fW,.int .i64 r10.fS] rfl kr kr kr kr kr kr kr kr ((cq e_y11).2) kr kr<|ab.all kr<|bY<|aN<|aV [] []<|aa<|⟨_,_,_,h,lo []⟩) fun h=>Wp.exit<|aZ<|aZ<|de<|aN<|⟨_,h,lo []⟩
theorem Hw {u p0 r} (h:pI u p0=some r):al Tryz.prog 101 [cO (ai p0)] (V.w [0,0,0,176] (ai r)) []:=by
 unfold pI at h
 refine b8 Tryz.f101 true ?_
 exact ae<|ae<|ae<|ae<|ae<|aK false 2 15 [.t (.sl 2 (p0.aD.map aH))] h (fun _=>PZ) fun r1 h=>ae<|by cases h;exact Wp.ret aj
theorem Nf {u p0 r} (h:vq u p0=some r):al Tryz.prog 102 [cO (cJ p0)] (V.w [0,5] (cJ r)) []:=by
 unfold vq at h
 refine b8 Tryz.f102 true ?_
 exact ae<|ae<|ae<|aK false 2 9 [.s p0.bg] h (fun _=>lh) fun r1 h=>ae<|by cases h;exact Wp.ret aj
theorem RW {u p0 r} (h:xq u p0=some r):al Tryz.prog 157 [cO (am p0)] (cO (am r)) []:=by
 unfold xq at h
 refine b8 Tryz.f157 false ?_
 exact ae<|ae<|ae<|ae<|ae<|ae<|ae<|ae<|by cases h;exact Wp.ret aj
theorem P0 {u p0 r} (h:yv u p0=some r):al Tryz.prog 103 [.one (.t (.sl 5 (p0.map am)))] (.one (.ow 149 5 (r.map am))) []:=by
 unfold yv at h
 refine b8 Tryz.f103 true ?_
 refine ae<|aE<|ar 1 210 am p0 ?_
 obtain ⟨_,e_1,h⟩:=bind_some h
 obtain ⟨_,e_2,h⟩:=bind_some h
 refine nQ am ((Kid.mk 0 0 0 0 0):Kid) 7 149 5 40 ((p0.length:Int)) ((p0.length:Int)) rfl rfl kr kr kr kr kr kr (bj e_1) (of_decide_eq_true (bj e_2)) kr<|aa<|jL (fun x12=>AG u x12=some r) (fun x12=>⟨[(2,.nil),(3,.own 196609)],[],[(196609,.live 149 5 (x12.map am))]⟩) (fun x12 h=>ae<|by cases h;exact Wp.ret aj)<|ae<|Wp.block<|dZ (fun ml p0 x5 x6=>oh u ml p0 x5 x6=some r) (fun p0 x5 x6=>⟨[(0,.t (.sl 5 (p0.map am))),(2,.nil),(3,.own 196609),(4,.i x6)],[],[(196609,.live 149 5 (x5.map am))]⟩) (fun ml p0 x5 x6 h=>?_) h (lo [(196609,458752)]) (fun _ _ _  h=>nomatch h)
 rw [oh] at h
 exact Wp.seq<|aE<|ar 2 210 am p0<|aa<|ak h (fun h=>aC<|Wp.seq<|Wp.block<|aV [] []<|aR 4 210 5 am h fun y9 h _=>ag false 1 20 [.agg ((am y9).map .t)] h (fun _=>RW) fun r10 h=>cI 0 149 5 196609 149 am h fun y11 h e_y11=>gm (e:=149) (sz:=5) (m:=5) am x5 196609 (Int.toNat x6) 0 r10 (.agg ((am r10).map .t)) (am r10) rfl kr kr kr kr kr kr kr kr ((cq e_y11).2) kr kr<|ab.all kr<|bY<|aN<|aV [] []<|aa<|⟨_,_,_,h,lo []⟩) fun h=>Wp.exit<|aZ<|aZ<|de<|aN<|⟨_,h,lo []⟩
theorem P1 {u p0 r} (h:uL u p0=some r):al Tryz.prog 58 [cO (ay p0)] (V.w [0,0,0,0,0,0,176,0,5,0,149,0] (ay r)) []:=by
 unfold uL at h
 refine b8 Tryz.f58 true ?_
 exact ae<|ae<|ae<|ae<|ae<|aK false 2 15 [.agg ((ai p0.av).map .t)] h (fun _=>Hw) fun r1 h=>aK false 2 19 [.agg [.i p0.a7.aT,.s p0.a7.bg]] h (fun _=>Nf) fun r2 h=>ae<|aK false 2 26 [.t (.sl 5 (p0.aO.map am))] h (fun _=>P0) fun r3 h=>ae<|pm ⟨[(2,.obj 2 0),(3,.obj 3 0)],[(2,[.b false,.i 0,.i 0,.i 0,.i 0,.i 0,.nil,.i 0,.nil,.i 0,.nil,.i 0]),(3,[.b p0.fM,.i p0.bf,.i p0.be,.i r1.aP,.i r1.aS,.i r1.aY,.own 983043,.i r2.aT,.own 1245185,.i p0.aJ,.own 1703936,.i p0.a8])],[(983043,.live 176 2 (r1.aD.map aH)),(1245185,.live 5 1 (r2.bg.map (aw .u8))),(1703936,.live 149 5 (r3.map am))]⟩<|ae<|by cases h;exact Wp.ret aj
theorem Ng {u p0 r} (h:vt u p0=some r):al Tryz.prog 26 [.one (.t (.sl 12 (p0.map ay)))] (.one (.ow 111 12 (r.map ay))) []:=by
 unfold vt at h
 refine b8 Tryz.f26 true ?_
 refine ae<|aE<|ar 1 89 ay p0 ?_
 obtain ⟨_,e_1,h⟩:=bind_some h
 obtain ⟨_,e_2,h⟩:=bind_some h
 refine nQ ay ((aA.mk false 0 0 ((af.mk 0 0 0 ([]))) ((aX.mk 0 ([]))) 0 ([]) 0):aA) 7 111 12 144 ((p0.length:Int)) ((p0.length:Int)) rfl rfl kr kr kr kr kr kr (bj e_1) (of_decide_eq_true (bj e_2)) kr<|aa<|jL (fun x12=>ze u x12=some r) (fun x12=>⟨[(2,.nil),(3,.own 196609)],[],[(196609,.live 111 12 (x12.map ay))]⟩) (fun x12 h=>ae<|by cases h;exact Wp.ret aj)<|ae<|Wp.block<|dZ (fun kR p0 x5 x6=>m5 u kR p0 x5 x6=some r) (fun p0 x5 x6=>⟨[(0,.t (.sl 12 (p0.map ay))),(2,.nil),(3,.own 196609),(4,.i x6)],[],[(196609,.live 111 12 (x5.map ay))]⟩) (fun kR p0 x5 x6 h=>?_) h (lo [(196609,458752)]) (fun _ _ _  h=>nomatch h)
 rw [m5] at h
 exact Wp.seq<|aE<|ar 2 89 ay p0<|aa<|ak h (fun h=>aC<|Wp.seq<|Wp.block<|aV [] []<|aR 4 89 12 ay h fun y9 h _=>ag false 1 20 [.agg ((ay y9).map .t)] h (fun _=>P1) fun r10 h=>cI 0 111 12 196609 111 ay h fun y11 h e_y11=>yU (e:=111) (sz:=12) (m:=12) ay x5 196609 (Int.toNat x6) 0 r10 (.agg [.b r10.fM,.i r10.bf,.i r10.be,.i r10.av.aP,.i r10.av.aS,.i r10.av.aY,.own 1310726,.i r10.a7.aT,.own 1310728,.i r10.aJ,.own 1310730,.i r10.a8]) (ay r10) rfl kr kr kr kr kr kr kr kr ((cq e_y11).2) kr kr<|ab.all kr<|bY<|aN<|aV [] []<|aa<|⟨_,_,_,h,lo []⟩) fun h=>Wp.exit<|aZ<|aZ<|de<|aN<|⟨_,h,lo []⟩
theorem Di {u p0 r} (h:p8 u p0=some r):al Tryz.prog 104 [cO (fk p0)] (cO (fk r)) []:=by
 unfold p8 at h
 refine b8 Tryz.f104 false ?_
 exact ae<|ae<|ae<|ae<|ae<|ae<|by cases h;exact Wp.ret aj
theorem RX {u p0 r} (h:xr u p0=some r):al Tryz.prog 158 [cO (aU p0)] (V.w [0,0,5,0,0,0] (aU r)) []:=by
 unfold xr at h
 refine b8 Tryz.f158 true ?_
 exact ae<|ae<|ae<|ae<|aK false 2 12 [.s p0.fB] h (fun _=>lh) fun r1 h=>aK false 2 16 [.agg ((fk p0.fR).map .t)] h (fun _=>Di) fun r2 h=>ae<|by cases h;exact Wp.ret aj
theorem P2 {u p0 r} (h:yw u p0=some r):al Tryz.prog 105 [.one (.t (.sl 6 (p0.map aU)))] (.one (.ow 155 6 (r.map aU))) []:=by
 unfold yw at h
 refine b8 Tryz.f105 true ?_
 refine ae<|aE<|ar 1 187 aU p0 ?_
 obtain ⟨_,e_1,h⟩:=bind_some h
 obtain ⟨_,e_2,h⟩:=bind_some h
 refine nQ aU ((ca.mk 0 0 ([]) ((c7.mk 0 0 0))):ca) 7 155 6 64 ((p0.length:Int)) ((p0.length:Int)) rfl rfl kr kr kr kr kr kr (bj e_1) (of_decide_eq_true (bj e_2)) kr<|aa<|jL (fun x12=>AH u x12=some r) (fun x12=>⟨[(2,.nil),(3,.own 196609)],[],[(196609,.live 155 6 (x12.map aU))]⟩) (fun x12 h=>ae<|by cases h;exact Wp.ret aj)<|ae<|Wp.block<|dZ (fun mm p0 x5 x6=>oj u mm p0 x5 x6=some r) (fun p0 x5 x6=>⟨[(0,.t (.sl 6 (p0.map aU))),(2,.nil),(3,.own 196609),(4,.i x6)],[],[(196609,.live 155 6 (x5.map aU))]⟩) (fun mm p0 x5 x6 h=>?_) h (lo [(196609,458752)]) (fun _ _ _  h=>nomatch h)
 rw [oj] at h
 exact Wp.seq<|aE<|ar 2 187 aU p0<|aa<|ak h (fun h=>aC<|Wp.seq<|Wp.block<|aV [] []<|aR 4 187 6 aU h fun y9 h _=>ag false 1 20 [.agg ((aU y9).map .t)] h (fun _=>RX) fun r10 h=>cI 0 155 6 196609 155 aU h fun y11 h e_y11=>yU (e:=155) (sz:=6) (m:=6) aU x5 196609 (Int.toNat x6) 0 r10 (.agg [.i r10.d1,.i r10.Cl,.own 1310722,.i r10.fR.aP,.i r10.fR.cL,.i r10.fR.aY]) (aU r10) rfl kr kr kr kr kr kr kr kr ((cq e_y11).2) kr kr<|ab.all kr<|bY<|aN<|aV [] []<|aa<|⟨_,_,_,h,lo []⟩) fun h=>Wp.exit<|aZ<|aZ<|de<|aN<|⟨_,h,lo []⟩
theorem P3 {u p0 r} (h:uM u p0=some r):al Tryz.prog 59 [cO (aB p0)] (V.w [5,5,0,0,0,155] (aB r)) []:=by
 unfold uM at h
 refine b8 Tryz.f59 true ?_
 exact ae<|ae<|aK false 2 6 [.s p0.fA] h (fun _=>lh) fun r1 h=>aK false 2 10 [.s p0.fB] h (fun _=>lh) fun r2 h=>aK false 2 14 [.agg ((fk p0.fR).map .t)] h (fun _=>Di) fun r3 h=>aK false 2 18 [.t (.sl 6 (p0.fP.map aU))] h (fun _=>P2) fun r4 h=>ae<|by cases h;exact Wp.ret aj
theorem Nh {u p0 r} (h:vu u p0=some r):al Tryz.prog 27 [.one (.t (.sl 6 (p0.map aB)))] (.one (.ow 116 6 (r.map aB))) []:=by
 unfold vu at h
 refine b8 Tryz.f27 true ?_
 refine ae<|aE<|ar 1 95 aB p0 ?_
 obtain ⟨_,e_1,h⟩:=bind_some h
 obtain ⟨_,e_2,h⟩:=bind_some h
 refine nQ aB ((aG.mk ([]) ([]) ((c7.mk 0 0 0)) ([])):aG) 7 116 6 96 ((p0.length:Int)) ((p0.length:Int)) rfl rfl kr kr kr kr kr kr (bj e_1) (of_decide_eq_true (bj e_2)) kr<|aa<|jL (fun x12=>zf u x12=some r) (fun x12=>⟨[(2,.nil),(3,.own 196609)],[],[(196609,.live 116 6 (x12.map aB))]⟩) (fun x12 h=>ae<|by cases h;exact Wp.ret aj)<|ae<|Wp.block<|dZ (fun kQ p0 x5 x6=>m6 u kQ p0 x5 x6=some r) (fun p0 x5 x6=>⟨[(0,.t (.sl 6 (p0.map aB))),(2,.nil),(3,.own 196609),(4,.i x6)],[],[(196609,.live 116 6 (x5.map aB))]⟩) (fun kQ p0 x5 x6 h=>?_) h (lo [(196609,458752)]) (fun _ _ _  h=>nomatch h)
 rw [m6] at h
 exact Wp.seq<|aE<|ar 2 95 aB p0<|aa<|ak h (fun h=>aC<|Wp.seq<|Wp.block<|aV [] []<|aR 4 95 6 aB h fun y9 h _=>ag false 1 20 [.agg ((aB y9).map .t)] h (fun _=>P3) fun r10 h=>cI 0 116 6 196609 116 aB h fun y11 h e_y11=>yU (e:=116) (sz:=6) (m:=6) aB x5 196609 (Int.toNat x6) 0 r10 (.agg [.own 1310720,.own 1310721,.i r10.fR.aP,.i r10.fR.cL,.i r10.fR.aY,.own 1310725]) (aB r10) rfl kr kr kr kr kr kr kr kr ((cq e_y11).2) kr kr<|ab.all kr<|bY<|aN<|aV [] []<|aa<|⟨_,_,_,h,lo []⟩) fun h=>Wp.exit<|aZ<|aZ<|de<|aN<|⟨_,h,lo []⟩
theorem Lm {u p0 r} (h:p9 u p0=some r):al Tryz.prog 60 [cO (aI p0)] (V.w [0,0,5] (aI r)) []:=by
 unfold p9 at h
 refine b8 Tryz.f60 true ?_
 exact ae<|ae<|ae<|ae<|aK false 2 12 [.s p0.fB] h (fun _=>lh) fun r1 h=>ae<|by cases h;exact Wp.ret aj
theorem Jn {u p0 r} (h:qQ u p0=some r):al Tryz.prog 28 [.one (.t (.sl 3 (p0.map aI)))] (.one (.ow 118 3 (r.map aI))) []:=by
 unfold qQ at h
 refine b8 Tryz.f28 true ?_
 refine ae<|aE<|ar 1 98 aI p0 ?_
 obtain ⟨_,e_1,h⟩:=bind_some h
 obtain ⟨_,e_2,h⟩:=bind_some h
 refine nQ aI ((au.mk 0 0 ([])):au) 7 118 3 40 ((p0.length:Int)) ((p0.length:Int)) rfl rfl kr kr kr kr kr kr (bj e_1) (of_decide_eq_true (bj e_2)) kr<|aa<|jL (fun x12=>vw u x12=some r) (fun x12=>⟨[(2,.nil),(3,.own 196609)],[],[(196609,.live 118 3 (x12.map aI))]⟩) (fun x12 h=>ae<|by cases h;exact Wp.ret aj)<|ae<|Wp.block<|dZ (fun iZ p0 x5 x6=>ku u iZ p0 x5 x6=some r) (fun p0 x5 x6=>⟨[(0,.t (.sl 3 (p0.map aI))),(2,.nil),(3,.own 196609),(4,.i x6)],[],[(196609,.live 118 3 (x5.map aI))]⟩) (fun iZ p0 x5 x6 h=>?_) h (lo [(196609,458752)]) (fun _ _ _  h=>nomatch h)
 rw [ku] at h
 exact Wp.seq<|aE<|ar 2 98 aI p0<|aa<|ak h (fun h=>aC<|Wp.seq<|Wp.block<|aV [] []<|aR 4 98 3 aI h fun y9 h _=>ag false 1 20 [.agg ((aI y9).map .t)] h (fun _=>Lm) fun r10 h=>cI 0 118 3 196609 118 aI h fun y11 h e_y11=>yU (e:=118) (sz:=3) (m:=3) aI x5 196609 (Int.toNat x6) 0 r10 (.agg [.i r10.du,.i r10.G2,.own 1310722]) (aI r10) rfl kr kr kr kr kr kr kr kr ((cq e_y11).2) kr kr<|ab.all kr<|bY<|aN<|aV [] []<|aa<|⟨_,_,_,h,lo []⟩) fun h=>Wp.exit<|aZ<|aZ<|de<|aN<|⟨_,h,lo []⟩
theorem P4 {u p0 r} (h:uN u p0=some r):al Tryz.prog 61 [cO (cp p0)] (cO (cp r)) []:=by
 unfold uN at h
 refine b8 Tryz.f61 false ?_
 exact ae<|ae<|ae<|ae<|ae<|ae<|by cases h;exact Wp.ret aj
theorem Ni {u p0 r} (h:vz u p0=some r):al Tryz.prog 29 [.one (.t (.sl 3 (p0.map cp)))] (.one (.ow 127 3 (r.map cp))) []:=by
 unfold vz at h
 refine b8 Tryz.f29 true ?_
 refine ae<|aE<|ar 1 129 cp p0 ?_
 obtain ⟨_,e_1,h⟩:=bind_some h
 obtain ⟨_,e_2,h⟩:=bind_some h
 refine nQ cp ((dC.mk 0 0 0):dC) 7 127 3 24 ((p0.length:Int)) ((p0.length:Int)) rfl rfl kr kr kr kr kr kr (bj e_1) (of_decide_eq_true (bj e_2)) kr<|aa<|jL (fun x12=>zg u x12=some r) (fun x12=>⟨[(2,.nil),(3,.own 196609)],[],[(196609,.live 127 3 (x12.map cp))]⟩) (fun x12 h=>ae<|by cases h;exact Wp.ret aj)<|ae<|Wp.block<|dZ (fun kS p0 x5 x6=>m7 u kS p0 x5 x6=some r) (fun p0 x5 x6=>⟨[(0,.t (.sl 3 (p0.map cp))),(2,.nil),(3,.own 196609),(4,.i x6)],[],[(196609,.live 127 3 (x5.map cp))]⟩) (fun kS p0 x5 x6 h=>?_) h (lo [(196609,458752)]) (fun _ _ _  h=>nomatch h)
 rw [m7] at h
 exact Wp.seq<|aE<|ar 2 129 cp p0<|aa<|ak h (fun h=>aC<|Wp.seq<|Wp.block<|aV [] []<|aR 4 129 3 cp h fun y9 h _=>ag false 1 20 [.agg ((cp y9).map .t)] h (fun _=>P4) fun r10 h=>cI 0 127 3 196609 127 cp h fun y11 h e_y11=>gm (e:=127) (sz:=3) (m:=3) cp x5 196609 (Int.toNat x6) 0 r10 (.agg ((cp r10).map .t)) (cp r10) rfl kr kr kr kr kr kr kr kr ((cq e_y11).2) kr kr<|ab.all kr<|bY<|aN<|aV [] []<|aa<|⟨_,_,_,h,lo []⟩) fun h=>Wp.exit<|aZ<|aZ<|de<|aN<|⟨_,h,lo []⟩
theorem zG {u p0 r} (h:pq u p0=some r):al Tryz.prog 7 [cO (bw p0)] (V.w [0,0,0,0,3,5,121,111,116,118,127,0] (bw r)) []:=by
 unfold pq at h
 refine b8 Tryz.f7 true ?_
 exact ae<|ae<|aK false 2 6 [.agg ((pG p0.fC).map .t)] h (fun _=>PW) fun r1 h=>aK false 2 10 [.agg [.t (.sl 1 (p0.fT.cx.map (aw .i64)))]] h (fun _=>PY) fun r2 h=>aK false 2 14 [.s p0.jj] h (fun _=>lh) fun r3 h=>aK false 2 18 [.t (.sl 1 (p0.f6.map bd))] h (fun _=>Ll) fun r4 h=>aK false 2 22 [.t (.sl 12 (p0.fN.map ay))] h (fun _=>Ng) fun r5 h=>aK false 2 26 [.t (.sl 6 (p0.fD.map aB))] h (fun _=>Nh) fun r6 h=>aK false 2 30 [.t (.sl 3 (p0.dX.map aI))] h (fun _=>Jn) fun r7 h=>aK false 2 34 [.t (.sl 3 (p0.p5.map cp))] h (fun _=>Ni) fun r8 h=>pm ⟨[(1,.obj 1 0),(2,.obj 2 0),(3,.obj 3 0)],[(1,((bw p0).map .t)),(2,[.i 0,.i 0,.i 0,.i 0,.nil,.nil,.nil,.nil,.nil,.nil,.nil,.i 0]),(3,[.i r1.aS,.i r1.gB,.i r1.eo,.i r1.ik,.own 655360,.own 917504,.own 1179648,.own 1441792,.own 1703936,.own 1966080,.own 2228224,.i 0])],[(655360,.live 3 1 (r2.cx.map (aw .i64))),(917504,.live 5 1 (r3.map (aw .u8))),(1179648,.live 121 1 (r4.map bd)),(1441792,.live 111 12 (r5.map ay)),(1703936,.live 116 6 (r6.map aB)),(1966080,.live 118 3 (r7.map aI)),(2228224,.live 127 3 (r8.map cp))]⟩<|ae<|ae<|by cases h;exact Wp.ret aj
theorem bi {u p0 p1 p2 r} (h:bF u p0 p1 p2=some r):al Tryz.prog 20 [V.i p0,V.i p1,V.i p2] (V.b r) []:=by
 unfold bF at h
 refine b8 Tryz.f20 false ?_
 exact ae<|aE<|ah 4 10 h (fun h=>aa<|by cases h;exact Wp.ret aj) fun h=>aa<|by cases h;exact Wp.ret aj
theorem P5 {u p0 r} (h:yx u p0=some r):al Tryz.prog 46 [cO (pG p0)] (V.b r) []:=by
 unfold yx at h
 refine b8 Tryz.f46 false ?_
 exact ae<|aE<|ag false 2 5 [.i p0.aS,.i 2,.i 6] h (fun _=>bi) fun r1 h=>ah 1 6 h (fun h=>ag false 2 9 [.i p0.gB,.i 1,.i 40] h (fun _=>bi) fun r2 h=>ah 2 11 h (fun h=>ag false 2 14 [.i p0.eo,.i 1,.i 5] h (fun _=>bi) fun r3 h=>ah 2 16 h (fun h=>ag false 2 19 [.i p0.ik,.i 2,.i 8] h (fun _=>bi) fun r4 h=>aa<|by cases h;exact Wp.ret aj) fun h=>aa<|by cases h;exact Wp.ret aj) fun h=>aa<|by cases h;exact Wp.ret aj) fun h=>aa<|by cases h;exact Wp.ret aj
theorem Fa {u p0 r} (h:uO u p0=some r):al Tryz.prog 47 [cO (hH p0)] (V.b r) []:=by
 unfold uO at h
 refine b8 Tryz.f47 false ?_
 refine ae<|Wp.seq<|pn (fun x3 p0=>vA u x3 p0=some r) (fun x3 p0=>⟨[(1,.obj 1 0),(2,.b false),(15,.b x3)],[(1,[.t (.sl 1 (p0.cx.map (aw .i64)))])],[]⟩) (fun x3 p0 h=>?_) ?_
 ·refine ak h (fun h=>ae<|by cases h;exact Wp.ret aj) fun h=>aC<|io (AI u=some r) ⟨[(2,.b false)],[],[]⟩ (fun h=>ae<|by cases h;exact Wp.ret aj)<|ae<|Wp.block<|yW (fun mu x5 p0=>jX u mu x5 p0=some r) (fun x5 p0=>⟨[(1,.obj 1 0),(2,.b false),(3,.i x5)],[(1,[.t (.sl 1 (p0.cx.map (aw .i64)))])],[]⟩) (fun mu x5 p0 h=>?_) h (lo []) (fun _ _  h=>nomatch h)
  rw [jX] at h
  exact Wp.seq<|aE<|ar 3 3 (aw .i64) p0.cx<|aa<|ak h (fun h=>aC<|Wp.seq<|Wp.block<|aE<|aR 3 3 1 (aw .i64) h fun y7 h _=>ag false 3 30 [.i y7,.i 0,.i (cy .i64 x5 1)] h (fun _=>bi) fun r8 h=>aa<|ak h (fun h=>ae<|by cases h;exact Wp.ret aj) fun h=>Wp.skip<|bY<|aN<|aV [] []<|aa<|⟨_,_,h,lo []⟩) fun h=>Wp.exit<|aZ<|aZ<|de<|aN<|⟨h,lo []⟩
 exact aV [] []<|ar 2 3 (aw .i64) p0.cx<|ag false 0 7 [.i ((p0.cx.length:Int)),.i 1,.i 7] h (fun _=>bi) fun r1 h=>ah 2 9 h (fun h=>aa<|⟨_,_,h,lo []⟩) fun h=>aR 2 3 1 (aw .i64) h fun y2 h _=>aa<|⟨_,_,h,lo []⟩
theorem wM {u p0 p1 r} (h:o9 u p0 p1=some r):al Tryz.prog 48 [V.i p0,V.i p1] (V.b r) []:=by
 unfold o9 at h
 refine b8 Tryz.f48 false ?_
 exact ae<|aE<|ag false 1 6 [.i p0,.i 2,.i 6] h (fun _=>bi) fun r1 h=>ah 1 7 h (fun h=>ag false 3 11 [.i p1,.i 0,.i (gS .i64 p0 40)] h (fun _=>bi) fun r2 h=>aa<|by cases h;exact Wp.ret aj) fun h=>aa<|by cases h;exact Wp.ret aj
theorem Nj {u p0 p1 r} (h:vB u p0 p1=some r):al Tryz.prog 49 [.one (.t (.sl 1 (p0.map bd))),V.i p1] (V.b r) []:=by
 unfold vB at h
 refine b8 Tryz.f49 false ?_
 refine ae<|pn (fun p0 p1=>zh u p0 p1=some r) (fun p0 p1=>⟨[(0,.t (.sl 1 (p0.map bd))),(1,.i p1),(4,.b false)],[],[]⟩) (fun p0 p1 h=>aE<|ar 1 121 bd p0<|aa<|by cases h;exact Wp.ret aj)<|ae<|Wp.block<|dZ (fun kV p0 p1 x2=>m8 u kV p0 p1 x2=some r) (fun p0 p1 x2=>⟨[(0,.t (.sl 1 (p0.map bd))),(1,.i p1),(4,.b false),(5,.i x2)],[],[]⟩) (fun kV p0 p1 x2 h=>?_) h (lo []) (fun _ _ _  h=>nomatch h)
 rw [m8] at h
 exact Wp.seq<|aE<|ar 2 121 bd p0<|aa<|ak h (fun h=>aC<|Wp.seq<|Wp.block<|aE<|aR 2 121 1 bd h fun y4 h _=>ar 2 5 (aw .u8) y4.fB<|aa<|ak h (fun h=>ae<|by cases h;exact Wp.ret aj) fun h=>Wp.skip<|bY<|aN<|aV [] []<|aa<|⟨_,_,_,h,lo []⟩) fun h=>Wp.exit<|aZ<|aZ<|de<|aN<|⟨_,_,h,lo []⟩
theorem Nk {u p0 p1 r} (h:vC u p0 p1=some r):al Tryz.prog 233 [V.i p0,V.i p1] (V.i r) []:=by
 unfold vC at h
 refine b8 Tryz.f233 false ?_
 refine ae<|Wp.seq<|kh (fun p0 p1 x3=>tN u p0 p1 x3=some r) (fun p0 p1 x3=>⟨[(0,.i p0),(1,.i p1),(4,.i 0),(12,.b x3)],[],[]⟩) (fun p0 p1 x3 h=>?_) ?_
 ·refine ak h (fun h=>ae<|by cases h;exact Wp.ret aj) fun h=>aC<|aE<|bc 5 kr ?_
  obtain ⟨_,e_4,h⟩:=bind_some h
  exact iN .quo (.int .i64 (cy .i64 (aW .i64 p0 p1) 1)) (.int .i64 p1) (.int .i64 (VG .i64 (cy .i64 (aW .i64 p0 p1) 1) p1)) rfl kr kr kr kr (WM _ _ _ _ (by simpa using bj e_4))<|aa<|by cases h;exact Wp.ret aj
 exact aV [] []<|ag false 1 6 [.i p0,.i 0,.i 1000000000000] h (fun _=>bi) fun r1 h=>ah 2 8 h (fun h=>aa<|⟨_,_,_,h,lo []⟩) fun h=>ag false 1 10 [.i p1,.i 1,.i 1000000000000] h (fun _=>bi) fun r2 h=>aa<|⟨_,_,_,h,lo []⟩
theorem wN {u p0 p1 r} (h:pa u p0 p1=some r):al Tryz.prog 188 [V.i p0,V.i p1] (V.i r) []:=by
 unfold pa at h
 refine b8 Tryz.f188 false ?_
 exact ae<|Wp.seq<|aK false 2 7 [.i p0,.i p1] h (fun _=>wM) fun r1 h=>ak h (fun h=>ae<|by cases h;exact Wp.ret aj) fun h=>aC<|aK false 2 11 [.i p1,.i p0] h (fun _=>Nk) fun r2 h=>by cases h;exact Wp.ret aj
theorem RY {u p0 p1 r} (h:AJ u p0 p1=some r):al Tryz.prog 192 [V.i p0,V.i p1] (V.i r) []:=by
 unfold AJ at h
 refine b8 Tryz.f192 false ?_
 exact ae<|Wp.seq<|ae<|ak h (fun h=>ae<|by cases h;exact Wp.ret aj) fun h=>aC<|ae<|by cases h;exact Wp.ret aj
theorem mN {u p0 p1 p2 r} (h:f8 u p0 p1 p2=some r):al Tryz.prog 141 [V.i p0,V.i p1,V.i p2] (.tup [V.i r.1,V.i r.2]) []:=by
 unfold f8 at h
 refine b8 Tryz.f141 false ?_
 exact ae<|Wp.seq<|aE<|ag false 3 11 [.i p0,.i p1] h (fun _=>wN) fun r1 h=>ag false 1 13 [.i p2,.i 0,.i (cy .i64 r1 1)] h (fun _=>bi) fun r2 h=>aa<|ak h (fun h=>ae<|by cases h;exact Wp.ret aj) fun h=>aC<|aK false 9 24 [.i p0,.i (cy .i64 p1 (gS .i64 p2 p0))] h (fun _=>RY) fun r3 h=>by cases h;exact Wp.ret aj
theorem Nl {u p0 p1 p2 r} (h:rI u p0 p1 p2=some r):al Tryz.prog 189 [.one (.s p0),V.i p1,V.i p2] (.tup [.one (.ow 5 1 (r.1.map (aw .u8))),V.b r.2]) []:=by
 unfold rI at h
 refine b8 Tryz.f189 true ?_
 refine ae<|aE<|ar 2 5 (aw .u8) p0<|ag false 1 15 [.i p1,.i ((p0.length:Int)),.i p2] h (fun _=>mN) fun r1 h=>aa<|Wp.seq<|ae<|ak h (fun h=>ae<|by cases h;exact Wp.ret aj) fun h=>aC<|aE<|bc 6 kr ?_
 obtain ⟨_,e_2,h⟩:=bind_some h
 exact eT (e:=5) (ax:=.s p0) (alo:=(some (.i r1.1))) (ahi:=(some (.i (aW .i64 r1.1 r1.2)))) (aw .u8) p0 1 r1.1 (aW .i64 r1.1 r1.2) rfl kr kr kr kr kr kr kr kr kr kr kr (bj e_2)<|cg 0 28 5 1 1376256 (aw .u8) h fun h=>aa<|by cases h;exact Wp.ret aj
theorem wO {u p0 r} (h:pb u p0=some r):al Tryz.prog 193 [.one (.s p0)] (V.i r) []:=by
 unfold pb at h
 refine b8 Tryz.f193 false ?_
 refine ae<|ae<|ae<|pn (fun x11 x12=>qR u x11 x12=some r) (fun x11 x12=>⟨[(2,.i 0),(3,.i x11),(4,.i x12)],[],[]⟩) (fun x11 x12 h=>ae<|by cases h;exact Wp.ret aj)<|ae<|Wp.block<|GI (fun mv p0 x4 x5 x6=>ol u mv p0 x4 x5 x6=some r) (fun p0 x4 x5 x6=>⟨[(0,.s p0),(2,.i 0),(3,.i x4),(4,.i x5),(5,.i x6)],[],[]⟩) (fun mv p0 x4 x5 x6 h=>?_) h (lo []) (fun _ _ _ _  h=>nomatch h)
 rw [ol] at h
 exact Wp.seq<|aE<|ar 2 5 (aw .u8) p0<|aa<|ak h (fun h=>aC<|Wp.seq<|Wp.block<|aE<|aR 3 5 1 (aw .u8) h fun y10 h _=>aa<|aV [] []<|ab.all kr<|bY<|aN<|aV [] []<|aa<|⟨_,_,_,_,h,lo []⟩) fun h=>Wp.exit<|aZ<|aZ<|de<|aN<|⟨_,_,h,lo []⟩
theorem qt {u p0 r} (h:gZ u p0=some r):al Tryz.prog 143 [.one (.s p0)] (cO (aH r)) []:=by
 unfold gZ at h
 refine b8 Tryz.f143 false ?_
 refine ae<|Wp.seq<|aE<|ar 1 5 (aw .u8) p0<|aa<|ak h (fun h=>ae<|by cases h;exact Wp.ret aj) fun h=>aC<|ae<|pn (fun p0 x8=>s4 u p0 x8=some r) (fun p0 x8=>⟨[(0,.s p0),(2,.obj 2 0),(3,.i x8)],[(2,[.i 0,.i 0])],[]⟩) (fun p0 x8 h=>aK false 1 24 [.s p0] h (fun _=>wO) fun r9 h=>by cases h;exact Wp.ret aj)<|ae<|Wp.block<|dZ (fun nD p0 x3 x4=>qa u nD p0 x3 x4=some r) (fun p0 x3 x4=>⟨[(0,.s p0),(2,.obj 2 0),(3,.i x3),(4,.i x4)],[(2,[.i 0,.i 0])],[]⟩) (fun nD p0 x3 x4 h=>?_) h (lo []) (fun _ _ _  h=>nomatch h)
 rw [qa] at h
 exact Wp.seq<|aE<|ar 2 5 (aw .u8) p0<|aa<|ak h (fun h=>aC<|Wp.seq<|Wp.block<|aV [] []<|aR 4 5 1 (aw .u8) h fun y7 h _=>ab.all kr<|bY<|aN<|aV [] []<|aa<|⟨_,_,_,h,lo []⟩) fun h=>Wp.exit<|aZ<|aZ<|de<|aN<|⟨_,_,h,lo []⟩
theorem Fb {u p0 p1 r} (h:uP u p0 p1=some r):al Tryz.prog 134 [.one (.s p0),V.i p1] (.one (.ow 176 2 (r.map aH))) []:=by
 unfold uP at h
 refine b8 Tryz.f134 true ?_
 refine ae<|ae<|jL (fun x10=>AK u x10=some r) (fun x10=>⟨[(4,.nil),(5,.own 327681)],[],[(327681,.live 176 2 (x10.map aH))]⟩) (fun x10 h=>ae<|by cases h;exact Wp.ret aj)<|ae<|Wp.block<|GI (fun mt p0 p1 x3 x4=>om u mt p0 p1 x3 x4=some r) (fun p0 p1 x3 x4=>⟨[(0,.s p0),(1,.i p1),(4,.nil),(5,.own 327681),(6,.i x4)],[],[(327681,.live 176 2 (x3.map aH))]⟩) (fun mt p0 p1 x3 x4 h=>?_) h (lo [(327681,589824)]) (fun _ _ _ _  h=>nomatch h)
 rw [om] at h
 exact Wp.seq<|aE<|ar 3 5 (aw .u8) p0<|ag false 0 14 [.i p1,.i ((p0.length:Int))] h (fun _=>wN) fun r7 h=>aa<|ak h (fun h=>aC<|Wp.seq<|Wp.block<|aK false 3 22 [.s p0,.i p1,.i x4] h (fun _=>Nl) fun r8 h=>aV [] []<|eY 2 27 [.own 1441792] h (fun _=>qt) fun r9 h=>cg (ys:=[r9]) 1 29 176 2 327681 aH h fun h=>ab.all kr<|bY<|aN<|aV [] []<|aa<|⟨_,_,_,_,h,lo [(327681,1900544)]⟩) fun h=>Wp.exit<|aZ<|aZ<|de<|aN<|⟨_,h,lo []⟩
theorem RZ {u p0 p1 p2 r} (h:AL u p0 p1 p2=some r):al Tryz.prog 86 [V.i p0,.one (.s p1),V.i p2] (V.w [0,0,0,176] (ai r)) []:=by
 unfold AL at h
 refine b8 Tryz.f86 true ?_
 exact ae<|Wp.seq<|m2 (fun p0 p1 p2 x3=>xT u p0 p1 p2 x3=some r) (fun p0 p1 p2 x3=>⟨[(0,.i p0),(1,.s p1),(2,.i p2),(6,.obj 6 0),(16,.b x3)],[(6,[.i 0,.i 0,.i 0,.nil])],[]⟩) (fun p0 p1 p2 x3 h=>ak h (fun h=>ae<|by cases h;exact Wp.ret aj) fun h=>aC<|aE<|ar 3 5 (aw .u8) p1<|ag false 2 24 [.s p1,.i p2] h (fun _=>Fb) fun r4 h=>aa<|by cases h;exact Wp.ret aj)<|aV [] []<|ag false 1 8 [.i p0,.i 1,.i 1000000] h (fun _=>bi) fun r1 h=>ah 2 10 h (fun h=>aa<|⟨_,_,_,_,h,lo []⟩) fun h=>ar 2 5 (aw .u8) p1<|ag false 0 14 [.i p2,.i ((p1.length:Int))] h (fun _=>wM) fun r2 h=>aa<|⟨_,_,_,_,h,lo []⟩
theorem R0 {u p0 r} (h:AM u p0=some r):al Tryz.prog 50 [cO (bw p0)] (V.w [0,0,0,176] (ai r)) []:=by
 unfold AM at h
 refine b8 Tryz.f50 true ?_
 exact ae<|aK false 5 8 [.i 1,.s p0.jj,.i p0.fC.aS] h (fun _=>RZ) fun r1 h=>by cases h;exact Wp.ret aj
theorem Be {u p0 p1 r} (h:m9 u p0 p1=some r):al Tryz.prog 95 [.one (.t (.sl 2 (p0.map aH))),.one (.t (.sl 2 (p1.map aH)))] (V.b r) []:=by
 unfold m9 at h
 refine b8 Tryz.f95 false ?_
 refine ae<|Wp.seq<|aE<|ar 1 176 aH p0<|ar 1 176 aH p1<|aa<|ak h (fun h=>ae<|by cases h;exact Wp.ret aj) fun h=>aC<|io (ur u=some r) ⟨[(4,.b false)],[],[]⟩ (fun h=>ae<|by cases h;exact Wp.ret aj)<|ae<|Wp.block<|dZ (fun ii p0 p1 x2=>jp u ii p0 p1 x2=some r) (fun p0 p1 x2=>⟨[(0,.t (.sl 2 (p0.map aH))),(1,.t (.sl 2 (p1.map aH))),(4,.b false),(5,.i x2)],[],[]⟩) (fun ii p0 p1 x2 h=>?_) h (lo []) (fun _ _ _  h=>nomatch h)
 rw [jp] at h
 exact Wp.seq<|aE<|ar 2 176 aH p0<|aa<|ak h (fun h=>aC<|Wp.seq<|Wp.block<|Wp.seq<|aL (jS []) (bR [(0,.frz),(1,.frz),(5,.frz),(17,.frz),(18,.frz),(19,.frz),(20,.frz),(21,.frz),(22,.frz),(23,.frz),(24,.frz)]) kr kr<|aR 2 176 2 aH h fun y4 h _=>aR 3 176 2 aH h fun y5 h _=>aa<|ak h (fun h=>ae<|by cases h;exact Wp.ret aj) fun h=>Wp.skip<|bY<|aN<|aV [] []<|aa<|⟨_,_,_,h,lo []⟩) fun h=>Wp.exit<|aZ<|aZ<|de<|aN<|⟨h,lo []⟩
theorem pU {u p0 p1 r} (h:jN u p0 p1=some r):al Tryz.prog 53 [cO (ai p0),cO (ai p1)] (V.b r) []:=by
 unfold jN at h
 refine b8 Tryz.f53 false ?_
 exact ae<|aE<|ah 6 10 h (fun h=>ah 7 17 h (fun h=>ah 7 24 h (fun h=>ag false 4 29 [.t (.sl 2 (p0.aD.map aH)),.t (.sl 2 (p1.aD.map aH))] h (fun _=>Be) fun r1 h=>aa<|by cases h;exact Wp.ret aj) fun h=>aa<|by cases h;exact Wp.ret aj) fun h=>aa<|by cases h;exact Wp.ret aj) fun h=>aa<|by cases h;exact Wp.ret aj
theorem Eo {u p0 r} (h:rJ u p0=some r):al Tryz.prog 87 [cO (ay p0)] (V.b r) []:=by
 unfold rJ at h
 refine b8 Tryz.f87 false ?_
 exact ae<|aE<|ag false 3 6 [.agg ((ai p0.av).map .t),.agg [.i 0,.i 0,.i 0,.nil]] h (fun _=>pU) fun r1 h=>ah 1 7 h (fun h=>ah 6 13 h (fun h=>ar 3 5 (aw .u8) p0.a7.bg<|aa<|by cases h;exact Wp.ret aj) fun h=>aa<|by cases h;exact Wp.ret aj) fun h=>aa<|by cases h;exact Wp.ret aj
theorem P6 {u p0 p1 r} (h:yz u p0 p1=some r):al Tryz.prog 136 [cO (hH p0),V.i p1] (.one (.ow 3 1 (r.map (aw .i64)))) []:=by
 unfold yz at h
 refine b8 Tryz.f136 true ?_
 refine ae<|ae<|jL (fun x11=>vD u x11=some r) (fun x11=>⟨[(4,.nil),(5,.own 327681)],[],[(327681,.live 3 1 (x11.map (aw .i64)))]⟩) (fun x11 h=>ae<|by cases h;exact Wp.ret aj)<|Wp.block<|dZ (fun ig x3 x4 p0=>iD u ig x3 x4 p0=some r) (fun x3 x4 p0=>⟨[(1,.i x3),(2,.obj 2 0),(4,.nil),(5,.own 327681)],[(2,[.t (.sl 1 (p0.cx.map (aw .i64)))])],[(327681,.live 3 1 (x4.map (aw .i64)))]⟩) (fun ig x3 x4 p0 h=>?_) h (lo [(327681,393216)]) (fun _ _ _  h=>nomatch h)
 rw [iD] at h
 exact Wp.seq<|m2 (fun x3 x4 x8 p0=>qS u (fun z0 z1 z2=>iD u ig z0 z1 z2) x3 x4 x8 p0=some r) (fun x3 x4 x8 p0=>⟨[(1,.i x3),(2,.obj 2 0),(4,.nil),(5,.own 327681),(20,.b x8)],[(2,[.t (.sl 1 (p0.cx.map (aw .i64)))])],[(327681,.live 3 1 (x4.map (aw .i64)))]⟩) (fun x3 x4 x8 p0 h=>ak h (fun h=>aC<|Wp.block<|aE<|cg 3 24 3 1 327681 (aw .i64) h fun h=>aa<|aV [] []<|aR 3 3 1 (aw .i64) h fun y10 h _=>ab.all kr<|bY<|aN<|⟨_,_,_,h,lo [(327681,1572864)]⟩) fun h=>Wp.exit<|aZ<|aZ<|de<|aN<|⟨_,h,lo []⟩)<|aV [] []<|ar 3 3 (aw .i64) p0.cx<|ag false 1 12 [.i x3,.i 0,.i (cy .i64 ((p0.cx.length:Int)) 1)] h (fun _=>bi) fun r7 h=>ah 1 13 h (fun h=>ar 1 3 (aw .i64) x4<|ar 2 3 (aw .i64) p0.cx<|aa<|⟨_,_,_,_,h,lo []⟩) fun h=>aa<|⟨_,_,_,_,h,lo []⟩
theorem P7 {u p0 p1 r} (h:yA u p0 p1=some r):al Tryz.prog 135 [.one (.t (.sl 1 (p0.map (aw .i64)))),V.i p1] (V.b r) []:=by
 unfold yA at h
 refine b8 Tryz.f135 false ?_
 refine ae<|io (AN u=some r) ⟨[(4,.b false)],[],[]⟩ (fun h=>ae<|by cases h;exact Wp.ret aj)<|ae<|Wp.block<|dZ (fun mw p0 p1 x2=>oo u mw p0 p1 x2=some r) (fun p0 p1 x2=>⟨[(0,.t (.sl 1 (p0.map (aw .i64)))),(1,.i p1),(4,.b false),(5,.i x2)],[],[]⟩) (fun mw p0 p1 x2 h=>?_) h (lo []) (fun _ _ _  h=>nomatch h)
 rw [oo] at h
 exact Wp.seq<|aE<|ar 2 3 (aw .i64) p0<|aa<|ak h (fun h=>aC<|Wp.seq<|Wp.block<|aE<|aR 2 3 1 (aw .i64) h fun y4 h _=>aa<|ak h (fun h=>ae<|by cases h;exact Wp.ret aj) fun h=>Wp.skip<|bY<|aN<|aV [] []<|aa<|⟨_,_,_,h,lo []⟩) fun h=>Wp.exit<|aZ<|aZ<|de<|aN<|⟨h,lo []⟩
theorem Dj {u p0 p1 p2 r} (h:qb u p0 p1 p2=some r):al Tryz.prog 88 [cO (hH p0),V.i p1,V.i p2] (V.b r) []:=by
 unfold qb at h
 refine b8 Tryz.f88 false ?_
 exact ae<|aE<|ah 4 10 h (fun h=>ag false 2 13 [.agg [.t (.sl 1 (p0.cx.map (aw .i64)))],.i p2] h (fun _=>P6) fun r1 h=>eY 1 15 [.own 851968,.i p1] h (fun _=>P7) fun r2 h=>aa<|by cases h;exact Wp.ret aj) fun h=>aa<|by cases h;exact Wp.ret aj
theorem cR {u p0 r} (h:cz u p0=some r):al Tryz.prog 137 [V.i p0] (V.b r) []:=by
 unfold cz at h
 refine b8 Tryz.f137 false ?_
 exact ae<|aK false 1 4 [.i p0,.i 0,.i 1099511627775] h (fun _=>bi) fun r1 h=>by cases h;exact Wp.ret aj
theorem wP {u p0 r} (h:pc u p0=some r):al Tryz.prog 89 [.one (.t (.sl 5 (p0.map am)))] (V.b r) []:=by
 unfold pc at h
 refine b8 Tryz.f89 false ?_
 refine ae<|io (AO u=some r) ⟨[(2,.b false)],[],[]⟩ (fun h=>ae<|by cases h;exact Wp.ret aj)<|ae<|Wp.block<|yW (fun cK p0 x2=>dg u cK p0 x2=some r) (fun p0 x2=>⟨[(0,.t (.sl 5 (p0.map am))),(2,.b false),(3,.i x2)],[],[]⟩) (fun cK p0 x2 h=>?_) h (lo []) (fun _ _  h=>nomatch h)
 rw [dg] at h
 exact Wp.seq<|aE<|ar 2 149 am p0<|aa<|ak h (fun h=>aC<|Wp.seq<|Wp.block<|kh (fun p0 x2 x22=>cm u (fun z0 z1=>dg u cK z0 z1) p0 x2 x22=some r) (fun p0 x2 x22=>⟨[(0,.t (.sl 5 (p0.map am))),(2,.b false),(3,.i x2),(69,.b x22)],[],[]⟩) (fun p0 x2 x22 h=>ak h (fun h=>ae<|by cases h;exact Wp.ret aj) fun h=>Wp.skip<|bY<|aN<|aV [] []<|aa<|⟨_,_,h,lo []⟩)<|aL (jS []) (bR [(0,.frz),(3,.frz),(10,.frz),(11,.frz),(12,.frz),(13,.frz),(14,.frz),(15,.frz),(16,.frz),(17,.frz),(18,.frz),(19,.frz),(20,.frz),(21,.frz),(22,.frz),(23,.frz),(24,.frz),(25,.frz),(26,.frz),(27,.frz),(28,.frz),(29,.frz),(30,.frz),(31,.frz),(34,.frz),(35,.frz),(36,.frz),(37,.frz),(38,.frz),(39,.frz),(40,.frz),(41,.frz),(43,.frz),(44,.frz),(45,.frz),(46,.frz),(47,.frz),(48,.frz),(49,.frz),(50,.frz),(52,.frz),(53,.frz),(54,.frz),(55,.frz),(56,.frz),(57,.frz),(58,.frz),(59,.frz),(61,.frz),(62,.frz),(63,.frz),(64,.frz),(65,.frz),(66,.frz),(67,.frz)]) kr kr<|aR 2 149 5 am h fun y4 h _=>ag false 2 15 [.i y4.fd,.i 0,.i 6] h (fun _=>bi) fun r5 h=>ah 2 17 h (fun h=>aa<|⟨_,_,_,h,lo []⟩) fun h=>ah 3 20 h (fun h=>aR 3 149 5 am h fun y6 h _=>aR 4 149 5 am h fun y7 h _=>ah 6 35 h (fun h=>aa<|⟨_,_,_,h,lo []⟩) fun h=>aR 2 149 5 am h fun y8 h _=>ag false 2 41 [.i y8.bx] h (fun _=>cR) fun r9 h=>ah 3 44 h (fun h=>aa<|⟨_,_,_,h,lo []⟩) fun h=>aR 2 149 5 am h fun y10 h _=>ag false 2 50 [.i y10.bL] h (fun _=>cR) fun r11 h=>ah 3 53 h (fun h=>aa<|⟨_,_,_,h,lo []⟩) fun h=>aR 2 149 5 am h fun y12 h _=>ag false 2 59 [.i y12.c8] h (fun _=>cR) fun r13 h=>ah 3 62 h (fun h=>aa<|⟨_,_,_,h,lo []⟩) fun h=>aR 2 149 5 am h fun y14 h _=>aa<|⟨_,_,_,h,lo []⟩) fun h=>aR 17 149 5 am h fun y15 h _=>ag false 2 41 [.i y15.bx] h (fun _=>cR) fun r16 h=>ah 3 44 h (fun h=>aa<|⟨_,_,_,h,lo []⟩) fun h=>aR 2 149 5 am h fun y17 h _=>ag false 2 50 [.i y17.bL] h (fun _=>cR) fun r18 h=>ah 3 53 h (fun h=>aa<|⟨_,_,_,h,lo []⟩) fun h=>aR 2 149 5 am h fun y19 h _=>ag false 2 59 [.i y19.c8] h (fun _=>cR) fun r20 h=>ah 3 62 h (fun h=>aa<|⟨_,_,_,h,lo []⟩) fun h=>aR 2 149 5 am h fun y21 h _=>aa<|⟨_,_,_,h,lo []⟩) fun h=>Wp.exit<|aZ<|aZ<|de<|aN<|⟨h,lo []⟩
theorem Ep {u p0 r} (h:pr u p0=some r):al Tryz.prog 190 [V.i p0] (.tup [.one (.ow 5 1 (r.1.map (aw .u8))),V.b r.2]) []:=by
 unfold pr at h
 refine b8 Tryz.f190 true ?_
 refine ae<|Wp.seq<|aK false 1 6 [.i p0,.i 1,.i 562949953421311] h (fun _=>bi) fun r1 h=>ak h (fun h=>ae<|by cases h;exact Wp.ret aj) fun h=>aC<|ae<|jL (fun x8=>zj u x8=some r) (fun x8=>⟨[(2,.nil),(3,.b false),(4,.own 262145)],[],[(262145,.live 5 1 (x8.map (aw .u8)))]⟩) (fun x8 h=>ae<|by cases h;exact Wp.ret aj)<|Wp.block<|yW (fun kT x4 x5=>na u kT x4 x5=some r) (fun x4 x5=>⟨[(0,.i x4),(2,.nil),(3,.b false),(4,.own 262145)],[],[(262145,.live 5 1 (x5.map (aw .u8)))]⟩) (fun kT x4 x5 h=>?_) h (lo [(262145,589824)]) (fun _ _  h=>nomatch h)
 rw [na] at h
 exact Wp.seq<|ae<|ak h (fun h=>aC<|Wp.block<|Wp.seq<|ae<|ak h (fun h=>ae<|by cases h;exact Wp.ret aj) fun h=>aC<|aE<|cg 5 20 5 1 1179648 (aw .u8) h fun h=>aa<|aV [] []<|ab.all kr<|bY<|aN<|⟨_,_,h,lo [(262145,1310720)]⟩) fun h=>Wp.exit<|aZ<|aZ<|de<|aN<|⟨_,h,lo []⟩
theorem n5 {u p0 r} (h:jq u p0=some r):al Tryz.prog 138 [cO (ai p0)] (V.b r) []:=by
 unfold jq at h
 refine b8 Tryz.f138 false ?_
 refine ae<|Wp.seq<|ae<|ak h (fun h=>aE<|ah 4 14 h (fun h=>ah 5 19 h (fun h=>ar 2 176 aH p0.aD<|aa<|by cases h;exact Wp.ret aj) fun h=>aa<|by cases h;exact Wp.ret aj) fun h=>aa<|by cases h;exact Wp.ret aj) fun h=>aC<|Wp.seq<|pn (fun x4 p0=>s5 u x4 p0=some r) (fun x4 p0=>⟨[(1,.obj 1 0),(2,.b false),(47,.b x4)],[(1,((ai p0).map .t))],[]⟩) (fun x4 p0 h=>?_) ?_
 ·refine ak h (fun h=>ae<|by cases h;exact Wp.ret aj) fun h=>aC<|io (Cm u=some r) ⟨[(2,.b false)],[],[]⟩ (fun h=>ae<|by cases h;exact Wp.ret aj)<|ae<|Wp.block<|yW (fun gY x6 p0=>jO u gY x6 p0=some r) (fun x6 p0=>⟨[(1,.obj 1 0),(2,.b false),(3,.i x6)],[(1,((ai p0).map .t))],[]⟩) (fun gY x6 p0 h=>?_) h (lo []) (fun _ _  h=>nomatch h)
  rw [jO] at h
  exact Wp.seq<|aE<|ar 3 176 aH p0.aD<|aa<|ak h (fun h=>aC<|Wp.seq<|Wp.block<|aE<|aR 3 176 2 aH h fun y8 h _=>ag false 2 62 [.i y8.fS] h (fun _=>Ep) fun r9 h=>aa<|aK false 5 71 [.i p0.aS,.i p0.aY,.i x6] h (fun _=>mN) fun r10 h=>kh (fun x6 x13 p0=>lE u (fun z0 z1=>jO u gY z0 z1) x6 x13 p0=some r) (fun x6 x13 p0=>⟨[(1,.obj 1 0),(2,.b false),(3,.i x6),(91,.b x13)],[(1,((ai p0).map .t))],[]⟩) (fun x6 x13 p0 h=>ak h (fun h=>ae<|by cases h;exact Wp.ret aj) fun h=>Wp.skip<|bY<|aN<|aV [] []<|aa<|⟨_,_,h,lo []⟩)<|aL (jS []) (bR [(1,.obj 1),(3,.frz),(4,.own 62),(5,.frz),(7,.frz),(74,.frz),(75,.frz),(76,.frz),(77,.own 62),(78,.frz),(79,.frz),(81,.frz),(82,.frz),(83,.own 62),(84,.frz),(85,.obj 1),(86,.frz),(87,.frz),(88,.frz),(89,.frz)]) kr kr<|ah 3 76 h (fun h=>aa<|⟨_,_,_,h,lo []⟩) fun h=>ar 1 5 (aw .u8) r9.1<|ah 4 82 h (fun h=>aa<|⟨_,_,_,h,lo []⟩) fun h=>eY 1 84 [.own 4063232] h (fun _=>qt) fun r11 h=>aR 3 176 2 aH h fun y12 h _=>aa<|⟨_,_,_,h,lo []⟩) fun h=>Wp.exit<|aZ<|aZ<|de<|aN<|⟨h,lo []⟩
 exact aL (jS []) (bR [(1,.obj 1),(25,.obj 1),(26,.frz),(27,.frz),(28,.frz),(29,.frz),(30,.obj 1),(31,.frz),(32,.obj 1),(33,.frz),(34,.frz),(36,.frz),(37,.frz),(38,.obj 1),(39,.frz),(40,.frz),(41,.obj 1),(42,.frz),(43,.obj 1),(44,.frz),(45,.frz)]) kr kr<|ag false 2 27 [.i p0.aP,.i 1,.i 1000000] h (fun _=>bi) fun r1 h=>ah 2 29 h (fun h=>aa<|⟨_,_,h,lo []⟩) fun h=>ag false 4 34 [.i p0.aS,.i p0.aY] h (fun _=>wM) fun r2 h=>ah 3 37 h (fun h=>aa<|⟨_,_,h,lo []⟩) fun h=>ar 2 176 aH p0.aD<|ag false 4 45 [.i p0.aS,.i p0.aY] h (fun _=>wN) fun r3 h=>aa<|⟨_,_,h,lo []⟩
theorem Nm {u p0 r} (h:rK u p0=some r):al Tryz.prog 191 [V.i p0] (V.i r) []:=by
 unfold rK at h
 refine b8 Tryz.f191 false ?_
 refine ae<|Wp.seq<|aK false 1 4 [.i p0,.i 0,.i 40] h (fun _=>bi) fun r1 h=>ak h (fun h=>ae<|by cases h;exact Wp.ret aj) fun h=>aC<|aE<|bc 1 kr ?_
 obtain ⟨_,e_2,h⟩:=bind_some h
 exact iN .shl (.int .i64 1) (.int .i64 p0) (.int .i64 (i7 .i64 1 p0)) rfl kr kr kr kr (B8 _ _ _ _ _ (bj e_2))<|aa<|by cases h;exact Wp.ret aj
theorem Dk {u p0 r} (h:qc u p0=some r):al Tryz.prog 140 [cO (ai p0)] (V.i r) []:=by
 unfold qc at h
 refine b8 Tryz.f140 false ?_
 exact ae<|aE<|ar 2 176 aH p0.aD<|ag false 0 6 [.i ((p0.aD.length:Int))] h (fun _=>Nm) fun r1 h=>aa<|by cases h;exact Wp.ret aj
theorem Er {u p0 p1 r} (h:rL u p0 p1=some r):al Tryz.prog 139 [V.i p0,V.i p1] (V.i r) []:=by
 unfold rL at h
 refine b8 Tryz.f139 false ?_
 exact ae<|Wp.seq<|kh (fun p0 p1 x3=>tO u p0 p1 x3=some r) (fun p0 p1 x3=>⟨[(0,.i p0),(1,.i p1),(4,.i 0),(12,.b x3)],[],[]⟩) (fun p0 p1 x3 h=>ak h (fun h=>ae<|by cases h;exact Wp.ret aj) fun h=>aC<|ae<|by cases h;exact Wp.ret aj)<|aV [] []<|ag false 1 6 [.i p0] h (fun _=>cR) fun r1 h=>ah 2 8 h (fun h=>aa<|⟨_,_,_,h,lo []⟩) fun h=>ag false 1 10 [.i p1] h (fun _=>cR) fun r2 h=>aa<|⟨_,_,_,h,lo []⟩
theorem lI {u p0 p1 r} (h:fX u p0 p1=some r):al Tryz.prog 142 [V.i p0,V.i p1] (V.b r) []:=by
 unfold fX at h
 refine b8 Tryz.f142 false ?_
 refine ae<|aE<|ag false 1 6 [.i p0] h (fun _=>cR) fun r1 h=>ah 1 7 h (fun h=>?_) (fun h=>?_)
 ·refine ag false 1 9 [.i p1,.i 0,.i 39] h (fun _=>bi) fun r2 h=>ah 2 11 h (fun h=>?_) (fun h=>?_)
  ·refine bc 2 kr ?_
   obtain ⟨_,e_3,h⟩:=bind_some h
   exact iN .shr (.int .i64 p0) (.int .i64 p1) (.int .i64 (n4 .i64 p0 p1)) rfl kr kr kr kr (Je _ _ _ _ _ (bj e_3))<|aa<|by cases h;exact Wp.ret aj
  exact aa<|by cases h;exact Wp.ret aj
 exact aa<|by cases h;exact Wp.ret aj
theorem Fc {u p0 r} (h:pd u p0=some r):al Tryz.prog 144 [.one (.s p0)] (V.b r) []:=by
 unfold pd at h
 refine b8 Tryz.f144 false ?_
 refine ae<|io (AP u=some r) ⟨[(2,.b false)],[],[]⟩ (fun h=>ae<|by cases h;exact Wp.ret aj)<|ae<|Wp.block<|yW (fun mx p0 x2=>oq u mx p0 x2=some r) (fun p0 x2=>⟨[(0,.s p0),(2,.b false),(3,.i x2)],[],[]⟩) (fun mx p0 x2 h=>?_) h (lo []) (fun _ _  h=>nomatch h)
 rw [oq] at h
 exact Wp.seq<|aE<|ar 2 5 (aw .u8) p0<|aa<|ak h (fun h=>aC<|Wp.seq<|Wp.block<|aE<|aR 2 5 1 (aw .u8) h fun y4 h _=>aa<|ak h (fun h=>ae<|by cases h;exact Wp.ret aj) fun h=>Wp.skip<|bY<|aN<|aV [] []<|aa<|⟨_,_,h,lo []⟩) fun h=>Wp.exit<|aZ<|aZ<|de<|aN<|⟨h,lo []⟩
theorem ul {u p0 p1 r} (h:nI u p0 p1=some r):al Tryz.prog 90 [cO (ai p0),cO (cJ p1)] (V.b r) []:=by
 unfold nI at h
 refine b8 Tryz.f90 false ?_
 refine ae<|Wp.seq<|kh (fun x5 p0 p1=>nb u x5 p0 p1=some r) (fun x5 p0 p1=>⟨[(2,.obj 2 0),(3,.obj 3 0),(4,.b false),(33,.b x5)],[(2,((ai p0).map .t)),(3,[.i p1.aT,.s p1.bg])],[]⟩) (fun x5 p0 p1 h=>?_) ?_
 ·refine ak h (fun h=>ae<|by cases h;exact Wp.ret aj) fun h=>aC<|io (zl u=some r) ⟨[(4,.b false)],[],[]⟩ (fun h=>ae<|by cases h;exact Wp.ret aj)<|ae<|Wp.block<|dZ (fun dQ x7 p0 p1=>ey u dQ x7 p0 p1=some r) (fun x7 p0 p1=>⟨[(2,.obj 2 0),(3,.obj 3 0),(4,.b false),(5,.i x7)],[(2,((ai p0).map .t)),(3,[.i p1.aT,.s p1.bg])],[]⟩) (fun dQ x7 p0 p1 h=>?_) h (lo []) (fun _ _ _  h=>nomatch h)
  rw [ey] at h
  refine Wp.seq<|aE<|ar 3 176 aH p0.aD<|aa<|ak h (fun h=>?_) (fun h=>?_)
  ·refine aC<|Wp.seq<|Wp.block<|aK false 5 47 [.i p0.aS,.i p0.aY,.i x7] h (fun _=>mN) fun r9 h=>aE<|bc 6 kr ?_
   obtain ⟨_,e_10,h⟩:=bind_some h
   exact eT (e:=5) (ax:=.s p1.bg) (alo:=(some (.i r9.1))) (ahi:=(some (.i (aW .i64 r9.1 r9.2)))) (aw .u8) p1.bg 1 r9.1 (aW .i64 r9.1 r9.2) rfl kr kr kr kr kr kr kr kr kr kr kr (bj e_10)<|aa<|m2 (fun x7 x18 p0 p1=>d2 u (fun z0 z1 z2=>ey u dQ z0 z1 z2) x7 x18 p0 p1=some r) (fun x7 x18 p0 p1=>⟨[(2,.obj 2 0),(3,.obj 3 0),(4,.b false),(5,.i x7),(82,.b x18)],[(2,((ai p0).map .t)),(3,[.i p1.aT,.s p1.bg])],[]⟩) (fun x7 x18 p0 p1 h=>ak h (fun h=>ae<|by cases h;exact Wp.ret aj) fun h=>Wp.skip<|bY<|aN<|aV [] []<|aa<|⟨_,_,_,h,lo []⟩)<|aL (jS []) (bR [(2,.obj 2),(3,.obj 3),(5,.frz),(8,.frz),(57,.obj 3),(58,.frz),(59,.frz),(60,.frz),(61,.frz),(62,.frz),(63,.frz),(64,.obj 2),(65,.frz),(66,.frz),(67,.frz),(68,.frz),(70,.frz),(71,.frz),(72,.obj 3),(73,.frz),(74,.frz),(75,.frz),(76,.frz),(77,.frz),(78,.frz),(79,.frz)]) kr kr<|ag false 3 60 [.i p1.aT,.i x7] h (fun _=>lI) fun r11 h=>ah 1 61 h (fun h=>ag false 1 63 [.t (.sl 1 (((p1.bg.take (Int.toNat (aW .i64 r9.1 r9.2))).drop (Int.toNat r9.1)).map (aw .u8)))] h (fun _=>qt) fun r12 h=>aR 3 176 2 aH h fun y13 h _=>ah 4 71 h (fun h=>aa<|⟨_,_,_,_,h,lo []⟩) fun h=>ag false 3 75 [.i p1.aT,.i x7] h (fun _=>lI) fun r14 h=>ah 2 77 h (fun h=>ag false 1 79 [.t (.sl 1 (((p1.bg.take (Int.toNat (aW .i64 r9.1 r9.2))).drop (Int.toNat r9.1)).map (aw .u8)))] h (fun _=>Fc) fun r15 h=>aa<|⟨_,_,_,_,h,lo []⟩) fun h=>aa<|⟨_,_,_,_,h,lo []⟩) fun h=>ag false 13 75 [.i p1.aT,.i x7] h (fun _=>lI) fun r16 h=>ah 2 77 h (fun h=>ag false 1 79 [.t (.sl 1 (((p1.bg.take (Int.toNat (aW .i64 r9.1 r9.2))).drop (Int.toNat r9.1)).map (aw .u8)))] h (fun _=>Fc) fun r17 h=>aa<|⟨_,_,_,_,h,lo []⟩) fun h=>aa<|⟨_,_,_,_,h,lo []⟩
  exact Wp.exit<|aZ<|aZ<|de<|aN<|⟨h,lo []⟩
 exact aL (jS []) (bR [(2,.obj 2),(3,.obj 3),(9,.frz),(10,.frz),(11,.frz),(12,.frz),(13,.obj 3),(14,.frz),(15,.frz),(17,.frz),(18,.frz),(19,.obj 3),(20,.frz),(21,.frz),(22,.frz),(23,.frz),(25,.frz),(26,.frz),(27,.obj 3),(28,.frz),(29,.frz),(30,.obj 2),(31,.frz)]) kr kr<|ag false 1 10 [.agg ((ai p0).map .t)] h (fun _=>n5) fun r1 h=>ah 2 12 h (fun h=>aa<|⟨_,_,_,h,lo []⟩) fun h=>ag false 2 15 [.i p1.aT] h (fun _=>cR) fun r2 h=>ah 3 18 h (fun h=>aa<|⟨_,_,_,h,lo []⟩) fun h=>ag false 3 22 [.agg ((ai p0).map .t)] h (fun _=>Dk) fun r3 h=>ag false 0 23 [.i p1.aT,.i r3] h (fun _=>Er) fun r4 h=>ah 3 26 h (fun h=>aa<|⟨_,_,_,h,lo []⟩) fun h=>ar 2 5 (aw .u8) p1.bg<|aa<|⟨_,_,_,h,lo []⟩
theorem Nn {u p0 p1 r} (h:vE u p0 p1=some r):al Tryz.prog 145 [cO (ai p0),cO (cJ p1)] (V.i r) []:=by
 unfold vE at h
 refine b8 Tryz.f145 false ?_
 exact ae<|Wp.seq<|aL (jS []) (bR [(2,.obj 2),(3,.obj 3),(5,.frz),(6,.frz),(7,.obj 3),(8,.frz),(9,.frz)]) kr kr<|ag false 1 6 [.agg ((ai p0).map .t)] h (fun _=>Dk) fun r1 h=>ag false 2 9 [.i r1,.i p1.aT] h (fun _=>Er) fun r2 h=>aa<|by cases h;exact Wp.ret aj
theorem R4 {u p0 p1 r} (h:AQ u p0 p1=some r):al Tryz.prog 91 [cO (ai p0),cO (cJ p1)] (V.b r) []:=by
 unfold AQ at h
 refine b8 Tryz.f91 false ?_
 exact ae<|aE<|ah 4 8 h (fun h=>ag false 2 11 [.agg ((ai p0).map .t),.agg [.i p1.aT,.s p1.bg]] h (fun _=>ul) fun r1 h=>ah 2 13 h (fun h=>ag false 2 16 [.agg ((ai p0).map .t),.agg [.i p1.aT,.s p1.bg]] h (fun _=>Nn) fun r2 h=>aa<|by cases h;exact Wp.ret aj) fun h=>aa<|by cases h;exact Wp.ret aj) fun h=>aa<|by cases h;exact Wp.ret aj
theorem P8 {u p0 p1 p2 r} (h:uQ u p0 p1 p2=some r):al Tryz.prog 51 [cO (hH p0),V.i p1,cO (ay p2)] (V.b r) []:=by
 unfold uQ at h
 refine b8 Tryz.f51 false ?_
 refine ae<|Wp.seq<|m2 (fun p1 x3 p0 p2=>vF u p1 x3 p0 p2=some r) (fun p1 x3 p0 p2=>⟨[(1,.i p1),(3,.obj 3 0),(5,.obj 5 0),(6,.b false),(19,.b x3)],[(3,[.t (.sl 1 (p0.cx.map (aw .i64)))]),(5,((ay p2).map .t))],[]⟩) (fun p1 x3 p0 p2 h=>?_) ?_
 ·refine ak h (fun h=>ae<|by cases h;exact Wp.ret aj) fun h=>aC<|Wp.seq<|ae<|ak h (fun h=>aE<|ah 4 26 h (fun h=>ah 5 31 h (fun h=>ag false 1 33 [.agg ((ay p2).map .t)] h (fun _=>Eo) fun r4 h=>ah 2 35 h (fun h=>ah 5 40 h (fun h=>ar 2 149 am p2.aO<|ah 3 46 h (fun h=>aa<|by cases h;exact Wp.ret aj) fun h=>aa<|by cases h;exact Wp.ret aj) fun h=>aa<|by cases h;exact Wp.ret aj) fun h=>aa<|by cases h;exact Wp.ret aj) fun h=>aa<|by cases h;exact Wp.ret aj) fun h=>aa<|by cases h;exact Wp.ret aj) fun h=>aC<|Wp.seq<|m2 (fun p1 x11 p0 p2=>cr u p1 x11 p0 p2=some r) (fun p1 x11 p0 p2=>⟨[(1,.i p1),(3,.obj 3 0),(5,.obj 5 0),(6,.b false),(93,.b x11)],[(3,[.t (.sl 1 (p0.cx.map (aw .i64)))]),(5,((ay p2).map .t))],[]⟩) (fun p1 x11 p0 p2 h=>?_) ?_
  ·refine ak h (fun h=>ae<|by cases h;exact Wp.ret aj) fun h=>aC<|jL (fun p2=>qT u p2=some r) (fun p2=>⟨[(5,.obj 5 0),(6,.b false)],[(5,((ay p2).map .t))],[]⟩) (fun p2 h=>Wp.seq<|ae<|Wp.block<|ae<|ak h (fun h=>aK false 1 126 [.agg ((ay p2).map .t)] h (fun _=>Eo) fun r18 h=>by cases h;exact Wp.ret aj) fun h=>ae<|ak h (fun h=>aE<|ah 5 133 h (fun h=>ag false 4 138 [.agg ((ai p2.av).map .t),.agg [.i p2.a7.aT,.s p2.a7.bg]] h (fun _=>ul) fun r19 h=>aa<|by cases h;exact Wp.ret aj) fun h=>aa<|by cases h;exact Wp.ret aj) fun h=>Wp.skip<|bY<|aN<|aE<|ag false 2 142 [.i p2.aJ,.i 2,.i 6] h (fun _=>bi) fun r20 h=>ah 1 143 h (fun h=>ag false 4 148 [.agg ((ai p2.av).map .t),.agg [.i p2.a7.aT,.s p2.a7.bg]] h (fun _=>R4) fun r21 h=>aa<|by cases h;exact Wp.ret aj) fun h=>aa<|by cases h;exact Wp.ret aj)<|ae<|Wp.block<|GI (fun ie p1 x13 p0 p2=>iE u ie p1 x13 p0 p2=some r) (fun p1 x13 p0 p2=>⟨[(1,.i p1),(3,.obj 3 0),(5,.obj 5 0),(6,.b false),(7,.i x13)],[(3,[.t (.sl 1 (p0.cx.map (aw .i64)))]),(5,((ay p2).map .t))],[]⟩) (fun ie p1 x13 p0 p2 h=>?_) h (lo []) (fun _ _ _ _  h=>nomatch h)
   rw [iE] at h
   exact Wp.seq<|aE<|ar 3 149 am p2.aO<|aa<|ak h (fun h=>aC<|Wp.seq<|Wp.block<|wL (fun p1 x13 x17 p0 p2=>ot u (fun z0 z1 z2 z3=>iE u ie z0 z1 z2 z3) p1 x13 x17 p0 p2=some r) (fun p1 x13 x17 p0 p2=>⟨[(1,.i p1),(3,.obj 3 0),(5,.obj 5 0),(6,.b false),(7,.i x13),(120,.b x17)],[(3,[.t (.sl 1 (p0.cx.map (aw .i64)))]),(5,((ay p2).map .t))],[]⟩) (fun p1 x13 x17 p0 p2 h=>ak h (fun h=>ae<|by cases h;exact Wp.ret aj) fun h=>Wp.skip<|bY<|aN<|aV [] []<|aa<|⟨_,_,_,_,h,lo []⟩)<|aL (jS []) (bR [(1,.frz),(3,.obj 3),(5,.obj 5),(7,.frz),(101,.obj 5),(102,.frz),(103,.frz),(104,.frz),(105,.frz),(106,.frz),(107,.frz),(108,.frz),(109,.frz),(110,.obj 5),(111,.frz),(112,.frz),(113,.frz),(114,.frz),(115,.frz),(116,.obj 3),(117,.frz),(118,.frz)]) kr kr<|aR 3 149 5 am h fun y15 h _=>ah 5 109 h (fun h=>aa<|⟨_,_,_,_,_,h,lo []⟩) fun h=>aR 3 149 5 am h fun y16 h _=>ar 4 3 (aw .i64) p0.cx<|aa<|⟨_,_,_,_,_,h,lo []⟩) fun h=>Wp.exit<|aZ<|aZ<|de<|aN<|⟨_,h,lo []⟩
  exact aV [] []<|ah 3 53 h (fun h=>ah 5 58 h (fun h=>aa<|⟨_,_,_,_,h,lo []⟩) fun h=>ah 3 61 h (fun h=>ag false 4 66 [.agg [.t (.sl 1 (p0.cx.map (aw .i64)))],.i p2.bf,.i p1] h (fun _=>Dj) fun r5 h=>ah 4 70 h (fun h=>aa<|⟨_,_,_,_,h,lo []⟩) fun h=>ah 5 75 h (fun h=>aa<|⟨_,_,_,_,h,lo []⟩) fun h=>ah 5 80 h (fun h=>aa<|⟨_,_,_,_,h,lo []⟩) fun h=>ah 8 88 h (fun h=>aa<|⟨_,_,_,_,h,lo []⟩) fun h=>ag false 2 91 [.t (.sl 5 (p2.aO.map am))] h (fun _=>wP) fun r6 h=>aa<|⟨_,_,_,_,h,lo []⟩) fun h=>ah 14 75 h (fun h=>aa<|⟨_,_,_,_,h,lo []⟩) fun h=>ah 5 80 h (fun h=>aa<|⟨_,_,_,_,h,lo []⟩) fun h=>ah 8 88 h (fun h=>aa<|⟨_,_,_,_,h,lo []⟩) fun h=>ag false 2 91 [.t (.sl 5 (p2.aO.map am))] h (fun _=>wP) fun r7 h=>aa<|⟨_,_,_,_,h,lo []⟩) fun h=>ah 8 61 h (fun h=>ag false 4 66 [.agg [.t (.sl 1 (p0.cx.map (aw .i64)))],.i p2.bf,.i p1] h (fun _=>Dj) fun r8 h=>ah 4 70 h (fun h=>aa<|⟨_,_,_,_,h,lo []⟩) fun h=>ah 5 75 h (fun h=>aa<|⟨_,_,_,_,h,lo []⟩) fun h=>ah 5 80 h (fun h=>aa<|⟨_,_,_,_,h,lo []⟩) fun h=>ah 8 88 h (fun h=>aa<|⟨_,_,_,_,h,lo []⟩) fun h=>ag false 2 91 [.t (.sl 5 (p2.aO.map am))] h (fun _=>wP) fun r9 h=>aa<|⟨_,_,_,_,h,lo []⟩) fun h=>ah 14 75 h (fun h=>aa<|⟨_,_,_,_,h,lo []⟩) fun h=>ah 5 80 h (fun h=>aa<|⟨_,_,_,_,h,lo []⟩) fun h=>ah 8 88 h (fun h=>aa<|⟨_,_,_,_,h,lo []⟩) fun h=>ag false 2 91 [.t (.sl 5 (p2.aO.map am))] h (fun _=>wP) fun r10 h=>aa<|⟨_,_,_,_,h,lo []⟩
 exact aV [] []<|ag false 1 9 [.agg [.t (.sl 1 (p0.cx.map (aw .i64)))]] h (fun _=>Fa) fun r1 h=>ah 2 11 h (fun h=>aa<|⟨_,_,_,_,h,lo []⟩) fun h=>ar 3 3 (aw .i64) p0.cx<|ag false 1 17 [.i p1,.i 0,.i (cy .i64 ((p0.cx.length:Int)) 1)] h (fun _=>bi) fun r2 h=>aa<|⟨_,_,_,_,h,lo []⟩
theorem Dl {u p0 r} (h:qd u p0=some r):al Tryz.prog 92 [cO (fk p0)] (V.b r) []:=by
 unfold qd at h
 refine b8 Tryz.f92 false ?_
 exact ae<|aE<|ag false 2 5 [.i p0.aP,.i 0,.i 1000000] h (fun _=>bi) fun r1 h=>ah 1 6 h (fun h=>ag false 2 9 [.i p0.cL,.i 0,.i 1] h (fun _=>bi) fun r2 h=>ah 2 11 h (fun h=>ag false 2 14 [.i p0.aY,.i 0,.i 240] h (fun _=>bi) fun r3 h=>aa<|by cases h;exact Wp.ret aj) fun h=>aa<|by cases h;exact Wp.ret aj) fun h=>aa<|by cases h;exact Wp.ret aj
theorem wQ {u p0 p1 r} (h:pe u p0 p1=some r):al Tryz.prog 93 [cO (aB p0),V.i p1] (.one (.s r)) []:=by
 unfold pe at h
 refine b8 Tryz.f93 false ?_
 exact ae<|Wp.seq<|ae<|ak h (fun h=>ae<|by cases h;exact Wp.ret aj) fun h=>aC<|ae<|by cases h;exact Wp.ret aj
theorem GJ {u p0 r} (h:ut u p0=some r):al Tryz.prog 94 [cO (aU p0)] (V.b r) []:=by
 unfold ut at h
 refine b8 Tryz.f94 false ?_
 exact ae<|ae<|Wp.seq<|ae<|ak h (fun h=>aE<|ah 4 11 h (fun h=>ar 2 5 (aw .u8) p0.fB<|ah 3 17 h (fun h=>ag false 2 20 [.agg ((fk p0.fR).map .t)] h (fun _=>Dl) fun r1 h=>aa<|by cases h;exact Wp.ret aj) fun h=>aa<|by cases h;exact Wp.ret aj) fun h=>aa<|by cases h;exact Wp.ret aj) fun h=>aC<|aE<|ag false 2 24 [.i p0.d1,.i 0,.i 1] h (fun _=>bi) fun r2 h=>ah 1 25 h (fun h=>ag false 2 28 [.i p0.Cl,.i 0,.i 240] h (fun _=>bi) fun r3 h=>ah 2 30 h (fun h=>ar 2 5 (aw .u8) p0.fB<|ah 6 39 h (fun h=>aa<|by cases h;exact Wp.ret aj) fun h=>aa<|by cases h;exact Wp.ret aj) fun h=>aa<|by cases h;exact Wp.ret aj) fun h=>aa<|by cases h;exact Wp.ret aj
theorem Bf {u p0 r} (h:pf u p0=some r):al Tryz.prog 52 [cO (aB p0)] (V.b r) []:=by
 unfold pf at h
 refine b8 Tryz.f52 false ?_
 refine ae<|Wp.seq<|pn (fun x3 p0=>mB u x3 p0=some r) (fun x3 p0=>⟨[(1,.obj 1 0),(2,.b false),(37,.b x3)],[(1,((aB p0).map .t))],[]⟩) (fun x3 p0 h=>?_) ?_
 ·refine ak h (fun h=>ae<|by cases h;exact Wp.ret aj) fun h=>aC<|io (AR u=some r) ⟨[(2,.b false)],[],[]⟩ (fun h=>ae<|by cases h;exact Wp.ret aj)<|ae<|Wp.block<|yW (fun mp x5 p0=>mA u mp x5 p0=some r) (fun x5 p0=>⟨[(1,.obj 1 0),(2,.b false),(3,.i x5)],[(1,((aB p0).map .t))],[]⟩) (fun mp x5 p0 h=>?_) h (lo []) (fun _ _  h=>nomatch h)
  rw [mA] at h
  exact Wp.seq<|aE<|ar 3 155 aU p0.fP<|aa<|ak h (fun h=>aC<|Wp.seq<|Wp.block<|aE<|aR 3 155 6 aU h fun y7 h _=>ag false 1 50 [.agg ((aU y7).map .t)] h (fun _=>GJ) fun r8 h=>aa<|ak h (fun h=>ae<|by cases h;exact Wp.ret aj) fun h=>Wp.skip<|bY<|aN<|aV [] []<|aa<|⟨_,_,h,lo []⟩) fun h=>Wp.exit<|aZ<|aZ<|de<|aN<|⟨h,lo []⟩
 exact aL (jS []) (bR [(1,.obj 1),(4,.obj 1),(5,.frz),(6,.frz),(7,.frz),(8,.frz),(9,.obj 1),(10,.frz),(11,.frz),(13,.frz),(14,.frz),(15,.obj 1),(16,.frz),(17,.frz),(19,.frz),(20,.frz),(21,.obj 1),(22,.obj 1),(23,.frz),(24,.frz),(25,.obj 1),(26,.obj 1),(27,.frz),(28,.frz),(29,.frz),(31,.frz),(32,.frz),(33,.obj 1),(34,.frz),(35,.frz)]) kr kr<|ar 2 5 (aw .u8) p0.fA<|ah 2 8 h (fun h=>aa<|⟨_,_,h,lo []⟩) fun h=>ar 2 5 (aw .u8) p0.fB<|ah 3 14 h (fun h=>aa<|⟨_,_,h,lo []⟩) fun h=>ag false 2 17 [.agg ((fk p0.fR).map .t)] h (fun _=>Dl) fun r1 h=>ah 3 20 h (fun h=>aa<|⟨_,_,h,lo []⟩) fun h=>ag false 7 28 [.agg ((aB p0).map .t),.i p0.fR.cL] h (fun _=>wQ) fun r2 h=>ar 0 5 (aw .u8) r2<|ah 3 32 h (fun h=>aa<|⟨_,_,h,lo []⟩) fun h=>ar 2 155 aU p0.fP<|aa<|⟨_,_,h,lo []⟩
theorem Es {u p0 r} (h:rM u p0=some r):al Tryz.prog 146 [cO (aB p0)] (.tup [V.i r.1,.one (.ow 5 1 (r.2.map (aw .u8)))]) []:=by
 unfold rM at h
 refine b8 Tryz.f146 true ?_
 refine ae<|Wp.seq<|aK false 1 5 [.agg ((aB p0).map .t)] h (fun _=>Bf) fun r1 h=>ak h (fun h=>ae<|by cases h;exact Wp.ret aj) fun h=>aC<|Wp.seq<|aL (jS []) (bR [(1,.obj 1),(8,.obj 1),(9,.obj 1),(10,.frz),(11,.own 11),(12,.frz),(13,.obj 1),(14,.obj 1),(15,.frz),(16,.frz),(17,.obj 1),(18,.obj 1),(19,.frz),(20,.frz),(21,.own 21)]) kr kr<|ag false 8 16 [.agg ((aB p0).map .t),.i p0.fR.cL] h (fun _=>wQ) fun r2 h=>bc 3 kr ?_
 obtain ⟨_,e_3,h⟩:=bind_some h
 exact eT (e:=5) (ax:=.s r2) (alo:=none) (ahi:=(some (.i p0.fR.aY))) (aw .u8) r2 1 0 p0.fR.aY rfl kr kr kr kr kr kr kr kr kr kr kr (bj e_3)<|cg 0 21 5 1 720896 (aw .u8) h fun h=>aa<|by cases h;exact Wp.ret aj
theorem wR {u p0 p1 r} (h:ou u p0 p1=some r):al Tryz.prog 147 [.one (.s p0),.one (.s p1)] (V.b r) []:=by
 unfold ou at h
 refine b8 Tryz.f147 false ?_
 exact ae<|aE<|bc 1 kr<|xZ (y:=.s p0) (e:=5) p0 1 rfl kr kr kr kr kr kr kr<|bc 1 kr<|xZ (y:=.s p1) (e:=5) p1 1 rfl kr kr kr kr kr kr kr<|aa<|by cases h;exact Wp.ret aj
theorem qu {u p0 p1 p2 r} (h:nU u p0 p1 p2=some r):al Tryz.prog 96 [cO (aB p0),V.i p1,.one (.s p2)] (V.b r) []:=by
 unfold nU at h
 refine b8 Tryz.f96 false ?_
 exact ae<|aK false 1 11 [.agg ((aB p0).map .t)] h (fun _=>Es) fun r1 h=>aE<|ah 4 17 h (fun h=>eY 2 20 [.own 721920,.s p2] h (fun _=>wR) fun r2 h=>aa<|by cases h;exact Wp.ret aj) fun h=>aa<|by cases h;exact Wp.ret aj
theorem Ln {u p0 p1 p2 p3 r} (h:s6 u p0 p1 p2 p3=some r):al Tryz.prog 97 [cO (aB p0),.one (.s p1),V.i p2,.one (.s p3)] (V.b r) []:=by
 unfold s6 at h
 refine b8 Tryz.f97 false ?_
 exact ae<|aE<|ag false 2 11 [.agg ((aB p0).map .t),.i 0,.s p1] h (fun _=>qu) fun r1 h=>ah 1 12 h (fun h=>aa<|by cases h;exact Wp.ret aj) fun h=>ag false 3 16 [.agg ((aB p0).map .t),.i p2,.s p3] h (fun _=>qu) fun r2 h=>aa<|by cases h;exact Wp.ret aj
theorem ye {u p0 r} (h:qU u p0=some r):al Tryz.prog 148 [cO (aB p0)] (V.i r) []:=by
 unfold qU at h
 refine b8 Tryz.f148 false ?_
 exact ae<|ae<|by cases h;exact Wp.ret aj
theorem Jo {u p0 r} (h:qV u p0=some r):al Tryz.prog 234 [cO (aU p0)] (V.w [0,0,5,0,0,0] (aU r)) []:=by
 unfold qV at h
 refine b8 Tryz.f234 true ?_
 exact ae<|ae<|aE<|cg 3 8 5 1 327680 (aw .u8) h fun h=>aa<|ae<|by cases h;exact Wp.ret aj
theorem Fd {u p0 r} (h:uR u p0=some r):al Tryz.prog 194 [cO (aB p0)] (V.w [5,5,0,0,0,155] (aB r)) []:=by
 unfold uR at h
 refine b8 Tryz.f194 true ?_
 refine ae<|Wp.seq<|aL (jS []) (bR [(1,.obj 1),(3,.obj 3),(6,.own 6),(7,.obj 1),(8,.frz),(9,.own 9),(10,.own 10),(11,.obj 1),(12,.frz),(13,.own 13),(14,.obj 1),(15,.frz),(16,.own 16)]) kr kr<|cg 3 9 5 1 393216 (aw .u8) h fun h=>cg 3 13 5 1 655360 (aw .u8) h fun h=>aa<|pn (fun p0 x11=>AS u p0 x11=some r) (fun p0 x11=>⟨[(2,.obj 2 0),(3,.obj 3 0)],[(2,[.nil,.nil,.i 0,.i 0,.i 0,.nil]),(3,[.own 197120,.own 197121,.i p0.fR.aP,.i p0.fR.cL,.i p0.fR.aY,.own 197125])],[(197120,.live 5 1 (((([]:List Int))++p0.fA).map (aw .u8))),(197121,.live 5 1 (((([]:List Int))++p0.fB).map (aw .u8))),(197125,.live 155 6 (x11.map aU))]⟩) (fun p0 x11 h=>ae<|by cases h;exact Wp.ret aj)<|ae<|Wp.block<|dZ (fun my x5 p0 x6=>oz u my x5 p0 x6=some r) (fun x5 p0 x6=>⟨[(1,.obj 1 0),(2,.obj 2 0),(3,.obj 3 0),(4,.i x5)],[(1,((aB p0).map .t)),(2,[.nil,.nil,.i 0,.i 0,.i 0,.nil]),(3,[.own 197120,.own 197121,.i p0.fR.aP,.i p0.fR.cL,.i p0.fR.aY,.own 197125])],[(197120,.live 5 1 (((([]:List Int))++p0.fA).map (aw .u8))),(197121,.live 5 1 (((([]:List Int))++p0.fB).map (aw .u8))),(197125,.live 155 6 (x6.map aU))]⟩) (fun my x5 p0 x6 h=>?_) h (lo [(197120,589824),(197121,851968),(197125,1048576)]) (fun _ _ _  h=>nomatch h)
 rw [oz] at h
 exact Wp.seq<|aE<|ar 3 155 aU p0.fP<|aa<|ak h (fun h=>aC<|Wp.seq<|Wp.block<|aE<|aR 3 155 6 aU h fun y9 h _=>ag false 1 30 [.agg ((aU y9).map .t)] h (fun _=>Jo) fun r10 h=>aa<|aV [] []<|cg (ys:=[r10]) 4 35 155 6 197125 aU h fun h=>ab.all kr<|bY<|aN<|aV [] []<|aa<|⟨_,_,_,h,lo [(197125,2293760)]⟩) fun h=>Wp.exit<|aZ<|aZ<|de<|aN<|⟨_,_,h,lo []⟩
theorem GK {u p0 p1 p2 r} (h:xy u p0 p1 p2=some r):al Tryz.prog 235 [.one (.s p0),V.i p1,.one (.s p2)] (.one (.ow 5 1 (r.map (aw .u8)))) []:=by
 unfold xy at h
 refine b8 Tryz.f235 true ?_
 refine ae<|aE<|cg 2 11 5 1 589824 (aw .u8) h fun h=>aa<|kh (fun p1 p2 x5=>xV u p1 p2 x5=some r) (fun p1 p2 x5=>⟨[(1,.i p1),(2,.s p2),(6,.nil),(7,.own 458753)],[],[(458753,.live 5 1 (x5.map (aw .u8)))]⟩) (fun p1 p2 x5 h=>?_) ?_
 ·refine jL (fun x14=>xU u x14=some r) (fun x14=>⟨[(6,.nil),(7,.own 458753)],[],[(458753,.live 5 1 (x14.map (aw .u8)))]⟩) (fun x14 h=>ae<|by cases h;exact Wp.ret aj)<|ae<|Wp.block<|GI (fun nF p1 p2 x8 x9=>qe u nF p1 p2 x8 x9=some r) (fun p1 p2 x8 x9=>⟨[(1,.i p1),(2,.s p2),(6,.nil),(7,.own 458753),(8,.i x9)],[],[(458753,.live 5 1 (x8.map (aw .u8)))]⟩) (fun nF p1 p2 x8 x9 h=>?_) h (lo []) (fun _ _ _ _  h=>nomatch h)
  rw [qe] at h
  exact Wp.seq<|aE<|ar 2 5 (aw .u8) p2<|aa<|ak h (fun h=>aC<|Wp.seq<|Wp.block<|aV [] []<|aR 6 5 1 (aw .u8) h fun y12 h _=>cI 1 5 1 458753 5 (aw .u8) h fun y13 h e_y13=>gm (e:=5) (sz:=1) (m:=1) (aw .u8) x8 458753 (Int.toNat (aW .i64 p1 x9)) 0 y12 (.t (.int .u8 y12)) [.int .u8 y12] rfl kr kr kr kr kr kr kr kr ((cq e_y13).2) kr kr<|ab.all kr<|bY<|aN<|aV [] []<|aa<|⟨_,_,_,_,h,lo []⟩) fun h=>Wp.exit<|aZ<|aZ<|de<|aN<|⟨_,h,lo []⟩
 refine Wp.block<|dZ (fun nG p1 p2 x3=>s7 u nG p1 p2 x3=some r) (fun p1 p2 x3=>⟨[(1,.i p1),(2,.s p2),(6,.nil),(7,.own 458753)],[],[(458753,.live 5 1 (x3.map (aw .u8)))]⟩) (fun nG p1 p2 x3 h=>?_) h (lo [(458753,720896)]) (fun _ _ _  h=>nomatch h)
 rw [s7] at h
 exact Wp.seq<|aE<|ar 1 5 (aw .u8) x3<|ar 2 5 (aw .u8) p2<|aa<|ak h (fun h=>aC<|Wp.block<|aV [] []<|cg 2 21 5 1 458753 (aw .u8) h fun h=>ab.all kr<|bY<|aN<|⟨_,_,_,h,lo [(458753,1376256)]⟩) fun h=>Wp.exit<|aZ<|aZ<|de<|aN<|⟨_,_,_,h,lo []⟩
theorem P9 {u p0 p1 r} (h:qX u p0 p1=some r):al Tryz.prog 195 [cO (aB p0),cO (aU p1)] (V.w [5,5,0,0,0,155] (aB r)) []:=by
 unfold qX at h
 refine b8 Tryz.f195 true ?_
 exact ae<|aK false 1 7 [.agg ((aB p0).map .t)] h (fun _=>Fd) fun r1 h=>Jk (fun x5 x6 x7 x8 x9 r1=>qW u x5 x6 x7 x8 x9 r1=some r) (fun x5 x6 x7 x8 x9 r1=>⟨[(4,.obj 4 0),(5,.obj 5 0)],[(4,[.nil,.nil,.i 0,.i 0,.i 0,.nil]),(5,[.own 328192,.own 328193,.i x7,.i x8,.i x9,.own 328197])],[(328192,.live 5 1 (x5.map (aw .u8))),(328193,.live 5 1 (x6.map (aw .u8))),(328197,.live 155 6 (r1.fP.map aU))]⟩) (fun x5 x6 x7 x8 x9 r1 h=>ae<|by cases h;exact Wp.ret aj)<|Wp.block<|aK false 1 13 [.agg ((aU p1).map .t)] h (fun _=>GJ) fun r2 h=>ak h (fun h=>Wp.skip<|bY<|aN<|⟨_,_,_,_,_,_,h,lo [(328192,458752),(328193,458753),(328197,458757)]⟩) fun h=>ae<|ak h (fun h=>aV [] []<|ag false 6 25 [.s p0.fA,.i p1.Cl,.s p1.fB] h (fun _=>GK) fun r3 h=>ab.all kr<|bY<|aN<|⟨_,_,_,_,_,_,h,lo [(328192,1638400),(328193,458753),(328197,458757)]⟩) fun h=>ae<|ak h (fun h=>aV [] []<|ag false 6 37 [.s p0.fB,.i p1.Cl,.s p1.fB] h (fun _=>GK) fun r4 h=>ab.all kr<|bY<|aN<|⟨_,_,_,_,_,_,h,lo [(328192,458752),(328193,2424832),(328197,458757)]⟩) fun h=>aV [] []<|ab.all kr<|bY<|aN<|⟨_,_,_,_,_,_,h,lo [(328192,458752),(328193,458753),(328197,458757)]⟩
theorem TG {u p0 r} (h:CT u p0=some r):al Tryz.prog 149 [cO (aB p0)] (V.w [5,5,0,0,0,155] (aB r)) []:=by
 unfold CT at h
 refine b8 Tryz.f149 true ?_
 refine ae<|aK false 1 6 [.agg ((aB p0).map .t)] h (fun _=>Fd) fun r1 h=>Wp.seq<|aK false 1 8 [.agg ((aB p0).map .t)] h (fun _=>Bf) fun r2 h=>ak h (fun h=>ae<|by cases h;exact Wp.ret aj) fun h=>aC<|Jk (fun x26 x27 x28 x29 x30 x31=>DJ u x26 x27 x28 x29 x30 x31=some r) (fun x26 x27 x28 x29 x30 x31=>⟨[(2,.obj 2 0),(3,.obj 3 0)],[(2,[.nil,.nil,.i 0,.i 0,.i 0,.nil]),(3,[.own 197120,.own 197121,.i x28,.i x29,.i x30,.own 197125])],[(197120,.live 5 1 (x26.map (aw .u8))),(197121,.live 5 1 (x27.map (aw .u8))),(197125,.live 155 6 (x31.map aU))]⟩) (fun x26 x27 x28 x29 x30 x31 h=>ae<|ae<|by cases h;exact Wp.ret aj)<|ae<|Wp.block<|PN (fun o8 x10 p0 x11 x12 x13 x14 x15 x16=>rN u o8 x10 p0 x11 x12 x13 x14 x15 x16=some r) (fun x10 p0 x11 x12 x13 x14 x15 x16=>⟨[(1,.obj 1 0),(2,.obj 2 0),(3,.obj 3 0),(4,.i x10)],[(1,((aB p0).map .t)),(2,[.nil,.nil,.i 0,.i 0,.i 0,.nil]),(3,[.own 197120,.own 197121,.i x13,.i x14,.i x15,.own 197125])],[(197120,.live 5 1 (x11.map (aw .u8))),(197121,.live 5 1 (x12.map (aw .u8))),(197125,.live 155 6 (x16.map aU))]⟩) (fun o8 x10 p0 x11 x12 x13 x14 x15 x16 h=>?_) h (lo [(197120,393216),(197121,393217),(197125,393221)]) (fun _ _ _ _ _ _ _ _  h=>nomatch h)
 rw [rN] at h
 exact Wp.seq<|aE<|ar 3 155 aU p0.fP<|aa<|ak h (fun h=>aC<|Wp.seq<|Wp.block<|Wp.le (Le.trans (mW 3 0 197120 5 1 [.own 197120,.own 197121,.i x13,.i x14,.i x15,.own 197125] (x11.map (aw .u8)) kr kr kr) (Le.trans (mW 3 1 197121 5 1 [.s x11,.own 197121,.i x13,.i x14,.i x15,.own 197125] (x12.map (aw .u8)) kr kr kr) (mW 3 5 197125 155 6 [.s x11,.s x12,.i x13,.i x14,.i x15,.own 197125] (x16.map aU) kr kr kr)))<|aL (jS []) (bR [(1,.obj 1),(3,.obj 3),(4,.frz),(18,.frz),(19,.obj 1),(20,.frz),(21,.frz),(22,.frz),(23,.frz),(24,.own 24)]) kr kr<|aR 4 155 6 aU h fun y24 h _=>ag false 1 24 [.agg [.s x11,.s x12,.i x13,.i x14,.i x15,.t (.sl 6 (x16.map aU))],.agg ((aU y24).map .t)] h (fun _=>P9) fun r25 h=>ab.all kr<|bY<|aN<|aV [] []<|aa<|⟨_,_,_,_,_,_,_,_,h,lo [(197120,1572864),(197121,1572865),(197125,1572869)]⟩) fun h=>Wp.exit<|aZ<|aZ<|de<|aN<|⟨_,_,_,_,_,_,h,lo []⟩
theorem wS {u p0 p1 r} (h:mC u p0 p1=some r):al Tryz.prog 150 [.one (.s p0),.one (.s p1)] (V.b r) []:=by
 unfold mC at h
 refine b8 Tryz.f150 false ?_
 refine ae<|aE<|ar 1 5 (aw .u8) p0<|ar 1 5 (aw .u8) p1<|ah 2 10 h (fun h=>?_) (fun h=>?_)
 ·refine ar 2 5 (aw .u8) p1 ?_
  obtain ⟨_,e_1,h⟩:=bind_some h
  exact eT (e:=5) (ax:=.s p0) (alo:=none) (ahi:=(some (.i ((p1.length:Int))))) (aw .u8) p0 1 0 ((p1.length:Int)) rfl kr kr kr kr kr kr kr kr kr kr kr (bj e_1)<|ag false 1 16 [.t (.sl 1 (((p0.take (Int.toNat ((p1.length:Int)))).drop (Int.toNat 0)).map (aw .u8))),.s p1] h (fun _=>wR) fun r2 h=>aa<|by cases h;exact Wp.ret aj
 exact aa<|by cases h;exact Wp.ret aj
theorem Jp {u p0 p1 p2 p3 r} (h:qY u p0 p1 p2 p3=some r):al Tryz.prog 98 [cO (aB p0),cO (ai p1),cO (cJ p2),V.i p3] (V.b r) []:=by
 unfold qY at h
 refine b8 Tryz.f98 false ?_
 refine ae<|Wp.seq<|aL (jS []) (bR [(4,.obj 4),(13,.frz),(14,.frz),(15,.frz),(16,.frz)]) kr kr<|ag false 2 15 [.agg ((aB p0).map .t)] h (fun _=>ye) fun r1 h=>ag false 0 16 [.agg ((aB p0).map .t),.i r1] h (fun _=>wQ) fun r2 h=>aa<|Wp.seq<|ae<|Wp.block<|ae<|ak h (fun h=>?_) (fun h=>?_)
 ·refine pn (fun p0 p2=>qC u p0 p2=some r) (fun p0 p2=>⟨[(4,.obj 4 0),(6,.obj 6 0),(8,.b false)],[(4,((aB p0).map .t)),(6,[.i p2.aT,.s p2.bg])],[]⟩) (fun p0 p2 h=>aK false 1 37 [.agg ((aB p0).map .t)] h (fun _=>TG) fun r8 h=>Wp.seq<|Wp.le (Le.trans (mW 11 0 2424832 5 1 [.own 2424832,.own 2424833,.i r8.fR.aP,.i r8.fR.cL,.i r8.fR.aY,.own 2424837] (r8.fA.map (aw .u8)) kr kr kr) (Le.trans (mW 11 1 2424833 5 1 [.s r8.fA,.own 2424833,.i r8.fR.aP,.i r8.fR.cL,.i r8.fR.aY,.own 2424837] (r8.fB.map (aw .u8)) kr kr kr) (mW 11 5 2424837 155 6 [.s r8.fA,.s r8.fB,.i r8.fR.aP,.i r8.fR.cL,.i r8.fR.aY,.own 2424837] (r8.fP.map aU) kr kr kr)))<|aL (jS []) (bR [(4,.obj 4),(6,.obj 6),(11,.obj 11),(38,.frz),(39,.frz),(40,.frz),(41,.frz),(42,.obj 6),(43,.frz),(44,.frz)]) kr kr<|ag false 2 40 [.agg ((aB p0).map .t)] h (fun _=>ye) fun r9 h=>ag false 0 41 [.agg ((aB r8).map .t),.i r9] h (fun _=>wQ) fun r10 h=>ag false 2 44 [.s r10,.s p2.bg] h (fun _=>wS) fun r11 h=>aa<|by cases h;exact Wp.ret aj)<|ae<|Wp.block<|dZ (fun i4 x4 p0 p2=>iF u i4 x4 p0 p2=some r) (fun x4 p0 p2=>⟨[(4,.obj 4 0),(6,.obj 6 0),(8,.b false),(10,.i x4)],[(4,((aB p0).map .t)),(6,[.i p2.aT,.s p2.bg])],[]⟩) (fun i4 x4 p0 p2 h=>?_) h (lo []) (fun _ _ _  h=>nomatch h)
  rw [iF] at h
  exact Wp.seq<|aE<|ar 3 155 aU p0.fP<|aa<|ak h (fun h=>aC<|Wp.seq<|Wp.block<|Wp.seq<|aL (jS []) (bR [(4,.obj 4),(10,.frz),(27,.obj 4),(28,.frz),(29,.frz),(30,.frz),(31,.frz),(32,.frz),(33,.frz),(34,.frz)]) kr kr<|aR 3 155 6 aU h fun y6 h _=>ag false 3 34 [.agg ((aB p0).map .t)] h (fun _=>ye) fun r7 h=>aa<|ak h (fun h=>ae<|by cases h;exact Wp.ret aj) fun h=>Wp.skip<|bY<|aN<|aV [] []<|aa<|⟨_,_,_,h,lo []⟩) fun h=>Wp.exit<|aZ<|aZ<|de<|aN<|⟨_,_,h,lo []⟩
 exact ae<|ak h (fun h=>aE<|ar 2 155 aU p0.fP<|ah 2 51 h (fun h=>ag false 3 55 [.s r2,.s p2.bg] h (fun _=>wS) fun r8 h=>aa<|by cases h;exact Wp.ret aj) fun h=>aa<|by cases h;exact Wp.ret aj) fun h=>ae<|ak h (fun h=>Wp.seq<|aL (jS []) (bR [(4,.obj 4),(5,.obj 5),(12,.obj 12),(59,.obj 5),(60,.frz),(61,.frz),(62,.frz),(63,.obj 5),(64,.frz),(65,.frz)]) kr kr<|ag false 3 62 [.agg ((aB p0).map .t)] h (fun _=>ye) fun r9 h=>aa<|Wp.seq<|aL (jS []) (bR [(4,.obj 4),(6,.obj 6),(9,.frz),(12,.obj 12),(66,.obj 4),(67,.frz),(68,.frz),(69,.frz),(70,.frz),(71,.obj 4),(72,.frz),(73,.frz),(74,.frz),(75,.frz),(77,.frz),(78,.frz),(79,.obj 4),(80,.frz),(81,.frz),(82,.frz),(83,.frz),(84,.frz),(86,.frz),(87,.frz),(88,.frz),(89,.obj 6),(90,.frz),(92,.frz)]) kr kr<|ar 2 155 aU p0.fP<|ah 2 70 h (fun h=>aR 2 155 6 aU h fun y10 h _=>ah 5 78 h (fun h=>aR 2 155 6 aU h fun y11 h _=>ah 6 87 h (fun h=>ag false 3 91 [.s r2,.s p2.bg] h (fun _=>wS) fun r12 h=>aa<|by cases h;exact Wp.ret aj) fun h=>aa<|by cases h;exact Wp.ret aj) fun h=>aa<|by cases h;exact Wp.ret aj) fun h=>aa<|by cases h;exact Wp.ret aj) fun h=>Wp.skip<|bY<|aN<|ae<|by cases h;exact Wp.ret aj
theorem Et {u p0 p1 r} (h:iG u p0 p1=some r):al Tryz.prog 54 [cO (bw p0),V.i p1] (V.b r) []:=by
 unfold iG at h
 refine b8 Tryz.f54 false ?_
 exact ae<|aE<|aR 3 111 12 ay h fun y1 h _=>aa<|aE<|aR 3 116 6 aB h fun y2 h _=>aa<|Wp.seq<|ae<|ak h (fun h=>Wp.seq<|aL (jS []) (bR [(2,.obj 2),(5,.obj 5),(6,.obj 6),(19,.obj 5),(20,.frz),(21,.frz),(22,.frz),(23,.obj 2),(24,.frz),(25,.frz),(26,.frz),(27,.frz),(29,.frz),(30,.frz),(31,.obj 6),(32,.frz),(33,.frz),(35,.frz)]) kr kr<|ah 3 21 h (fun h=>aR 3 121 1 bd h fun y3 h _=>ag false 2 28 [.agg ((aB y2).map .t),.i 0,.s y3.fB] h (fun _=>qu) fun r4 h=>ah 2 30 h (fun h=>ar 2 155 aU y2.fP<|aa<|by cases h;exact Wp.ret aj) fun h=>aa<|by cases h;exact Wp.ret aj) fun h=>aa<|by cases h;exact Wp.ret aj) fun h=>aC<|Wp.seq<|Wp.seq<|aL (jS []) (bR [(1,.frz),(2,.obj 2),(6,.obj 6),(36,.frz),(37,.obj 2),(38,.frz),(39,.frz),(40,.frz),(41,.frz),(42,.frz),(43,.obj 2),(44,.frz),(45,.frz)]) kr kr<|aR 4 121 1 bd h fun y5 h _=>ag false 4 45 [.agg ((aB y2).map .t),.s y5.fB,.i 1,.s p0.jj] h (fun _=>Ln) fun r6 h=>aa<|ak h (fun h=>ae<|by cases h;exact Wp.ret aj) fun h=>aC<|Wp.seq<|ae<|Wp.block<|ae<|ak h (fun h=>aE<|ar 2 155 aU y2.fP<|aa<|by cases h;exact Wp.ret aj) fun h=>ae<|ak h (fun h=>Wp.seq<|aL (jS []) (bR [(1,.frz),(2,.obj 2),(6,.obj 6),(57,.obj 6),(58,.frz),(59,.frz),(60,.frz),(61,.frz),(62,.frz),(63,.obj 2),(64,.frz),(65,.frz),(66,.frz),(67,.frz),(68,.frz),(70,.frz)]) kr kr<|ar 2 155 aU y2.fP<|ah 2 61 h (fun h=>aR 4 121 1 bd h fun y7 h _=>ag false 2 69 [.agg ((aB y2).map .t),.i 0,.s y7.fB] h (fun _=>qu) fun r8 h=>aa<|by cases h;exact Wp.ret aj) fun h=>aa<|by cases h;exact Wp.ret aj) fun h=>ae<|ak h (fun h=>aE<|ar 2 155 aU y2.fP<|ah 2 77 h (fun h=>ag false 3 81 [.agg ((aB y2).map .t),.i 1,.s p0.jj] h (fun _=>qu) fun r9 h=>aa<|by cases h;exact Wp.ret aj) fun h=>aa<|by cases h;exact Wp.ret aj) fun h=>Wp.skip<|bY<|aN<|Wp.seq<|aL (jS []) (bR [(1,.frz),(2,.obj 2),(5,.obj 5),(6,.obj 6),(83,.frz),(84,.obj 2),(85,.frz),(86,.frz),(87,.frz),(88,.frz),(89,.frz),(90,.frz),(91,.frz),(92,.frz),(93,.obj 5),(94,.frz),(95,.obj 5),(96,.frz),(97,.obj 5),(98,.frz),(100,.frz)]) kr kr<|aR 4 121 1 bd h fun y10 h _=>ag false 2 90 [.agg ((aB y2).map .t),.i 0,.s y10.fB] h (fun _=>qu) fun r11 h=>ah 1 91 h (fun h=>ag false 7 99 [.agg ((aB y2).map .t),.agg ((ai y1.av).map .t),.agg [.i y1.a7.aT,.s y1.a7.bg],.i y1.aJ] h (fun _=>Jp) fun r12 h=>aa<|pm ⟨[(4,.b r12)],[],[]⟩<|by cases h;exact Wp.ret aj) fun h=>aa<|by cases h;exact Wp.ret aj
theorem No {u p0 r} (h:vG u p0=some r):al Tryz.prog 19 [cO (bw p0)] (V.b r) []:=by
 unfold vG at h
 refine b8 Tryz.f19 false ?_
 refine ae<|aE<|ar 3 3 (aw .i64) p0.fT.cx<|aa<|Wp.seq<|pn (fun p0 x5=>d5 u p0 x5=some r) (fun p0 x5=>⟨[(1,.obj 1 0),(2,.b false),(3,.i ((p0.fT.cx.length:Int))),(68,.b x5)],[(1,((bw p0).map .t))],[]⟩) (fun p0 x5 h=>?_) ?_
 ·refine ak h (fun h=>ae<|by cases h;exact Wp.ret aj) fun h=>aC<|aK false 1 70 [.agg ((bw p0).map .t)] h (fun _=>R0) fun r6 h=>jL (fun p0=>pJ u p0=some r) (fun p0=>⟨[(1,.obj 1 0),(2,.b false),(3,.i ((p0.fT.cx.length:Int)))],[(1,((bw p0).map .t))],[]⟩) (fun p0 h=>?_) ?_
  ·refine io (zp u=some r) ⟨[(2,.b false)],[],[]⟩ (fun h=>ae<|by cases h;exact Wp.ret aj)<|ae<|Wp.block<|yW (fun gz p0 x21=>ja u gz p0 x21=some r) (fun p0 x21=>⟨[(1,.obj 1 0),(2,.b false),(3,.i ((p0.fT.cx.length:Int))),(6,.i x21)],[(1,((bw p0).map .t))],[]⟩) (fun gz p0 x21 h=>?_) h (lo []) (fun _ _  h=>nomatch h)
   rw [ja] at h
   exact Wp.seq<|aE<|ar 3 118 aI p0.dX<|aa<|ak h (fun h=>aC<|Wp.seq<|Wp.block<|kh (fun p0 x21 x27=>nc u (fun z0 z1=>ja u gz z0 z1) p0 x21 x27=some r) (fun p0 x21 x27=>⟨[(1,.obj 1 0),(2,.b false),(3,.i ((p0.fT.cx.length:Int))),(6,.i x21),(149,.b x27)],[(1,((bw p0).map .t))],[]⟩) (fun p0 x21 x27 h=>ak h (fun h=>ae<|by cases h;exact Wp.ret aj) fun h=>Wp.skip<|bY<|aN<|aV [] []<|aa<|⟨_,_,h,lo []⟩)<|aV [] []<|aR 3 118 3 aI h fun y23 h _=>ag false 4 136 [.i y23.du,.i 0,.i (cy .i64 ((p0.fT.cx.length:Int)) 1)] h (fun _=>bi) fun r24 h=>ah 2 138 h (fun h=>aa<|⟨_,_,_,h,lo []⟩) fun h=>aR 3 118 3 aI h fun y25 h _=>ag false 4 147 [.i y25.G2,.i 0,.i (cy .i64 ((p0.fT.cx.length:Int)) 1)] h (fun _=>bi) fun r26 h=>aa<|⟨_,_,_,h,lo []⟩) fun h=>Wp.exit<|aZ<|aZ<|de<|aN<|⟨h,lo []⟩
  refine ae<|Wp.block<|dZ (fun dR p0 x8 r6=>d4 u dR p0 x8 r6=some r) (fun p0 x8 r6=>⟨[(1,.obj 1 0),(2,.b false),(3,.i ((p0.fT.cx.length:Int))),(4,.obj 4 0),(5,.i x8)],[(1,((bw p0).map .t)),(4,((ai r6).map .t))],[]⟩) (fun dR p0 x8 r6 h=>?_) h (Le.trans (mW 4 3 4587523 176 2 [.i r6.aP,.i r6.aS,.i r6.aY,.own 4587523] (r6.aD.map aH) kr kr kr) (lo [])) (fun _ _ _  h=>nomatch h)
  rw [d4] at h
  exact Wp.seq<|ae<|ak h (fun h=>aC<|Wp.seq<|Wp.block<|m2 (fun p0 x8 x19 r6=>d3 u (fun z0 z1 z2=>d4 u dR z0 z1 z2) p0 x8 x19 r6=some r) (fun p0 x8 x19 r6=>⟨[(1,.obj 1 0),(2,.b false),(3,.i ((p0.fT.cx.length:Int))),(4,.obj 4 0),(5,.i x8),(120,.b x19)],[(1,((bw p0).map .t)),(4,((ai r6).map .t))],[]⟩) (fun p0 x8 x19 r6 h=>ak h (fun h=>ae<|by cases h;exact Wp.ret aj) fun h=>Wp.skip<|bY<|aN<|aV [] []<|aa<|⟨_,_,_,h,lo []⟩)<|aL (jS []) (bR [(1,.obj 1),(4,.obj 4),(5,.frz),(76,.obj 1),(77,.frz),(78,.frz),(79,.obj 1),(80,.frz),(81,.frz),(82,.frz),(83,.frz),(84,.frz),(85,.frz),(86,.frz),(87,.obj 1),(88,.frz),(89,.frz),(90,.frz),(91,.frz),(92,.frz),(94,.frz),(95,.frz),(96,.obj 1),(97,.frz),(98,.frz),(99,.frz),(100,.frz),(101,.frz),(102,.frz),(103,.frz),(104,.obj 1),(105,.frz),(106,.frz),(107,.frz),(108,.frz),(109,.frz),(110,.frz),(111,.frz),(114,.frz),(115,.frz),(116,.frz),(117,.frz),(118,.frz)]) kr kr<|aR 6 111 12 ay h fun y10 h _=>ag false 1 84 [.agg [.t (.sl 1 (p0.fT.cx.map (aw .i64)))],.i x8,.agg ((ay y10).map .t)] h (fun _=>P8) fun r11 h=>ah 2 86 h (fun h=>aa<|⟨_,_,_,_,h,lo []⟩) fun h=>aR 3 116 6 aB h fun y12 h _=>ag false 1 92 [.agg ((aB y12).map .t)] h (fun _=>Bf) fun r13 h=>ah 3 95 h (fun h=>aa<|⟨_,_,_,_,h,lo []⟩) fun h=>aR 3 111 12 ay h fun y14 h _=>ah 4 103 h (fun h=>aR 3 111 12 ay h fun y15 h _=>ag false 3 111 [.agg ((ai y15.av).map .t),.agg ((ai r6).map .t)] h (fun _=>pU) fun r16 h=>ah 4 115 h (fun h=>aa<|⟨_,_,_,_,h,lo []⟩) fun h=>ag false 2 118 [.agg ((bw p0).map .t),.i x8] h (fun _=>Et) fun r17 h=>aa<|⟨_,_,_,_,h,lo []⟩) fun h=>ag false 14 118 [.agg ((bw p0).map .t),.i x8] h (fun _=>Et) fun r18 h=>aa<|⟨_,_,_,_,h,lo []⟩) fun h=>Wp.exit<|aZ<|aZ<|de<|aN<|⟨_,h,lo []⟩
 exact aV [] []<|ag false 2 13 [.agg ((pG p0.fC).map .t)] h (fun _=>P5) fun r1 h=>ah 2 15 h (fun h=>aa<|⟨_,_,h,lo []⟩) fun h=>ag false 2 18 [.agg [.t (.sl 1 (p0.fT.cx.map (aw .i64)))]] h (fun _=>Fa) fun r2 h=>ah 3 21 h (fun h=>aa<|⟨_,_,h,lo []⟩) fun h=>ar 5 5 (aw .u8) p0.jj<|ag false 0 28 [.i p0.fC.aS,.i ((p0.jj.length:Int))] h (fun _=>wM) fun r3 h=>ah 3 31 h (fun h=>aa<|⟨_,_,h,lo []⟩) fun h=>ag false 3 35 [.t (.sl 1 (p0.f6.map bd)),.i ((p0.fT.cx.length:Int))] h (fun _=>Nj) fun r4 h=>ah 3 38 h (fun h=>aa<|⟨_,_,h,lo []⟩) fun h=>ar 2 111 ay p0.fN<|ah 4 45 h (fun h=>aa<|⟨_,_,h,lo []⟩) fun h=>ar 2 116 aB p0.fD<|ah 4 52 h (fun h=>aa<|⟨_,_,h,lo []⟩) fun h=>ar 2 118 aI p0.dX<|ah 3 58 h (fun h=>aa<|⟨_,_,h,lo []⟩) fun h=>ar 2 127 cp p0.p5<|ah 3 64 h (fun h=>aa<|⟨_,_,h,lo []⟩) fun h=>aa<|⟨_,_,h,lo []⟩
theorem Fe {u p0 r} (h:uS u p0=some r):al Tryz.prog 196 [cO (ai p0)] (V.w [0,0,0,176] (ai r)) []:=by
 unfold uS at h
 refine b8 Tryz.f196 true ?_
 exact ae<|ae<|aE<|cg 3 8 176 2 327680 aH h fun h=>aa<|ae<|by cases h;exact Wp.ret aj
theorem Ff {u p0 r} (h:uT u p0=some r):al Tryz.prog 197 [cO (cJ p0)] (V.w [0,5] (cJ r)) []:=by
 unfold uT at h
 refine b8 Tryz.f197 true ?_
 exact ae<|Wp.seq<|aL (jS []) (bR [(1,.obj 1),(2,.obj 2),(3,.obj 1),(4,.frz),(5,.own 5),(6,.obj 1),(7,.frz),(8,.own 8),(9,.own 8)]) kr kr<|cg 5 8 5 1 327680 (aw .u8) h fun h=>aa<|by cases h;exact Wp.ret aj
theorem gT {u p0 r} (h:fF u p0=some r):al Tryz.prog 151 [cO (ay p0)] (V.w [0,0,0,0,0,0,176,0,5,0,149,0] (ay r)) []:=by
 unfold fF at h
 refine b8 Tryz.f151 true ?_
 exact ae<|ae<|aK false 2 7 [.agg ((ai p0.av).map .t)] h (fun _=>Fe) fun r1 h=>aK false 2 11 [.agg [.i p0.a7.aT,.s p0.a7.bg]] h (fun _=>Ff) fun r2 h=>aE<|cg 3 16 149 5 851968 am h fun h=>aa<|ae<|by cases h;exact Wp.ret aj
theorem iP {u p0 p1 r} (h:ga u p0 p1=some r):al Tryz.prog 198 [.one (.s p0),V.i p1] (.tup [V.i r.1,V.i r.2.1,V.b r.2.2]) []:=by
 unfold ga at h
 refine b8 Tryz.f198 false ?_
 refine ae<|ae<|io (vH u=some r) ⟨[(4,.i 0),(5,.i 0),(6,.b false)],[],[]⟩ (fun h=>ae<|by cases h;exact Wp.ret aj)<|ae<|Wp.block<|GI (fun fL p0 p1 x3 x4=>dE u fL p0 p1 x3 x4=some r) (fun p0 p1 x3 x4=>⟨[(0,.s p0),(1,.i p1),(4,.i 0),(5,.i 0),(6,.b false),(7,.i x3),(8,.i x4)],[],[]⟩) (fun fL p0 p1 x3 x4 h=>?_) h (lo []) (fun _ _ _ _  h=>nomatch h)
 rw [dE] at h
 refine Wp.seq<|ae<|ak h (fun h=>?_) (fun h=>?_)
 ·refine aC<|Wp.seq<|Wp.block<|Wp.seq<|wL (fun p0 p1 x3 x4 x7=>mD u (fun z0 z1 z2 z3=>dE u fL z0 z1 z2 z3) p0 p1 x3 x4 x7=some r) (fun p0 p1 x3 x4 x7=>⟨[(0,.s p0),(1,.i p1),(4,.i 0),(5,.i 0),(6,.b false),(7,.i x3),(8,.i x4),(23,.b x7)],[],[]⟩) (fun p0 p1 x3 x4 x7 h=>?_) ?_
  ·refine ak h (fun h=>ae<|by cases h;exact Wp.ret aj) fun h=>aC<|aE<|aR 4 5 1 (aw .u8) h fun y8 h _=>aa<|aE<|bc 5 kr ?_
   obtain ⟨_,e_9,h⟩:=bind_some h
   exact iN .shl (.int .i64 (fE .i64 (IntKind.wrap .i64 y8) 127)) (.int .i64 (gS .i64 7 x4)) (.int .i64 (i7 .i64 (fE .i64 (IntKind.wrap .i64 y8) 127) (gS .i64 7 x4))) rfl kr kr kr kr (B8 _ _ _ _ _ (bj e_9))<|aa<|ae<|ak h (fun h=>Wp.seq<|Jk (fun p0 p1 x3 y8 x4 x10=>qZ u (fun z0 z1 z2 z3=>dE u fL z0 z1 z2 z3) p0 p1 x3 y8 x4 x10=some r) (fun p0 p1 x3 y8 x4 x10=>⟨[(0,.s p0),(1,.i p1),(4,.i 0),(5,.i 0),(6,.b false),(7,.i (sZ .i64 x3 (i7 .i64 (fE .i64 (IntKind.wrap .i64 y8) 127) (gS .i64 7 x4)))),(8,.i x4),(49,.b x10)],[],[]⟩) (fun p0 p1 x3 y8 x4 x10 h=>ak h (fun h=>ae<|by cases h;exact Wp.ret aj) fun h=>aC<|ae<|by cases h;exact Wp.ret aj)<|aV [] []<|ah 3 42 h (fun h=>ah 4 46 h (fun h=>aa<|⟨_,_,_,_,_,_,h,lo []⟩) fun h=>aa<|⟨_,_,_,_,_,_,h,lo []⟩) fun h=>aa<|⟨_,_,_,_,_,_,h,lo []⟩) fun h=>Wp.skip<|bY<|aN<|aV [] []<|aa<|⟨_,_,_,_,h,lo []⟩
  exact aV [] []<|ah 3 16 h (fun h=>aa<|⟨_,_,_,_,_,h,lo []⟩) fun h=>ar 2 5 (aw .u8) p0<|aa<|⟨_,_,_,_,_,h,lo []⟩
 exact Wp.exit<|aZ<|aZ<|de<|aN<|⟨h,lo []⟩
theorem Lo {u p0 p1 r} (h:s8 u p0 p1=some r):al Tryz.prog 283 [.one (.s p0),V.i p1] (.tup [V.i r.1,V.i r.2.1,V.b r.2.2]) []:=by
 unfold s8 at h
 refine b8 Tryz.f283 false ?_
 refine ae<|ae<|io (rO u=some r) ⟨[(4,.i 0),(5,.i 0),(6,.b false)],[],[]⟩ (fun h=>ae<|by cases h;exact Wp.ret aj)<|ae<|Wp.block<|GI (fun jI p0 p1 x3 x4=>fG u jI p0 p1 x3 x4=some r) (fun p0 p1 x3 x4=>⟨[(0,.s p0),(1,.i p1),(4,.i 0),(5,.i 0),(6,.b false),(7,.i x3),(8,.i x4)],[],[]⟩) (fun jI p0 p1 x3 x4 h=>?_) h (lo []) (fun _ _ _ _  h=>nomatch h)
 rw [fG] at h
 refine Wp.seq<|ae<|ak h (fun h=>?_) (fun h=>?_)
 ·refine aC<|Wp.seq<|Wp.block<|Wp.seq<|aE<|ar 2 5 (aw .u8) p0<|aa<|ak h (fun h=>ae<|by cases h;exact Wp.ret aj) fun h=>aC<|aE<|aR 4 5 1 (aw .u8) h fun y7 h _=>aa<|aE<|bc 5 kr ?_
  obtain ⟨_,e_8,h⟩:=bind_some h
  exact iN .shl (.int .i64 (fE .i64 (IntKind.wrap .i64 y7) 127)) (.int .i64 (gS .i64 7 x4)) (.int .i64 (i7 .i64 (fE .i64 (IntKind.wrap .i64 y7) 127) (gS .i64 7 x4))) rfl kr kr kr kr (B8 _ _ _ _ _ (bj e_8))<|aa<|ae<|ak h (fun h=>aE<|ah 8 43 h (fun h=>aa<|by cases h;exact Wp.ret aj) fun h=>aa<|by cases h;exact Wp.ret aj) fun h=>Wp.skip<|bY<|aN<|aV [] []<|aa<|⟨_,_,_,_,h,lo []⟩
 exact Wp.exit<|aZ<|aZ<|de<|aN<|⟨h,lo []⟩
theorem Qa {u p0 p1 r} (h:yB u p0 p1=some r):al Tryz.prog 236 [.one (.s p0),V.i p1] (.tup [V.w [0,0,0,176] (ai r.1),V.i r.2.1,V.b r.2.2]) []:=by
 unfold yB at h
 refine b8 Tryz.f236 true ?_
 refine ae<|ae<|aK false 2 29 [.s p0,.i p1] h (fun _=>iP) fun r1 h=>aK false 2 36 [.s p0,.i r1.2.1] h (fun _=>iP) fun r2 h=>aK false 2 43 [.s p0,.i r2.2.1] h (fun _=>iP) fun r3 h=>Wp.seq<|wL (fun p0 r1 r2 r3 x4=>q5 u p0 r1 r2 r3 x4=some r) (fun p0 r1 r2 r3 x4=>⟨[(0,.s p0),(4,.obj 4 0),(5,.i 0),(6,.b false),(7,.obj 7 0),(8,.i r1.1),(11,.i r2.1),(14,.i r3.1),(15,.i r3.2.1),(56,.b x4)],[(4,[.i 0,.i 0,.i 0,.nil]),(7,[.i 0,.i 0,.i 0,.nil])],[]⟩) (fun p0 r1 r2 r3 x4 h=>?_) ?_
 ·refine ak h (fun h=>ae<|by cases h;exact Wp.ret aj) fun h=>aC<|ae<|wL (fun x19 r1 r2 r3 x20=>oA u x19 r1 r2 r3 x20=some r) (fun x19 r1 r2 r3 x20=>⟨[(4,.obj 4 0),(5,.i 0),(6,.b false),(7,.obj 7 0),(15,.i x19),(17,.obj 17 0)],[(4,[.i 0,.i 0,.i 0,.nil]),(7,[.i 0,.i 0,.i 0,.nil]),(17,[.i r1.1,.i r2.1,.i r3.1,.own 1114627])],[(1114627,.live 176 2 (x20.map aH))]⟩) (fun x19 r1 r2 r3 x20 h=>Wp.seq<|aE<|eY 1 100 [.agg [.i r1.1,.i r2.1,.i r3.1,.own 1114627]] h (fun _=>n5) fun r21 h=>aa<|ak h (fun h=>ae<|by cases h;exact Wp.ret aj) fun h=>aC<|ae<|by cases h;exact Wp.ret aj)<|ae<|Wp.block<|qae (fun ic p0 r1 r2 r3 x8 x9 x10=>dG u ic p0 r1 r2 r3 x8 x9 x10=some r) (fun p0 r1 r2 r3 x8 x9 x10=>⟨[(0,.s p0),(4,.obj 4 0),(5,.i 0),(6,.b false),(7,.obj 7 0),(8,.i r1.1),(11,.i r2.1),(14,.i r3.1),(15,.i x8),(17,.obj 17 0),(18,.i x9)],[(4,[.i 0,.i 0,.i 0,.nil]),(7,[.i 0,.i 0,.i 0,.nil]),(17,[.i r1.1,.i r2.1,.i r3.1,.own 1114627])],[(1114627,.live 176 2 (x10.map aH))]⟩) (fun ic p0 r1 r2 r3 x8 x9 x10 h=>?_) h (Le.trans (jw 17 3 1114627 176 2 [.i r1.1,.i r2.1,.i r3.1,.nil] kr kr kr) (lo [])) (fun _ _ _ _ _ _ _  h=>nomatch h)
  rw [dG] at h
  exact Wp.seq<|PM (fun p0 r1 r2 r3 x8 x9 x15 x10=>jY u (fun z0 z1 z2 z3 z4 z5 z6=>dG u ic z0 z1 z2 z3 z4 z5 z6) p0 r1 r2 r3 x8 x9 x15 x10=some r) (fun p0 r1 r2 r3 x8 x9 x15 x10=>⟨[(0,.s p0),(4,.obj 4 0),(5,.i 0),(6,.b false),(7,.obj 7 0),(8,.i r1.1),(11,.i r2.1),(14,.i r3.1),(15,.i x8),(17,.obj 17 0),(18,.i x9),(70,.b x15)],[(4,[.i 0,.i 0,.i 0,.nil]),(7,[.i 0,.i 0,.i 0,.nil]),(17,[.i r1.1,.i r2.1,.i r3.1,.own 1114627])],[(1114627,.live 176 2 (x10.map aH))]⟩) (fun p0 r1 r2 r3 x8 x9 x15 x10 h=>ak h (fun h=>aC<|Wp.seq<|Wp.block<|aK false 2 76 [.s p0,.i x8] h (fun _=>Lo) fun r16 h=>Wp.seq<|ae<|ak h (fun h=>ae<|by cases h;exact Wp.ret aj) fun h=>aC<|aK false 1 85 [.i r16.1] h (fun _=>Ep) fun r17 h=>aE<|eY 1 89 [.own 5570560] h (fun _=>qt) fun r18 h=>aa<|ae<|aE<|cg (ys:=[(bN.mk r18.fW r16.1)]) 4 96 176 2 1114627 aH h fun h=>aa<|aV [] []<|ab.all kr<|bY<|aN<|aV [] []<|aa<|⟨_,_,_,_,_,_,_,h,lo [(1114627,6291456)]⟩) fun h=>Wp.exit<|aZ<|aZ<|de<|aN<|⟨_,_,_,_,_,h,lo []⟩)<|aV [] []<|ag false 3 65 [.i r2.1,.i r3.1] h (fun _=>wN) fun r14 h=>ah 2 67 h (fun h=>aa<|⟨_,_,_,_,_,_,_,_,h,lo []⟩) fun h=>aa<|⟨_,_,_,_,_,_,_,_,h,lo []⟩
 exact aV [] []<|ah 3 49 h (fun h=>aa<|⟨_,_,_,_,_,h,lo []⟩) fun h=>ah 4 53 h (fun h=>aa<|⟨_,_,_,_,_,h,lo []⟩) fun h=>aa<|⟨_,_,_,_,_,h,lo []⟩
theorem Np {u p0 p1 p2 r} (h:vI u p0 p1 p2=some r):al Tryz.prog 237 [.one (.s p0),V.i p1,V.i p2] (.tup [.one (.ow 5 1 (r.1.map (aw .u8))),V.i r.2.1,V.b r.2.2]) []:=by
 unfold vI at h
 refine b8 Tryz.f237 true ?_
 refine ae<|aK false 2 15 [.s p0,.i p1] h (fun _=>iP) fun r1 h=>Wp.seq<|kh (fun p0 r1 x2=>pK u p0 r1 x2=some r) (fun p0 r1 x2=>⟨[(0,.s p0),(6,.nil),(7,.i 0),(8,.b false),(9,.i r1.1),(10,.i r1.2.1),(33,.b x2)],[],[]⟩) (fun p0 r1 x2 h=>?_) ?_
 ·refine ak h (fun h=>ae<|by cases h;exact Wp.ret aj) fun h=>aC<|aE<|bc 6 kr ?_
  obtain ⟨_,e_3,h⟩:=bind_some h
  exact eT (e:=5) (ax:=.s p0) (alo:=(some (.i r1.2.1))) (ahi:=(some (.i (aW .i64 r1.2.1 r1.1)))) (aw .u8) p0 1 r1.2.1 (aW .i64 r1.2.1 r1.1) rfl kr kr kr kr kr kr kr kr kr kr kr (bj e_3)<|cg 0 42 5 1 2293760 (aw .u8) h fun h=>aa<|by cases h;exact Wp.ret aj
 exact aV [] []<|ah 3 21 h (fun h=>aa<|⟨_,_,_,h,lo []⟩) fun h=>ah 5 26 h (fun h=>aa<|⟨_,_,_,h,lo []⟩) fun h=>ar 2 5 (aw .u8) p0<|aa<|⟨_,_,_,h,lo []⟩
theorem Nq {u p0 p1 p2 r} (h:fH u p0 p1 p2=some r):al Tryz.prog 199 [.one (.s p0),V.i p1,V.i p2] (.tup [V.w [0,0,0,0,0,176,0,0,0,5] (dA r.1),V.i r.2.1,V.b r.2.2]) []:=by
 unfold fH at h
 refine b8 Tryz.f199 true ?_
 refine ae<|ae<|Wp.seq<|ae<|ak h (fun h=>aK false 2 34 [.s p0,.i p1] h (fun _=>Qa) fun r1 h=>ae<|ae<|by cases h;exact Wp.ret aj) fun h=>aC<|aK false 2 46 [.s p0,.i p1] h (fun _=>iP) fun r2 h=>ae<|wL (fun x20 p2 r2 x21 x22=>tP u x20 p2 r2 x21 x22=some r) (fun x20 p2 r2 x21 x22=>⟨[(6,.obj 6 0),(7,.i 0),(8,.b false),(9,.obj 9 0),(14,.i x20)],[(6,[.i 0,.i 0,.i 0,.i 0,.i 0,.nil,.i 0,.i 0,.i 0,.nil]),(9,[.i p2,.i r2.1,.i 0,.i 0,.i 0,.nil,.i x21,.i x22,.i 0,.nil])],[]⟩) (fun x20 p2 r2 x21 x22 h=>ae<|by cases h;exact Wp.ret aj)<|Wp.block<|ae<|ak h (fun h=>ae<|by cases h;exact Wp.ret aj) fun h=>ae<|ak h (fun h=>?_) (fun h=>?_)
 ·refine ae<|m2 (fun x14 x15 p2 r2=>tQ u x14 x15 p2 r2=some r) (fun x14 x15 p2 r2=>⟨[(6,.obj 6 0),(7,.i 0),(8,.b false),(9,.obj 9 0),(14,.i x14),(16,.own 1048577)],[(6,[.i 0,.i 0,.i 0,.i 0,.i 0,.nil,.i 0,.i 0,.i 0,.nil]),(9,[.i p2,.i r2.1,.i 0,.i 0,.i 0,.nil,.i 0,.i 0,.i 0,.nil])],[(1048577,.live 3 1 (x15.map (aw .i64)))]⟩) (fun x14 x15 p2 r2 h=>Wp.seq<|aL (jS []) (bR [(9,.obj 9),(16,.own 16),(83,.own 16),(84,.el 16),(85,.frz),(86,.own 16),(87,.el 16),(88,.frz),(89,.frz),(90,.frz),(91,.obj 9)]) kr kr<|cI 1 3 1 1048577 3 (aw .i64) h fun y16 h e_y16=>iO 0 1 1 1048577 0 3 false (aw .i64) ((cq e_y16).2)<|cI 1 3 1 1048577 3 (aw .i64) h fun y17 h e_y17=>iO 0 1 1 1048577 0 3 false (aw .i64) ((cq e_y17).2)<|aa<|aL (jS []) (bR [(9,.obj 9),(16,.own 16),(92,.own 16),(93,.el 16),(94,.frz),(95,.own 16),(96,.el 16),(97,.frz),(98,.frz),(99,.frz),(100,.obj 9)]) kr kr<|cI 1 3 1 1048577 3 (aw .i64) h fun y18 h e_y18=>iO 0 1 1 1048577 0 3 false (aw .i64) ((cq e_y18).2)<|cI 1 3 1 1048577 3 (aw .i64) h fun y19 h e_y19=>iO 0 1 1 1048577 0 3 false (aw .i64) ((cq e_y19).2)<|ab.all kr<|bY<|aN<|⟨_,_,_,_,_,h,lo []⟩)<|ae<|Wp.block<|Zu (fun gA p0 x6 x7 x8 p2 r2=>cY u gA p0 x6 x7 x8 p2 r2=some r) (fun p0 x6 x7 x8 p2 r2=>⟨[(0,.s p0),(6,.obj 6 0),(7,.i 0),(8,.b false),(9,.obj 9 0),(14,.i x6),(16,.own 1048577),(17,.i x8)],[(6,[.i 0,.i 0,.i 0,.i 0,.i 0,.nil,.i 0,.i 0,.i 0,.nil]),(9,[.i p2,.i r2.1,.i 0,.i 0,.i 0,.nil,.i 0,.i 0,.i 0,.nil])],[(1048577,.live 3 1 (x7.map (aw .i64)))]⟩) (fun gA p0 x6 x7 x8 p2 r2 h=>?_) h (lo [(1048577,3866624)]) (fun _ _ _ _ _ _  h=>nomatch h)
  rw [cY] at h
  exact Wp.seq<|ae<|ak h (fun h=>aC<|Wp.seq<|Wp.block<|aK false 2 67 [.s p0,.i x6] h (fun _=>iP) fun r12 h=>Wp.seq<|PM (fun p0 x6 x7 x8 r12 x13 p2 r2=>ng u (fun z0 z1 z2 z3 z4 z5=>cY u gA z0 z1 z2 z3 z4 z5) p0 x6 x7 x8 r12 x13 p2 r2=some r) (fun p0 x6 x7 x8 r12 x13 p2 r2=>⟨[(0,.s p0),(6,.obj 6 0),(7,.i 0),(8,.b false),(9,.obj 9 0),(14,.i x6),(16,.own 1048577),(17,.i x8),(18,.i r12.1),(19,.i r12.2.1),(76,.b x13)],[(6,[.i 0,.i 0,.i 0,.i 0,.i 0,.nil,.i 0,.i 0,.i 0,.nil]),(9,[.i p2,.i r2.1,.i 0,.i 0,.i 0,.nil,.i 0,.i 0,.i 0,.nil])],[(1048577,.live 3 1 (x7.map (aw .i64)))]⟩) (fun p0 x6 x7 x8 r12 x13 p2 r2 h=>ak h (fun h=>ae<|by cases h;exact Wp.ret aj) fun h=>aC<|aE<|cg 3 81 3 1 1048577 (aw .i64) h fun h=>aa<|aV [] []<|ab.all kr<|bY<|aN<|aV [] []<|aa<|⟨_,_,_,_,_,_,h,lo [(1048577,5308416)]⟩)<|aV [] []<|ah 3 73 h (fun h=>aa<|⟨_,_,_,_,_,_,_,_,h,lo []⟩) fun h=>aa<|⟨_,_,_,_,_,_,_,_,h,lo []⟩) fun h=>Wp.exit<|aZ<|aZ<|de<|aN<|⟨_,_,_,_,h,lo []⟩
 exact ae<|ak h (fun h=>aK false 2 107 [.s p0,.i r2.2.1] h (fun _=>iP) fun r13 h=>aK false 2 114 [.s p0,.i r13.2.1,.i 6] h (fun _=>Np) fun r14 h=>ae<|ae<|aE<|ah 4 125 h (fun h=>aa<|by cases h;exact Wp.ret aj) fun h=>aa<|by cases h;exact Wp.ret aj) fun h=>Wp.skip<|bY<|aN<|⟨_,_,_,_,_,h,lo []⟩
theorem GL {u p0 r} (h:xz u p0=some r):al Tryz.prog 200 [cO (dA p0)] (V.b r) []:=by
 unfold xz at h
 refine b8 Tryz.f200 false ?_
 exact ae<|aK false 3 8 [.agg ((ai p0.av).map .t),.agg [.i 0,.i 0,.i 0,.nil]] h (fun _=>pU) fun r1 h=>kh (fun r1 x2 p0=>qf u r1 x2 p0=some r) (fun r1 x2 p0=>⟨[(1,.obj 1 0),(2,.b false),(3,.b r1),(4,.b x2)],[(1,((dA p0).map .t))],[]⟩) (fun r1 x2 p0 h=>Wp.seq<|ae<|Wp.block<|ae<|ak h (fun h=>aE<|ah 4 35 h (fun h=>ah 6 41 h (fun h=>ag false 2 44 [.agg ((ai p0.av).map .t)] h (fun _=>n5) fun r3 h=>ah 2 46 h (fun h=>aa<|by cases h;exact Wp.ret aj) fun h=>aa<|by cases h;exact Wp.ret aj) fun h=>aa<|by cases h;exact Wp.ret aj) fun h=>aa<|by cases h;exact Wp.ret aj) fun h=>ae<|ak h (fun h=>aE<|ag false 2 53 [.i p0.aP,.i 0,.i 1000000] h (fun _=>bi) fun r4 h=>ah 1 54 h (fun h=>ah 3 57 h (fun h=>ag false 2 60 [.i p0.bx] h (fun _=>cR) fun r5 h=>ah 2 62 h (fun h=>ag false 2 65 [.i p0.bL] h (fun _=>cR) fun r6 h=>ah 2 67 h (fun h=>ah 5 72 h (fun h=>ar 2 5 (aw .u8) p0.fB<|aa<|by cases h;exact Wp.ret aj) fun h=>aa<|by cases h;exact Wp.ret aj) fun h=>aa<|by cases h;exact Wp.ret aj) fun h=>aa<|by cases h;exact Wp.ret aj) fun h=>aa<|by cases h;exact Wp.ret aj) fun h=>aa<|by cases h;exact Wp.ret aj) fun h=>ae<|ak h (fun h=>aE<|ag false 2 82 [.i p0.aP,.i 1,.i 1000000] h (fun _=>bi) fun r7 h=>ah 1 83 h (fun h=>ah 3 86 h (fun h=>ah 5 91 h (fun h=>ah 5 96 h (fun h=>ag false 2 99 [.i p0.fI,.i 0,.i 39] h (fun _=>bi) fun r8 h=>ah 2 101 h (fun h=>ar 2 5 (aw .u8) p0.fB<|ag false 0 105 [.i ((p0.fB.length:Int)),.i 1,.i 6] h (fun _=>bi) fun r9 h=>aa<|by cases h;exact Wp.ret aj) fun h=>aa<|by cases h;exact Wp.ret aj) fun h=>aa<|by cases h;exact Wp.ret aj) fun h=>aa<|by cases h;exact Wp.ret aj) fun h=>aa<|by cases h;exact Wp.ret aj) fun h=>aa<|by cases h;exact Wp.ret aj) fun h=>Wp.skip<|bY<|aN<|aE<|ah 4 110 h (fun h=>ag false 2 113 [.i p0.aP,.i 0,.i 1000000] h (fun _=>bi) fun r10 h=>ah 2 115 h (fun h=>ah 3 118 h (fun h=>aa<|by cases h;exact Wp.ret aj) fun h=>aa<|by cases h;exact Wp.ret aj) fun h=>aa<|by cases h;exact Wp.ret aj) fun h=>aa<|by cases h;exact Wp.ret aj)<|aV [] []<|ah 4 12 h (fun h=>ah 5 17 h (fun h=>ah 5 22 h (fun h=>ar 2 5 (aw .u8) p0.fB<|aa<|⟨_,_,_,h,lo []⟩) fun h=>aa<|⟨_,_,_,h,lo []⟩) fun h=>aa<|⟨_,_,_,h,lo []⟩) fun h=>aa<|⟨_,_,_,h,lo []⟩
theorem Qb {u p0 r} (h:yC u p0=some r):al Tryz.prog 152 [.one (.s p0)] (.tup [V.w [0,0,0,0,0,176,0,0,0,5] (dA r.1),V.b r.2]) []:=by
 unfold yC at h
 refine b8 Tryz.f152 true ?_
 refine ae<|aK false 1 15 [.s p0,.i 0] h (fun _=>iP) fun r1 h=>Wp.seq<|kh (fun p0 r1 x2=>vK u p0 r1 x2=some r) (fun p0 r1 x2=>⟨[(0,.s p0),(2,.obj 2 0),(3,.b false),(4,.i r1.1),(5,.i r1.2.1),(25,.b x2)],[(2,[.i 0,.i 0,.i 0,.i 0,.i 0,.nil,.i 0,.i 0,.i 0,.nil])],[]⟩) (fun p0 r1 x2 h=>?_) ?_
 ·refine ak h (fun h=>ae<|by cases h;exact Wp.ret aj) fun h=>aC<|aK false 3 31 [.s p0,.i r1.2.1,.i r1.1] h (fun _=>Nq) fun r3 h=>Wp.seq<|kh (fun p0 r3 x5=>vJ u p0 r3 x5=some r) (fun p0 r3 x5=>⟨[(0,.s p0),(2,.obj 2 0),(3,.b false),(7,.obj 7 0),(8,.i r3.2.1),(41,.b x5)],[(2,[.i 0,.i 0,.i 0,.i 0,.i 0,.nil,.i 0,.i 0,.i 0,.nil]),(7,[.i r3.1.bA,.i r3.1.aP,.i r3.1.av.aP,.i r3.1.av.aS,.i r3.1.av.aY,.own 459269,.i r3.1.bx,.i r3.1.bL,.i r3.1.fI,.own 459273])],[(459269,.live 176 2 (r3.1.av.aD.map aH)),(459273,.live 5 1 (r3.1.fB.map (aw .u8)))]⟩) (fun p0 r3 x5 h=>?_) ?_
  ·refine ak h (fun h=>ae<|by cases h;exact Wp.ret aj) fun h=>aC<|aK false 2 46 [.s p0,.i r3.2.1] h (fun _=>iP) fun r6 h=>Wp.seq<|pn (fun x9 r3=>q6 u x9 r3=some r) (fun x9 r3=>⟨[(2,.obj 2 0),(3,.b false),(7,.obj 7 0),(65,.b x9)],[(2,[.i 0,.i 0,.i 0,.i 0,.i 0,.nil,.i 0,.i 0,.i 0,.nil]),(7,[.i r3.1.bA,.i r3.1.aP,.i r3.1.av.aP,.i r3.1.av.aS,.i r3.1.av.aY,.own 459269,.i r3.1.bx,.i r3.1.bL,.i r3.1.fI,.own 459273])],[(459269,.live 176 2 (r3.1.av.aD.map aH)),(459273,.live 5 1 (r3.1.fB.map (aw .u8)))]⟩) (fun x9 r3 h=>ak h (fun h=>ae<|by cases h;exact Wp.ret aj) fun h=>aC<|ae<|by cases h;exact Wp.ret aj)<|aV [] []<|ah 3 52 h (fun h=>aa<|⟨_,_,h,lo []⟩) fun h=>ar 2 5 (aw .u8) p0<|ah 3 58 h (fun h=>aa<|⟨_,_,h,lo []⟩) fun h=>bc 3 kr ?_
   obtain ⟨_,e_7,h⟩:=bind_some h
   exact eT (e:=5) (ax:=.s p0) (alo:=none) (ahi:=(some (.i r3.2.1))) (aw .u8) p0 1 0 r3.2.1 rfl kr kr kr kr kr kr kr kr kr kr kr (bj e_7)<|ag false 0 63 [.t (.sl 1 (((p0.take (Int.toNat r3.2.1)).drop (Int.toNat 0)).map (aw .u8)))] h (fun _=>wO) fun r8 h=>aa<|⟨_,_,h,lo []⟩
  exact aV [] []<|ah 3 37 h (fun h=>aa<|⟨_,_,_,h,lo [(459269,2031621),(459273,2031625)]⟩) fun h=>eY 1 39 [.agg [.i r3.1.bA,.i r3.1.aP,.i r3.1.av.aP,.i r3.1.av.aS,.i r3.1.av.aY,.own 2031621,.i r3.1.bx,.i r3.1.bL,.i r3.1.fI,.own 2031625]] h (fun _=>GL) fun r4 h=>aa<|⟨_,_,_,h,lo [(459269,2031621),(459273,2031625)]⟩
 exact aV [] []<|ah 3 21 h (fun h=>aa<|⟨_,_,_,h,lo []⟩) fun h=>ar 1 5 (aw .u8) p0<|aa<|⟨_,_,_,h,lo []⟩
theorem pV {u p0 r} (h:lz u p0=some r):al Tryz.prog 153 [cO (ay p0)] (V.w [0,0,0,0,0,0,176,0,5,0,149,0] (ay r)) []:=by
 unfold lz at h
 refine b8 Tryz.f153 true ?_
 exact ae<|aK false 1 5 [.agg ((ay p0).map .t)] h (fun _=>gT) fun r1 h=>ae<|ae<|by cases h;exact Wp.ret aj
theorem Cr {u p0 p1 r} (h:uv u p0 p1=some r):al Tryz.prog 238 [.one (.t (.sl 5 (p0.map am))),V.i p1] (V.i r) []:=by
 unfold uv at h
 refine b8 Tryz.f238 false ?_
 refine ae<|io (Cn u=some r) ⟨[(4,.i 0)],[],[]⟩ (fun h=>ae<|by cases h;exact Wp.ret aj)<|ae<|Wp.block<|dZ (fun nC p0 p1 x2=>qg u nC p0 p1 x2=some r) (fun p0 p1 x2=>⟨[(0,.t (.sl 5 (p0.map am))),(1,.i p1),(4,.i 0),(5,.i x2)],[],[]⟩) (fun nC p0 p1 x2 h=>?_) h (lo []) (fun _ _ _  h=>nomatch h)
 rw [qg] at h
 exact Wp.seq<|aE<|ar 2 149 am p0<|aa<|ak h (fun h=>aC<|Wp.seq<|Wp.block<|aE<|aR 2 149 5 am h fun y4 h _=>aa<|ak h (fun h=>ae<|by cases h;exact Wp.ret aj) fun h=>Wp.skip<|bY<|aN<|aV [] []<|aa<|⟨_,_,_,h,lo []⟩) fun h=>Wp.exit<|aZ<|aZ<|de<|aN<|⟨h,lo []⟩
theorem TH {u p0 p1 p2 p3 r} (h:CU u p0 p1 p2 p3=some r):al Tryz.prog 201 [.one (.t (.sl 5 (p0.map am))),V.i p1,V.i p2,V.i p3] (.one (.ow 149 5 (r.map am))) []:=by
 unfold CU at h
 refine b8 Tryz.f201 true ?_
 refine ae<|aE<|cg 2 15 149 5 851968 am h fun h=>aa<|Wp.seq<|wL (fun p0 p1 p2 p3 x5=>vM u p0 p1 p2 p3 x5=some r) (fun p0 p1 p2 p3 x5=>⟨[(0,.t (.sl 5 (p0.map am))),(1,.i p1),(2,.i p2),(3,.i p3),(8,.nil),(9,.own 589825),(28,.b x5)],[],[(589825,.live 149 5 (((([]:List Kid))++p0).map am))]⟩) (fun p0 p1 p2 p3 x5 h=>?_) ?_
 ·refine ak h (fun h=>ae<|by cases h;exact Wp.ret aj) fun h=>aC<|aK false 2 32 [.t (.sl 5 (p0.map am)),.i p1] h (fun _=>Cr) fun r6 h=>Wp.seq<|ae<|ak h (fun h=>?_) (fun h=>?_)
  ·refine ae<|wL (fun p1 p2 p3 p0 x12=>Ag u p1 p2 p3 p0 x12=some r) (fun p1 p2 p3 p0 x12=>⟨[(1,.i p1),(2,.i p2),(3,.i p3),(8,.nil),(9,.own 589825),(10,.i x12)],[],[(589825,.live 149 5 (((([]:List Kid))++p0).map am))]⟩) (fun p1 p2 p3 p0 x12 h=>?_) ?_
   ·refine ae<|Wp.seq<|Wp.le (Le.frz 9 589825 149 5 (((([]:List Kid))++p0).map am) kr kr kr)<|aL (jS []) (bR [(9,.frz),(10,.frz),(11,.obj 11),(54,.own 54),(55,.frz),(56,.frz),(57,.frz),(58,.own 58),(59,.frz),(60,.own 60),(61,.own 61),(62,.frz),(63,.frz),(64,.frz),(65,.own 65)]) kr kr<|bc 3 kr ?_
    obtain ⟨_,e_13,h⟩:=bind_some h
    refine eT (e:=149) (ax:=.t (.sl 5 (((([]:List Kid))++p0).map am))) (alo:=none) (ahi:=(some (.i x12))) am ((([]:List Kid))++p0) 5 0 x12 rfl kr kr kr kr kr kr kr kr kr kr kr (bj e_13)<|cg 0 58 149 5 3538944 am h fun h=>cg (ys:=[(Kid.mk p1 p2 p3 0 0)]) 2 61 149 5 3801088 am h fun h=>bc 2 kr ?_
    obtain ⟨_,e_16,h⟩:=bind_some h
    exact eT (e:=149) (ax:=.t (.sl 5 (((([]:List Kid))++p0).map am))) (alo:=(some (.i x12))) (ahi:=none) am ((([]:List Kid))++p0) 5 x12 ((((([]:List Kid))++p0).length:Int)) rfl kr kr kr kr kr kr kr kr kr kr kr (bj e_16)<|cg 0 65 149 5 3997696 am h fun h=>aa<|by cases h;exact Wp.ret aj
   refine Wp.block<|Jl (fun kn p1 p2 p3 p0 x8=>lA u kn p1 p2 p3 p0 x8=some r) (fun p1 p2 p3 p0 x8=>⟨[(1,.i p1),(2,.i p2),(3,.i p3),(8,.nil),(9,.own 589825),(10,.i x8)],[],[(589825,.live 149 5 (((([]:List Kid))++p0).map am))]⟩) (fun kn p1 p2 p3 p0 x8 h=>?_) h (lo []) (fun _ _ _ _ _  h=>nomatch h)
   rw [lA] at h
   exact Wp.seq<|Jk (fun p1 p2 p3 p0 x8 x11=>vL u (fun z0 z1 z2 z3 z4=>lA u kn z0 z1 z2 z3 z4) p1 p2 p3 p0 x8 x11=some r) (fun p1 p2 p3 p0 x8 x11=>⟨[(1,.i p1),(2,.i p2),(3,.i p3),(8,.nil),(9,.own 589825),(10,.i x8),(47,.b x11)],[],[(589825,.live 149 5 (((([]:List Kid))++p0).map am))]⟩) (fun p1 p2 p3 p0 x8 x11 h=>ak h (fun h=>aC<|Wp.block<|aV [] []<|ab.all kr<|bY<|aN<|⟨_,_,_,_,_,h,lo []⟩) fun h=>Wp.exit<|aZ<|aZ<|de<|aN<|⟨_,_,_,_,_,h,lo []⟩)<|aV [] []<|ar 2 149 am ((([]:List Kid))++p0)<|ah 2 39 h (fun h=>cI 2 149 5 589825 149 am h fun y10 h e_y10=>iO 1 5 1 589825 0 149 false am ((cq e_y10).2)<|aa<|⟨_,_,_,_,_,_,h,lo []⟩) fun h=>aa<|⟨_,_,_,_,_,_,h,lo []⟩
  exact aC<|aE<|cI 2 149 5 589825 149 am h fun y11 h e_y11=>iO 0 5 5 589825 0 149 true am ((cq e_y11).2)<|aa<|ae<|ae<|ae<|aE<|cI 3 149 5 589825 149 am h fun y12 h e_y12=>gm (e:=149) (sz:=5) (m:=5) am ((([]:List Kid))++p0) 589825 (Int.toNat r6) 0 ((Kid.mk y11.fd p2 (sZ .i64 y11.bL p3) 0 y11.c8)) (.agg [.i y11.fd,.i p2,.i (sZ .i64 y11.bL p3),.i 0,.i y11.c8]) [.int .i64 y11.fd,.int .i64 p2,.int .i64 (sZ .i64 y11.bL p3),.int .i64 0,.int .i64 y11.c8] rfl kr kr kr kr kr kr kr kr ((cq e_y12).2) kr kr<|aa<|ae<|by cases h;exact Wp.ret aj
 exact aV [] []<|ag false 1 17 [.i p1,.i 0,.i 6] h (fun _=>bi) fun r2 h=>ah 2 19 h (fun h=>aa<|⟨_,_,_,_,_,h,lo [(589825,983040)]⟩) fun h=>ag false 1 21 [.i p2] h (fun _=>cR) fun r3 h=>ah 3 24 h (fun h=>aa<|⟨_,_,_,_,_,h,lo [(589825,983040)]⟩) fun h=>ag false 1 26 [.i p3] h (fun _=>cR) fun r4 h=>aa<|⟨_,_,_,_,_,h,lo [(589825,983040)]⟩
theorem dK {u p0 p1 r} (h:dY u p0 p1=some r):al Tryz.prog 284 [.one (.s p0),V.i p1] (.one (.ow 5 1 (r.map (aw .u8)))) []:=by
 unfold dY at h
 refine b8 Tryz.f284 true ?_
 refine ae<|aE<|cg 2 8 5 1 393216 (aw .u8) h fun h=>aa<|Wp.seq<|aK false 1 10 [.i p1,.i 0,.i 1000000000000] h (fun _=>bi) fun r2 h=>ak h (fun h=>ae<|by cases h;exact Wp.ret aj) fun h=>aC<|pn (fun x9 x10=>vN u x9 x10=some r) (fun x9 x10=>⟨[(1,.i x9),(4,.nil),(5,.own 327681)],[],[(327681,.live 5 1 (x10.map (aw .u8)))]⟩) (fun x9 x10 h=>aE<|cg 4 28 5 1 327681 (aw .u8) h fun h=>aa<|by cases h;exact Wp.ret aj)<|Wp.block<|yW (fun ms x5 x6=>mE u ms x5 x6=some r) (fun x5 x6=>⟨[(1,.i x5),(4,.nil),(5,.own 327681)],[],[(327681,.live 5 1 (x6.map (aw .u8)))]⟩) (fun ms x5 x6 h=>?_) h (lo [(327681,524288)]) (fun _ _  h=>nomatch h)
 rw [mE] at h
 exact Wp.seq<|ae<|ak h (fun h=>aC<|Wp.block<|aE<|cg 6 21 5 1 327681 (aw .u8) h fun h=>aa<|aV [] []<|ab.all kr<|bY<|aN<|⟨_,_,h,lo [(327681,1376256)]⟩) fun h=>Wp.exit<|aZ<|aZ<|de<|aN<|⟨_,_,h,lo []⟩
theorem Lp {u p0 p1 r} (h:s9 u p0 p1=some r):al Tryz.prog 302 [.one (.ow 5 1 (p0.map (aw .u8))),V.i p1] (.one (.ow 5 1 (r.map (aw .u8)))) []:=by
 unfold s9 at h
 refine b8 Tryz.f302 true ?_
 refine ae<|pn (fun x7 x8=>rP u x7 x8=some r) (fun x7 x8=>⟨[(0,.own 1),(1,.i x8),(4,.nil)],[],[(1,.live 5 1 (x7.map (aw .u8)))]⟩) (fun x7 x8 h=>aE<|cg 4 20 5 1 1 (aw .u8) h fun h=>aa<|by cases h;exact Wp.ret aj)<|Wp.block<|yW (fun jJ x3 x4=>jr u jJ x3 x4=some r) (fun x3 x4=>⟨[(0,.own 1),(1,.i x4),(4,.nil)],[],[(1,.live 5 1 (x3.map (aw .u8)))]⟩) (fun jJ x3 x4 h=>?_) h (lo [(1,58982400)]) (fun _ _  h=>nomatch h)
 rw [jr] at h
 exact Wp.seq<|ae<|ak h (fun h=>aC<|Wp.block<|aE<|cg 6 13 5 1 1 (aw .u8) h fun h=>aa<|aV [] []<|ab.all kr<|bY<|aN<|⟨_,_,h,lo [(1,851968)]⟩) fun h=>Wp.exit<|aZ<|aZ<|de<|aN<|⟨_,_,h,lo []⟩
theorem Qc {u p0 p1 r} (h:yD u p0 p1=some r):al Tryz.prog 285 [.one (.s p0),cO (ai p1)] (.one (.ow 5 1 (r.map (aw .u8)))) []:=by
 unfold yD at h
 refine b8 Tryz.f285 true ?_
 refine ae<|aE<|cg 2 9 5 1 458752 (aw .u8) h fun h=>aa<|Wp.seq<|aK false 1 11 [.agg ((ai p1).map .t)] h (fun _=>n5) fun r2 h=>ak h (fun h=>ae<|by cases h;exact Wp.ret aj) fun h=>aC<|Wp.seq<|aL (jS []) (bR [(3,.obj 3),(5,.own 9),(14,.own 9),(15,.obj 3),(16,.frz),(17,.own 17),(18,.obj 3),(19,.frz),(20,.own 20),(21,.obj 3),(22,.frz),(23,.own 23)]) kr kr<|ag false 3 17 [.own 589824,.i p1.aP] h (fun _=>dK) fun r3 h=>ag false 2 20 [.own 1114112,.i p1.aS] h (fun _=>dK) fun r4 h=>ag false 2 23 [.own 1310720,.i p1.aY] h (fun _=>dK) fun r5 h=>aa<|jL (fun x14=>AV u x14=some r) (fun x14=>⟨[(4,.nil),(5,.own 327681)],[],[(327681,.live 5 1 (x14.map (aw .u8)))]⟩) (fun x14 h=>ae<|by cases h;exact Wp.ret aj)<|ae<|Wp.block<|dZ (fun mq x8 x9 p1=>oB u mq x8 x9 p1=some r) (fun x8 x9 p1=>⟨[(3,.obj 3 0),(4,.nil),(5,.own 327681),(6,.i x9)],[(3,((ai p1).map .t))],[(327681,.live 5 1 (x8.map (aw .u8)))]⟩) (fun mq x8 x9 p1 h=>?_) h (lo [(327681,1507328)]) (fun _ _ _  h=>nomatch h)
 rw [oB] at h
 exact Wp.seq<|aE<|ar 3 176 aH p1.aD<|aa<|ak h (fun h=>aC<|Wp.seq<|Wp.block<|aV [] []<|aR 4 176 2 aH h fun y12 h _=>ag true 2 38 [.own 327681,.i y12.fS] h (fun _=>Lp) fun r13 h=>ab.all kr<|bY<|aN<|aV [] []<|aa<|⟨_,_,_,h,lo [(327681,2490368)]⟩) fun h=>Wp.exit<|aZ<|aZ<|de<|aN<|⟨_,h,lo []⟩
theorem Eu {u p0 r} (h:vO u p0=some r):al Tryz.prog 286 [V.i p0] (.tup [V.i r.1,V.i r.2]) []:=by
 unfold vO at h
 refine b8 Tryz.f286 false ?_
 exact ae<|ae<|by cases h;exact Wp.ret aj
theorem Nr {u p0 p1 r} (h:Ah u p0 p1=some r):al Tryz.prog 287 [.one (.s p0),.one (.s p1)] (.one (.ow 5 1 (r.map (aw .u8)))) []:=by
 unfold Ah at h
 refine b8 Tryz.f287 true ?_
 exact ae<|aE<|ar 2 5 (aw .u8) p1<|ag false 0 8 [.s p0,.i ((p1.length:Int))] h (fun _=>dK) fun r1 h=>cg 1 10 5 1 524288 (aw .u8) h fun h=>aa<|by cases h;exact Wp.ret aj
theorem Qd {u p0 r} (h:yE u p0=some r):al Tryz.prog 239 [cO (dA p0)] (.one (.ow 5 1 (r.map (aw .u8)))) []:=by
 unfold yE at h
 refine b8 Tryz.f239 true ?_
 exact ae<|Wp.seq<|aK false 1 7 [.agg ((dA p0).map .t)] h (fun _=>GL) fun r1 h=>ak h (fun h=>ae<|by cases h;exact Wp.ret aj) fun h=>aC<|aK false 3 13 [.own 655360,.i p0.bA] h (fun _=>dK) fun r2 h=>jL (fun x15=>mF u x15=some r) (fun x15=>⟨[(2,.nil),(3,.own 196609)],[],[(196609,.live 5 1 (x15.map (aw .u8)))]⟩) (fun x15 h=>aE<|eY 2 67 [.own 196609] h (fun _=>wO) fun r16 h=>ag false 0 68 [.own 196609,.i r16] h (fun _=>dK) fun r17 h=>aa<|by cases h;exact Wp.ret aj)<|ae<|Wp.block<|ae<|ak h (fun h=>aV [] []<|ag false 3 25 [.own 851968,.agg ((ai p0.av).map .t)] h (fun _=>Qc) fun r3 h=>ab.all kr<|bY<|aN<|⟨_,h,lo [(196609,1638400)]⟩) fun h=>ae<|ak h (fun h=>aK false 2 31 [.i p0.bx] h (fun _=>Eu) fun r4 h=>aE<|ag false 3 37 [.own 851968,.i p0.aP] h (fun _=>dK) fun r5 h=>ag false 1 39 [.own 2424832,.i r4.1] h (fun _=>dK) fun r6 h=>ag false 1 41 [.own 2555904,.i r4.2] h (fun _=>dK) fun r7 h=>aa<|aK false 2 45 [.i p0.bL] h (fun _=>Eu) fun r8 h=>aV [] []<|ag false 2 50 [.own 2686976,.i r8.1] h (fun _=>dK) fun r9 h=>ag false 1 52 [.own 3276800,.i r8.2] h (fun _=>dK) fun r10 h=>ab.all kr<|bY<|aN<|⟨_,h,lo [(196609,3407872)]⟩) fun h=>ae<|ak h (fun h=>aL (jS []) (bR [(1,.obj 1),(3,.own 13),(55,.own 13),(56,.obj 1),(57,.frz),(58,.own 58),(59,.obj 1),(60,.frz),(61,.own 61),(62,.obj 1),(63,.frz),(64,.own 64)]) kr kr<|ag false 3 58 [.own 851968,.i p0.aP] h (fun _=>dK) fun r11 h=>ag false 2 61 [.own 3801088,.i p0.fI] h (fun _=>dK) fun r12 h=>ag false 2 64 [.own 3997696,.s p0.fB] h (fun _=>Nr) fun r13 h=>ab.all kr<|bY<|aN<|⟨_,h,lo [(196609,4194304)]⟩) fun h=>aV [] []<|ag false 3 19 [.own 851968,.i p0.aP] h (fun _=>dK) fun r14 h=>ab.all kr<|bY<|aN<|⟨_,h,lo [(196609,1245184)]⟩
theorem oU {u p0 p1 p2 r} (h:iy u p0 p1 p2=some r):al Tryz.prog 202 [V.i p0,V.i p1,cO (dA p2)] (V.w [0,0,5] (aI r)) []:=by
 unfold iy at h
 refine b8 Tryz.f202 true ?_
 exact ae<|aK false 3 10 [.agg ((dA p2).map .t)] h (fun _=>Qd) fun r1 h=>by cases h;exact Wp.ret aj
theorem Fg {u p0 r} (h:uU u p0=some r):al Tryz.prog 241 [cO (ay p0)] (V.i r) []:=by
 unfold uU at h
 refine b8 Tryz.f241 false ?_
 exact ae<|ae<|by cases h;exact Wp.ret aj
theorem Fh {u p0 p1 p2 r} (h:uV u p0 p1 p2=some r):al Tryz.prog 240 [.one (.t (.sl 5 (p0.map am))),V.i p1,V.i p2] (V.i r) []:=by
 unfold uV at h
 refine b8 Tryz.f240 false ?_
 exact ae<|aK false 2 10 [.t (.sl 5 (p0.map am)),.i p1] h (fun _=>Cr) fun r1 h=>Wp.seq<|m2 (fun p0 p2 r1 x7=>oC u p0 p2 r1 x7=some r) (fun p0 p2 r1 x7=>⟨[(0,.t (.sl 5 (p0.map am))),(2,.i p2),(6,.i 0),(7,.i r1),(35,.b x7)],[],[]⟩) (fun p0 p2 r1 x7 h=>ak h (fun h=>ae<|by cases h;exact Wp.ret aj) fun h=>aC<|Wp.seq<|aL (jS []) (bR [(0,.frz),(2,.frz),(7,.frz),(36,.frz),(37,.frz),(38,.frz),(39,.frz),(40,.frz),(41,.frz),(42,.frz),(43,.frz),(44,.frz),(45,.frz),(46,.frz),(47,.frz),(48,.frz)]) kr kr<|aR 2 149 5 am h fun y8 h _=>aR 6 149 5 am h fun y9 h _=>aa<|by cases h;exact Wp.ret aj)<|aV [] []<|ah 3 13 h (fun h=>aa<|⟨_,_,_,_,h,lo []⟩) fun h=>ag false 1 15 [.i p2] h (fun _=>cR) fun r2 h=>ah 3 18 h (fun h=>aa<|⟨_,_,_,_,h,lo []⟩) fun h=>aR 2 149 5 am h fun y3 h _=>ag false 2 24 [.i y3.bx] h (fun _=>cR) fun r4 h=>ah 3 27 h (fun h=>aa<|⟨_,_,_,_,h,lo []⟩) fun h=>aR 2 149 5 am h fun y5 h _=>ag false 2 33 [.i y5.c8] h (fun _=>cR) fun r6 h=>aa<|⟨_,_,_,_,h,lo []⟩
theorem Ns {u p0 r} (h:vP u p0=some r):al Tryz.prog 242 [V.i p0] (.one (.ow 3 1 (r.map (aw .i64)))) []:=by
 unfold vP at h
 refine b8 Tryz.f242 true ?_
 refine ae<|ae<|jL (fun x9=>tR u x9=some r) (fun x9=>⟨[(2,.nil),(3,.own 196609)],[],[(196609,.live 3 1 (x9.map (aw .i64)))]⟩) (fun x9 h=>ae<|by cases h;exact Wp.ret aj)<|ae<|Wp.block<|dZ (fun gy p0 x3 x4=>jb u gy p0 x3 x4=some r) (fun p0 x3 x4=>⟨[(0,.i p0),(2,.nil),(3,.own 196609),(4,.i x4)],[],[(196609,.live 3 1 (x3.map (aw .i64)))]⟩) (fun gy p0 x3 x4 h=>?_) h (lo [(196609,327680)]) (fun _ _ _  h=>nomatch h)
 rw [jb] at h
 exact Wp.seq<|ae<|ak h (fun h=>aC<|kh (fun p0 x8 x4=>kY u (fun z0 z1 z2=>jb u gy z0 z1 z2) p0 x8 x4=some r) (fun p0 x8 x4=>⟨[(0,.i p0),(2,.nil),(3,.own 196609),(4,.i x4)],[],[(196609,.live 3 1 (x8.map (aw .i64)))]⟩) (fun p0 x8 x4 h=>aV [] []<|aa<|⟨_,_,_,h,lo []⟩)<|Wp.block<|aK false 2 12 [.i p0,.i x4] h (fun _=>lI) fun r7 h=>ak h (fun h=>aV [] []<|cg 3 16 3 1 196609 (aw .i64) h fun h=>ab.all kr<|bY<|aN<|⟨_,_,_,h,lo [(196609,1048576)]⟩) fun h=>Wp.skip<|bY<|aN<|⟨_,_,_,h,lo []⟩) fun h=>Wp.exit<|aZ<|aZ<|de<|aN<|⟨_,h,lo []⟩
theorem Ev {u p0 p1 p2 r} (h:pt u p0 p1 p2=some r):al Tryz.prog 243 [cO (ai p0),cO (cJ p1),V.i p2] (.tup [.one (.ow 5 1 (r.1.map (aw .u8))),V.b r.2]) []:=by
 unfold pt at h
 refine b8 Tryz.f243 true ?_
 refine ae<|Wp.seq<|m2 (fun p2 x3 p0 p1=>tT u p2 x3 p0 p1=some r) (fun p2 x3 p0 p1=>⟨[(2,.i p2),(3,.obj 3 0),(4,.obj 4 0),(6,.nil),(7,.b false),(20,.b x3)],[(3,((ai p0).map .t)),(4,[.i p1.aT,.s p1.bg])],[]⟩) (fun p2 x3 p0 p1 h=>?_) ?_
 ·refine ak h (fun h=>ae<|by cases h;exact Wp.ret aj) fun h=>aC<|aK false 5 28 [.i p0.aS,.i p0.aY,.i p2] h (fun _=>mN) fun r4 h=>aE<|bc 7 kr ?_
  obtain ⟨_,e_5,h⟩:=bind_some h
  exact eT (e:=5) (ax:=.s p1.bg) (alo:=(some (.i r4.1))) (ahi:=(some (.i (aW .i64 r4.1 r4.2)))) (aw .u8) p1.bg 1 r4.1 (aW .i64 r4.1 r4.2) rfl kr kr kr kr kr kr kr kr kr kr kr (bj e_5)<|cg 0 39 5 1 2031616 (aw .u8) h fun h=>aa<|by cases h;exact Wp.ret aj
 exact aV [] []<|ag false 2 12 [.agg ((ai p0).map .t),.agg [.i p1.aT,.s p1.bg]] h (fun _=>ul) fun r1 h=>ah 2 14 h (fun h=>aa<|⟨_,_,_,_,h,lo []⟩) fun h=>ag false 3 18 [.i p1.aT,.i p2] h (fun _=>lI) fun r2 h=>aa<|⟨_,_,_,_,h,lo []⟩
theorem Ew {u p0 p1 p2 r} (h:pu u p0 p1 p2=some r):al Tryz.prog 244 [V.i p0,V.i p1,.one (.s p2)] (V.w [0,0,0,0,0,0,0,0,0,5] (dA r)) []:=by
 unfold pu at h
 refine b8 Tryz.f244 true ?_
 exact ae<|aE<|cg 4 11 5 1 589824 (aw .u8) h fun h=>aa<|by cases h;exact Wp.ret aj
theorem Dm {u p0 p1 p2 r} (h:qh u p0 p1 p2=some r):al Tryz.prog 245 [.one (.t (.sl 5 (p0.map am))),V.i p1,V.i p2] (.one (.ow 149 5 (r.map am))) []:=by
 unfold qh at h
 refine b8 Tryz.f245 true ?_
 exact ae<|aE<|cg 2 12 149 5 655360 am h fun h=>aa<|aK false 2 15 [.t (.sl 5 (p0.map am)),.i p1] h (fun _=>Cr) fun r2 h=>Wp.seq<|m2 (fun p2 p0 r2 x6=>oD u p2 p0 r2 x6=some r) (fun p2 p0 r2 x6=>⟨[(2,.i p2),(6,.nil),(7,.own 458753),(8,.i r2),(31,.b x6)],[],[(458753,.live 149 5 (((([]:List Kid))++p0).map am))]⟩) (fun p2 p0 r2 x6 h=>ak h (fun h=>ae<|by cases h;exact Wp.ret aj) fun h=>aC<|aE<|cI 2 149 5 458753 149 am h fun y7 h e_y7=>iO 0 5 5 458753 0 149 true am ((cq e_y7).2)<|aa<|ae<|aE<|cI 3 149 5 458753 149 am h fun y8 h e_y8=>gm (e:=149) (sz:=5) (m:=5) am ((([]:List Kid))++p0) 458753 (Int.toNat r2) 0 ((Kid.mk y7.fd y7.bx y7.bL y7.qP (sZ .i64 y7.c8 p2))) (.agg [.i y7.fd,.i y7.bx,.i y7.bL,.i y7.qP,.i (sZ .i64 y7.c8 p2)]) [.int .i64 y7.fd,.int .i64 y7.bx,.int .i64 y7.bL,.int .i64 y7.qP,.int .i64 (sZ .i64 y7.c8 p2)] rfl kr kr kr kr kr kr kr kr ((cq e_y8).2) kr kr<|aa<|ae<|by cases h;exact Wp.ret aj)<|aV [] []<|ah 3 18 h (fun h=>aa<|⟨_,_,_,_,h,lo [(458753,786432)]⟩) fun h=>ag false 1 20 [.i p2] h (fun _=>cR) fun r3 h=>ah 3 23 h (fun h=>aa<|⟨_,_,_,_,h,lo [(458753,786432)]⟩) fun h=>aR 2 149 5 am h fun y4 h _=>ag false 2 29 [.i y4.c8] h (fun _=>cR) fun r5 h=>aa<|⟨_,_,_,_,h,lo [(458753,786432)]⟩
theorem Jq {u p0 p1 p2 r} (h:q7 u p0 p1 p2=some r):al Tryz.prog 203 [cO (ay p0),V.i p1,V.i p2] (V.w [0,0,0,0,0,0,176,0,5,0,149,0,118] (tM r)) []:=by
 unfold q7 at h
 refine b8 Tryz.f203 true ?_
 refine ae<|aK false 1 14 [.agg ((ay p0).map .t)] h (fun _=>gT) fun r1 h=>Wp.seq<|aL (jS []) (bR [(2,.frz),(3,.obj 3),(17,.obj 3),(18,.frz),(19,.frz),(20,.frz),(21,.frz),(22,.frz)]) kr kr<|ag false 4 21 [.agg ((ay p0).map .t)] h (fun _=>Fg) fun r2 h=>ag false 0 22 [.t (.sl 5 (p0.aO.map am)),.i p2,.i r2] h (fun _=>Fh) fun r3 h=>aa<|aK false 1 24 [.i r3] h (fun _=>Ns) fun r4 h=>wL (fun p2 r3 p0 r1 x17=>qD u p2 r3 p0 r1 x17=some r) (fun p2 r3 p0 r1 x17=>⟨[(2,.i p2),(3,.obj 3 0),(6,.obj 6 0),(7,.obj 7 0),(8,.i r3)],[(3,((ay p0).map .t)),(6,[.b false,.i 0,.i 0,.i 0,.i 0,.i 0,.nil,.i 0,.nil,.i 0,.nil,.i 0,.nil]),(7,[.b r1.fM,.i r1.bf,.i r1.be,.i r1.av.aP,.i r1.av.aS,.i r1.av.aY,.own 459270,.i r1.a7.aT,.own 459272,.i r1.aJ,.own 459274,.i r1.a8,.own 459276])],[(459270,.live 176 2 (r1.av.aD.map aH)),(459272,.live 5 1 (r1.a7.bg.map (aw .u8))),(459274,.live 149 5 (r1.aO.map am)),(459276,.live 118 3 (x17.map aI))]⟩) (fun p2 r3 p0 r1 x17 h=>aK false 4 65 [.t (.sl 5 (p0.aO.map am)),.i p2,.i r3] h (fun _=>Dm) fun r18 h=>ae<|by cases h;exact Wp.ret aj)<|ae<|Wp.block<|PN (fun eP p1 p2 r3 r4 x7 p0 r1 x8=>gc u eP p1 p2 r3 r4 x7 p0 r1 x8=some r) (fun p1 p2 r3 r4 x7 p0 r1 x8=>⟨[(1,.i p1),(2,.i p2),(3,.obj 3 0),(6,.obj 6 0),(7,.obj 7 0),(8,.i r3),(9,.own 589825),(10,.i x7)],[(3,((ay p0).map .t)),(6,[.b false,.i 0,.i 0,.i 0,.i 0,.i 0,.nil,.i 0,.nil,.i 0,.nil,.i 0,.nil]),(7,[.b r1.fM,.i r1.bf,.i r1.be,.i r1.av.aP,.i r1.av.aS,.i r1.av.aY,.own 459270,.i r1.a7.aT,.own 459272,.i r1.aJ,.own 459274,.i r1.a8,.own 459276])],[(459270,.live 176 2 (r1.av.aD.map aH)),(459272,.live 5 1 (r1.a7.bg.map (aw .u8))),(459274,.live 149 5 (r1.aO.map am)),(459276,.live 118 3 (x8.map aI)),(589825,.live 3 1 (r4.map (aw .i64)))]⟩) (fun eP p1 p2 r3 r4 x7 p0 r1 x8 h=>?_) h (lo [(589825,1572864),(459270,917510),(459272,917512),(459274,917514),(459276,983040)]) (fun _ _ _ _ _ _ _ _  h=>nomatch h)
 rw [gc] at h
 exact Wp.seq<|aE<|ar 2 3 (aw .i64) r4<|aa<|ak h (fun h=>aC<|PM (fun p1 p2 r3 r4 x7 p0 r1 x16=>kv u (fun z0 z1 z2 z3 z4 z5 z6 z7=>gc u eP z0 z1 z2 z3 z4 z5 z6 z7) p1 p2 r3 r4 x7 p0 r1 x16=some r) (fun p1 p2 r3 r4 x7 p0 r1 x16=>⟨[(1,.i p1),(2,.i p2),(3,.obj 3 0),(6,.obj 6 0),(7,.obj 7 0),(8,.i r3),(9,.own 589825),(10,.i x7)],[(3,((ay p0).map .t)),(6,[.b false,.i 0,.i 0,.i 0,.i 0,.i 0,.nil,.i 0,.nil,.i 0,.nil,.i 0,.nil]),(7,[.b r1.fM,.i r1.bf,.i r1.be,.i r1.av.aP,.i r1.av.aS,.i r1.av.aY,.own 459270,.i r1.a7.aT,.own 459272,.i r1.aJ,.own 459274,.i r1.a8,.own 459276])],[(459270,.live 176 2 (r1.av.aD.map aH)),(459272,.live 5 1 (r1.a7.bg.map (aw .u8))),(459274,.live 149 5 (r1.aO.map am)),(459276,.live 118 3 (x16.map aI)),(589825,.live 3 1 (r4.map (aw .i64)))]⟩) (fun p1 p2 r3 r4 x7 p0 r1 x16 h=>aV [] []<|aa<|⟨_,_,_,_,_,_,_,_,h,lo []⟩)<|Wp.block<|Wp.seq<|aL (jS []) (bR [(3,.obj 3),(9,.own 9),(10,.frz),(32,.obj 3),(33,.frz),(34,.obj 3),(35,.frz),(36,.own 9),(37,.frz),(38,.el 9),(39,.frz),(41,.own 40),(42,.frz)]) kr kr<|cI 6 3 1 589825 3 (aw .i64) h fun y11 h e_y11=>iO 0 1 1 589825 0 3 false (aw .i64) ((cq e_y11).2)<|ag false 0 40 [.agg ((ai p0.av).map .t),.agg [.i p0.a7.aT,.s p0.a7.bg],.i y11] h (fun _=>Ev) fun r12 h=>aa<|ae<|ak h (fun h=>aL (jS []) (bR [(1,.frz),(2,.frz),(3,.obj 3),(7,.obj 7),(9,.own 9),(10,.frz),(11,.own 40),(44,.obj 7),(45,.own 7),(46,.frz),(47,.frz),(48,.obj 3),(49,.obj 3),(50,.frz),(51,.own 9),(52,.frz),(53,.el 9),(54,.frz),(55,.own 40),(56,.own 56),(57,.own 57),(58,.own 58),(59,.own 59),(60,.obj 7)]) kr kr<|cI 9 3 1 589825 3 (aw .i64) h fun y13 h e_y13=>iO 0 1 1 589825 0 3 false (aw .i64) ((cq e_y13).2)<|ag false 1 56 [.i p0.av.aP,.i y13,.own 2621440] h (fun _=>Ew) fun r14 h=>ag false 0 57 [.i p1,.i p2,.agg [.i r14.bA,.i r14.aP,.i r14.av.aP,.i r14.av.aS,.i r14.av.aY,.t (.sl 2 (r14.av.aD.map aH)),.i r14.bx,.i r14.bL,.i r14.fI,.own 3670025]] h (fun _=>oU) fun r15 h=>cg (ys:=[r15]) 1 59 118 3 459276 aI h fun h=>ab.all kr<|bY<|aN<|⟨_,_,_,_,_,_,_,_,h,lo [(459276,3866624)]⟩) fun h=>Wp.skip<|bY<|aN<|⟨_,_,_,_,_,_,_,_,h,lo []⟩) fun h=>Wp.exit<|aZ<|aZ<|de<|aN<|⟨_,_,_,_,_,h,lo []⟩
theorem Hx {u p0 p1 p2 p3 r} (h:pL u p0 p1 p2 p3=some r):al Tryz.prog 154 [cO (ay p0),V.i p1,V.i p2,cO (dA p3)] (V.w [0,0,0,0,0,0,176,0,5,0,149,0,118] (tM r)) []:=by
 unfold pL at h
 refine b8 Tryz.f154 true ?_
 exact ae<|aK false 1 12 [.agg ((ay p0).map .t)] h (fun _=>gT) fun r1 h=>Wp.seq<|ae<|ak h (fun h=>ae<|by cases h;exact Wp.ret aj) fun h=>aC<|aK false 7 26 [.t (.sl 5 (p0.aO.map am)),.i p2,.i p3.bx,.i p3.bL] h (fun _=>TH) fun r2 h=>kh (fun r1 r2 x10=>pv u r1 r2 x10=some r) (fun r1 r2 x10=>⟨[(8,.obj 8 0),(9,.obj 9 0)],[(8,[.b false,.i 0,.i 0,.i 0,.i 0,.i 0,.nil,.i 0,.nil,.i 0,.nil,.i 0,.nil]),(9,[.b r1.fM,.i r1.bf,.i r1.be,.i r1.av.aP,.i r1.av.aS,.i r1.av.aY,.own 590342,.i r1.a7.aT,.own 590344,.i r1.aJ,.own 590346,.i r1.a8,.own 590348])],[(590342,.live 176 2 (r1.av.aD.map aH)),(590344,.live 5 1 (r1.a7.bg.map (aw .u8))),(590346,.live 149 5 (r2.map am)),(590348,.live 118 3 (x10.map aI))]⟩) (fun r1 r2 x10 h=>ae<|by cases h;exact Wp.ret aj)<|Wp.block<|ae<|ak h (fun h=>aL (jS []) (bR [(1,.frz),(2,.frz),(9,.obj 9),(55,.obj 9),(56,.own 13),(57,.frz),(58,.frz),(59,.frz),(60,.own 60),(61,.own 61),(62,.own 62),(63,.obj 9)]) kr kr<|ag false 5 60 [.i p1,.i p2,.agg [.i 4,.i 0,.i 0,.i 0,.i 0,.nil,.i 0,.i 0,.i 0,.nil]] h (fun _=>oU) fun r3 h=>cg (ys:=[r3]) 1 62 118 3 851968 aI h fun h=>ab.all kr<|bY<|aN<|⟨_,_,_,h,lo [(590342,786438),(590344,786440),(590346,1703936),(590348,4063232)]⟩) fun h=>ae<|ak h (fun h=>aL (jS []) (bR [(1,.frz),(2,.frz),(4,.obj 4),(9,.obj 9),(71,.obj 9),(72,.own 13),(73,.frz),(74,.frz),(75,.obj 4),(76,.frz),(77,.frz),(78,.own 78),(79,.own 79),(80,.own 80),(81,.obj 9)]) kr kr<|ag false 7 78 [.i p1,.i p2,.agg [.i 1,.i 0,.i p0.av.aP,.i p0.av.aS,.i p0.av.aY,.t (.sl 2 (p0.av.aD.map aH)),.i 0,.i 0,.i 0,.nil]] h (fun _=>oU) fun r5 h=>cg (ys:=[r5]) 1 80 118 3 851968 aI h fun h=>ab.all kr<|bY<|aN<|⟨_,_,_,h,lo [(590342,786438),(590344,786440),(590346,1703936),(590348,5242880)]⟩) fun h=>aK false 4 33 [.agg [.b r1.fM,.i r1.bf,.i r1.be,.i r1.av.aP,.i r1.av.aS,.i r1.av.aY,.own 786438,.i r1.a7.aT,.own 786440,.i r1.aJ,.own 1703936,.i r1.a8],.i p1,.i p2] h (fun _=>Jq) fun r7 h=>pm ⟨[(1,.i p1),(2,.i p2),(4,.obj 4 0),(8,.obj 8 0),(9,.obj 9 0),(10,.obj 10 0)],[(4,((ay p0).map .t)),(8,[.b false,.i 0,.i 0,.i 0,.i 0,.i 0,.nil,.i 0,.nil,.i 0,.nil,.i 0,.nil]),(9,[.b r1.fM,.i r1.bf,.i r1.be,.i r1.av.aP,.i r1.av.aS,.i r1.av.aY,.own 786438,.i r1.a7.aT,.own 786440,.i r1.aJ,.own 1703936,.i r1.a8,.own 851968]),(10,[.b r7.fN.fM,.i r7.fN.bf,.i r7.fN.be,.i r7.fN.av.aP,.i r7.fN.av.aS,.i r7.fN.av.aY,.own 2162694,.i r7.fN.a7.aT,.own 2162696,.i r7.fN.aJ,.own 2162698,.i r7.fN.a8,.own 2162700])],[(786438,.frz 2 (r1.av.aD.map aH)),(786440,.frz 1 (r1.a7.bg.map (aw .u8))),(851968,.live 118 3 ((([]:List au)).map aI)),(1703936,.frz 5 (r2.map am)),(2162694,.live 176 2 (r7.fN.av.aD.map aH)),(2162696,.live 5 1 (r7.fN.a7.bg.map (aw .u8))),(2162698,.live 149 5 (r7.fN.aO.map am)),(2162700,.live 118 3 (r7.sW.map aI))]⟩<|m2 (fun r1 r2 r7 x9=>pw u r1 r2 r7 x9=some r) (fun r1 r2 r7 x9=>⟨[(8,.obj 8 0),(9,.obj 9 0),(10,.obj 10 0)],[(8,[.b false,.i 0,.i 0,.i 0,.i 0,.i 0,.nil,.i 0,.nil,.i 0,.nil,.i 0,.nil]),(9,[.b r1.fM,.i r1.bf,.i r1.be,.i r1.av.aP,.i r1.av.aS,.i r1.av.aY,.t (.sl 2 (r1.av.aD.map aH)),.i r1.a7.aT,.s r1.a7.bg,.i r1.aJ,.t (.sl 5 (r2.map am)),.i r1.a8,.own 590348]),(10,[.b r7.fN.fM,.i r7.fN.bf,.i r7.fN.be,.i r7.fN.av.aP,.i r7.fN.av.aS,.i r7.fN.av.aY,.own 655878,.i r7.fN.a7.aT,.own 655880,.i r7.fN.aJ,.own 655882,.i r7.fN.a8,.own 655884])],[(590348,.live 118 3 ((([]:List au)).map aI)),(655878,.live 176 2 (r7.fN.av.aD.map aH)),(655880,.live 5 1 (r7.fN.a7.bg.map (aw .u8))),(655882,.live 149 5 (r7.fN.aO.map am)),(655884,.live 118 3 (x9.map aI))]⟩) (fun r1 r2 r7 x9 h=>ae<|by cases h;exact Wp.ret aj)<|aE<|ar 2 118 aI r7.sW<|aa<|ak h (fun h=>aL (jS []) (bR [(1,.frz),(2,.frz),(4,.obj 4),(10,.obj 10),(38,.obj 10),(39,.own 33),(40,.frz),(41,.frz),(42,.obj 4),(43,.obj 4),(44,.frz),(45,.frz),(46,.own 46),(47,.own 47),(48,.own 48),(49,.obj 10)]) kr kr<|ag false 8 46 [.i p1,.i p2,.agg [.i 4,.i p0.av.aP,.i 0,.i 0,.i 0,.nil,.i 0,.i 0,.i 0,.nil]] h (fun _=>oU) fun r8 h=>cg (ys:=[r8]) 1 48 118 3 2162700 aI h fun h=>aa<|⟨_,_,_,_,h,Le.trans (B9 9 6 786438 2 [.b r1.fM,.i r1.bf,.i r1.be,.i r1.av.aP,.i r1.av.aS,.i r1.av.aY,.own 786438,.i r1.a7.aT,.own 786440,.i r1.aJ,.own 1703936,.i r1.a8,.own 851968] (r1.av.aD.map aH) kr kr kr) (Le.trans (B9 9 8 786440 1 [.b r1.fM,.i r1.bf,.i r1.be,.i r1.av.aP,.i r1.av.aS,.i r1.av.aY,.t (.sl 2 (r1.av.aD.map aH)),.i r1.a7.aT,.own 786440,.i r1.aJ,.own 1703936,.i r1.a8,.own 851968] (r1.a7.bg.map (aw .u8)) kr kr kr) (Le.trans (B9 9 10 1703936 5 [.b r1.fM,.i r1.bf,.i r1.be,.i r1.av.aP,.i r1.av.aS,.i r1.av.aY,.t (.sl 2 (r1.av.aD.map aH)),.i r1.a7.aT,.s r1.a7.bg,.i r1.aJ,.own 1703936,.i r1.a8,.own 851968] (r2.map am) kr kr kr) (lo [(590348,851968),(655878,2162694),(655880,2162696),(655882,2162698),(655884,3145728)])))⟩) fun h=>aC<|⟨_,_,_,_,h,Le.trans (B9 9 6 786438 2 [.b r1.fM,.i r1.bf,.i r1.be,.i r1.av.aP,.i r1.av.aS,.i r1.av.aY,.own 786438,.i r1.a7.aT,.own 786440,.i r1.aJ,.own 1703936,.i r1.a8,.own 851968] (r1.av.aD.map aH) kr kr kr) (Le.trans (B9 9 8 786440 1 [.b r1.fM,.i r1.bf,.i r1.be,.i r1.av.aP,.i r1.av.aS,.i r1.av.aY,.t (.sl 2 (r1.av.aD.map aH)),.i r1.a7.aT,.own 786440,.i r1.aJ,.own 1703936,.i r1.a8,.own 851968] (r1.a7.bg.map (aw .u8)) kr kr kr) (Le.trans (B9 9 10 1703936 5 [.b r1.fM,.i r1.bf,.i r1.be,.i r1.av.aP,.i r1.av.aS,.i r1.av.aY,.t (.sl 2 (r1.av.aD.map aH)),.i r1.a7.aT,.s r1.a7.bg,.i r1.aJ,.own 1703936,.i r1.a8,.own 851968] (r2.map am) kr kr kr) (lo [(590348,851968),(655878,2162694),(655880,2162696),(655882,2162698),(655884,2162700)])))⟩
theorem Lq {u p0 r} (h:ta u p0=some r):al Tryz.prog 288 [cO (ai p0)] (V.w [0,5] (cJ r)) []:=by
 unfold ta at h
 refine b8 Tryz.f288 true ?_
 refine ae<|Wp.seq<|aK false 1 4 [.agg ((ai p0).map .t)] h (fun _=>n5) fun r1 h=>ak h (fun h=>ae<|by cases h;exact Wp.ret aj) fun h=>aC<|aE<|bc 2 kr ?_
 obtain ⟨_,e_2,h⟩:=bind_some h
 obtain ⟨_,e_3,h⟩:=bind_some h
 exact nQ (aw .u8) (0:Int) 9 5 1 1 p0.aY p0.aY rfl rfl kr kr kr kr kr kr (bj e_2) (of_decide_eq_true (bj e_3)) kr<|aa<|by cases h;exact Wp.ret aj
theorem Jr {u p0 r} (h:As u p0=some r):al Tryz.prog 310 [V.i p0] (V.b r) []:=by
 unfold As at h
 refine b8 Tryz.f310 false ?_
 exact ae<|aK false 1 4 [.i p0,.i 0,.i 63000] h (fun _=>bi) fun r1 h=>by cases h;exact Wp.ret aj
theorem Hy {u p0 r} (h:pM u p0=some r):al Tryz.prog 311 [V.i p0] (.tup [V.i r.1,V.i r.2]) []:=by
 unfold pM at h
 refine b8 Tryz.f311 false ?_
 exact ae<|Wp.seq<|aK false 1 5 [.i p0] h (fun _=>Jr) fun r1 h=>ak h (fun h=>ae<|by cases h;exact Wp.ret aj) fun h=>aC<|ae<|by cases h;exact Wp.ret aj
end Go.Tm
