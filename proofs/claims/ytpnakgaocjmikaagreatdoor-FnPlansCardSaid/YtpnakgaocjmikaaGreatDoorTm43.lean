/- Rules for calls of functions that only read, that write foreign cells, that write a row in place; what is left behind a call that wrote all that was only read. -/
import Derived.Test.YtpnakgaocjmikaaGreatDoorTm42
import Derived.Test.YtpnakgaocjmikaaGreatDoorTm41
import Derived.Test.YtpnakgaocjmikaaGreatDoorTm40
set_option linter.unusedVariables false
set_option linter.unusedSimpArgs false
namespace Go.Tm
open Go.RowKit

section
variable {P : Program} {n : Nat} {ls : List Nat} {Q : Exit → St → Prop} {st st' : St} {p : Nat → Bool} {ρ : Nat → Root} {ops : Array Oper} {l : List Oper} {K : St → Prop} {o : Oper}

theorem Runs.callDK (d f : Nat) (caps as : List A) (vs : List V) (res : V) {xf : Operand} {args : Array Operand} {ts : Array TypeId}
    (ho : o.op = .call { callee := .value xf, args, argTypes := ts }) (hd : o.dst = some d) (hg : wantG ops st o = some true) (hf : opFits ρ st o = true) (hxf : st.eval xf = some (.clo f caps)) (has : allSome (args.toList.map st.eval) = some as)
    (hp : ((A.peekVs (as ++ caps) MA.ret).run st).map Prod.fst = some vs) (hc : DOK P f vs res) (hr : ((V.toA d (tokR d 0) res MA.ret).run st).isSome = true)
    (hk : Runs P p ρ ops l ((orV ((V.toA d (tokR d 0) res MA.ret).run st)).put o.dst (orA ((V.toA d (tokR d 0) res MA.ret).run st))) K) : Runs P p ρ ops (o :: l) st K := by
  obtain ⟨⟨vs', st1⟩, h1, h2⟩ := Option.map_eq_some_iff.1 hp
  cases h2
  have hst : st1 = st := by
    have := (In_run (A.peekVs (as ++ caps) MA.ret) (peekVs_in (D := ⟨fun _ => True, fun _ => False, fun _ => True, fun _ => False⟩) (A.inRs_all (fun _ => trivial) _) (fun _ => trivial)) h1).1
    exact St.ext this.tm (funext fun s => this.ob s (fun h => h)) (funext fun s => this.rw s (fun h => h))
  subst hst
  obtain ⟨⟨x, st2⟩, h3⟩ := Option.isSome_iff_exists.1 hr
  rw [h3] at hk
  exact Runs.step (.run x st2 hg hf (.callD d f xf args ts caps as vs' res ho hd hxf has h1 hc h3)) hk
theorem Runs.callMK (f : Nat) (as : List A) (r : T) {xf : Operand} {args : Array Operand} {ts : Array TypeId}
    (ho : o.op = .call { callee := .value xf, args, argTypes := ts }) (hg : wantG ops st o = some true) (hf : opFits ρ st o = true) (hxf : st.eval xf = some (.clo f [])) (has : allSome (args.toList.map st.eval) = some as)
    (hk1 : as.all A.mk = true) (hx : as.any A.hasX = true) (hc : MOK P f as r) (hk : Runs P p ρ ops l (st.put o.dst (.t r)) K) : Runs P p ρ ops (o :: l) st K :=
  Runs.step (.run (.t r) st hg hf (.callM f xf args ts as r ho hxf has hk1 hx hc rfl rfl)) hk
theorem Runs.callRK (d f r e sz : Nat) (rows rows' : List (List T)) (as : List A) (vs : List V) (res : T) {xf : Operand} {args : Array Operand} {ts : Array TypeId}
    (ho : o.op = .call { callee := .value xf, args, argTypes := ts }) (hd : o.dst = some d) (hg : wantG ops st o = some true) (hf : opFits ρ st o = true) (hxf : st.eval xf = some (.clo f [])) (has : allSome (args.toList.map st.eval) = some (.own r :: as))
    (hrw : st.rw r = some (.live e sz rows)) (hp : ((A.peekVs as MA.ret).run st).map Prod.fst = some vs) (hpl : V.plains vs) (hc : ROK P f e sz rows vs res rows')
    (hk : Runs P p ρ ops l (({ st with rw := upd st.rw r (some (.live e sz rows')) } : St).put o.dst (.t res)) K) : Runs P p ρ ops (o :: l) st K := by
  obtain ⟨⟨vs', st1⟩, h1, h2⟩ := Option.map_eq_some_iff.1 hp
  cases h2
  have hst : st1 = st := by
    have := (In_run (A.peekVs as MA.ret) (peekVs_in (D := ⟨fun _ => True, fun _ => False, fun _ => True, fun _ => False⟩) (A.inRs_all (fun _ => trivial) _) (fun _ => trivial)) h1).1
    exact St.ext this.tm (funext fun s => this.ob s (fun h => h)) (funext fun s => this.rw s (fun h => h))
  subst hst
  exact Runs.step (.run (.t res) _ hg hf (.callR d f r e sz rows rows' xf args ts as vs' res ho hd hxf has hrw h1 hpl hc rfl rfl)) hk
/-- An element of a foreign slice. -/
theorem Runs.idxX {α : Type} (f : α → List T) (xs : List α) (i : Int) (s : Bool) {y : α} {t e : TypeId} {a b : Operand} {sz : Nat} {kk : IntKind} (ho : o.op = .indexAddr t a b) (hg : wantG ops st o = some true) (hf : opFits ρ st o = true)
    (ha : st.eval a = some (.ext s (.sl sz (xs.map f)))) (hb : st.eval b = some (.t (.int kk i))) (hu : P.underlying t = some (.slice e)) (hs : tsize P e = some sz) (h : idx xs i = some y) (hk : Runs P p ρ ops l (st.put o.dst (.exa s (f y))) K) : Runs P p ρ ops (o :: l) st K := by
  obtain ⟨h0, h1⟩ := idx_some h
  refine Runs.pure (x := .exa s (f y)) hg hf ?_ hk
  simp only [maOf, ho, ha, hb]
  unfold maIndexAddr
  simp only [hu, hs, rowAddrX, h0, and_self, ↓reduceIte, List.getElem?_map, h1, Option.map_some, true_and, MA.run]
theorem Runs.truncO {α : Type} (f : α → List T) (xs : List α) (d r sz : Nat) (j : Int) {t e e' : TypeId} {x : Operand} {hi : Option Operand} {kk : IntKind} (ho : o.op = .slice t x none hi none) (hd : o.dst = some d) (hg : wantG ops st o = some true) (hf : opFits ρ st o = true) (hx : st.eval x = some (.own r))
    (hhi : evO st.eval hi = some (some (.t (.int kk j)))) (hr : st.rw r = some (.live e' sz (xs.map f))) (hu : P.underlying t = some (.slice e)) (hs : tsize P e = some sz) (hw : isTr ρ o.dst = true) (hw2 : isWin ρ o.dst = false) (hne : Nat.beq (tokR d 0) r = false) (hfree : st.rw (tokR d 0) = none)
    (h : sliceOK 0 j xs.length = true) (hk : Runs P p ρ ops l (({ st with rw := upd (upd st.rw r (some .gone)) (tokR d 0) (some (.live e' sz (((xs.take j.toNat).drop (Int.toNat 0)).map f))) } : St).put o.dst (.own (tokR d 0))) K) : Runs P p ρ ops (o :: l) st K := by
  obtain ⟨_, h1, h2⟩ := sliceOK_spec h
  have hne' : tokR d 0 ≠ r := fun he => by rw [he, Nat.beq_refl] at hne; cases hne
  refine Runs.op (x := .own (tokR d 0)) (st1 := { st with rw := upd (upd st.rw r (some .gone)) (tokR d 0) (some (.live e' sz ((xs.map f).take j.toNat))) }) hg hf ?_ (by
    have : ((xs.take j.toNat).drop (Int.toNat 0)).map f = (xs.map f).take j.toNat := List.map_take
    rw [this] at hk
    exact hk)
  have hlo : evO st.eval (none : Option Operand) = some none := rfl
  rw [hd] at hw hw2
  have hc : cutW ρ (some d) none (some (.t (.int kk j))) = true := by simp [cutW, hw]
  have hf0 : upd st.rw r (some .gone) (tokR d 0) = none := by rw [upd_ne _ _ _ _ hne']; exact hfree
  simp only [maOf, ho, hx, hlo, hhi, hc, hw2, Bool.false_and, Bool.false_eq_true, maTrunc, hu, hd, hs, MA.run, hr, List.length_map, h1, h2, and_self, ↓reduceIte, mkRow, hf0]
theorem rows_extI (k : IntKind) (m : Nat) (xs : List Int) : (((A.ext false (.sl m (xs.map (eInt k)))).rows fun m rows => MA.ret (m, rows)).run st).map Prod.fst = some (m, xs.map (eInt k)) := rows_ext (k := k) (f := eInt k) fun _ => rfl
theorem MRetK {fn : Func} {r : T} (l : List A) (h1 : resOf P st fn.results.toList = some l) (h2 : tupA l = .t r) : MRet P fn r .ret st := ⟨.inl rfl, l, h1, h2⟩
theorem RRetK {fn : Func} {r : T} {e sz : Nat} {rows' : List (List T)} (l : List A) (h1 : resOf P st fn.results.toList = some l) (h2 : tupA l = .t r) (h3 : st.rw PR = some (.live e sz rows')) : RRet P fn r e sz rows' .ret st := ⟨.inl rfl, ⟨l, h1, h2⟩, h3⟩
end

/-! ### behind a call that wrote all that was only read -/
def A.safe1 (O R : Nat → Bool) : A → Bool
  | .t x => x.sc
  | .shp _ => true
  | .nil => true
  | .own r => R r
  | .obj s _ => O s
  | .elem r _ _ _ => R r
  | .ext .. | .exa .. | .undef => true
  | _ => false
def A.safe (O R : Nat → Bool) : A → Bool
  | .agg l => l.all (A.safe1 O R)
  | a => a.safe1 O R
def T.xm : T → T
  | x => x
/-- What is handed to such a call: what was only read is foreign. -/
def A.xm1 : A → A
  | .t (.sl sz rows) => .ext true (.sl sz rows)
  | .shp x => .ext true x
  | .t x => .t x
  | _ => .undef
/-- What was only read is known by its kinds alone. -/
def A.toS : A → A
  | .t (.sl sz rows) => .shp (.sl sz rows)
  | a => a
def A.xm2 : A → A
  | .t x => .ext true x
  | .shp x => .ext true x
  | _ => .undef
def A.xm : A → A
  | .agg l => .agg (l.map A.xm2)
  | a => a.xm1

section
variable {P : Program} {E : En} {g : Gh} {st st' : St} {a : Act} {w w' : World} {n : Nat}
theorem Sd.sub {s : Bool} {D D' : Nat → Prop} {x : T} {v : Value} (h : Sd s w D x v) (hD : ∀ b, D b → D' b) : Sd s w D' x v := by
  induction h with
  | int k n n' h => exact .int k n n' h
  | bool b b' h => exact .bool b b' h
  | str s => exact .str s
  | nilf => exact .nilf
  | sl0 sz a c => exact .sl0 sz a c
  | sl sz rows b off c u hc hb hsz hx hr ih => exact .sl sz rows b off c u hc (hD b hb) hsz hx ih
theorem Mem.shape (hM : Mem E g st w) {x : T} {v : Value} (h : Sd true g.sw g.S x v) : Sd true w g.F x v := (h.ks fun b hb => (hM.shp b hb).2).sub fun b hb => (hM.shp b hb).1
theorem xm1_VR {O R : Nat → Prop} {x : A} {v : Value} (hM : Mem E g st w) (h : VR w g O R x v) : VR w (gM w g.F) noP noP x.xm1 v := by
  cases h with
  | shp x v h => exact .ext true x v rfl (hM.shape h)
  | t x v h =>
    cases x with
    | sl sz rows => exact .ext true _ v rfl h.sd
    | int k n => exact .t _ v (h.sc rfl)
    | bool b => exact .t _ v (h.sc rfl)
    | str s => exact .t _ v (h.sc rfl)
    | nilf => exact .t _ v (h.sc rfl)
  | _ => exact .undef _
theorem xm2_VR {O R : Nat → Prop} {x : A} {v : Value} (hM : Mem E g st w) (h : VR w g O R x v) : VR w (gM w g.F) noP noP x.xm2 v := by
  cases h with
  | t x v h => exact .ext true _ v rfl h.sd
  | shp x v h => exact .ext true x v rfl (hM.shape h)
  | _ => exact .undef _
theorem xm_VR {O R : Nat → Prop} {x : A} {v : Value} (hM : Mem E g st w) (h : VR w g O R x v) : VR w (gM w g.F) noP noP x.xm v := by
  cases x with
  | agg l =>
    cases h with
    | agg l vs hl h =>
      refine .agg _ vs (by simpa using hl) fun i x v hi hv => ?_
      rw [List.getElem?_map, Option.map_eq_some_iff] at hi
      obtain ⟨y, hy, rfl⟩ := hi
      exact xm2_VR hM (h i y v hy hv)
  | _ => exact xm1_VR hM h
theorem safe1_VR {O R : Nat → Prop} {O' R' : Nat → Bool} {x : A} {v : Value} (hM : Mem E g st w) (hks : ∀ b, g.F b → KS w w' b) (h : VR w g O R x v) (hs : x.toS.safe1 O' R' = true) : VR w' { g with S := g.F, sw := w' } (fun s => O' s = true) (fun r => R' r = true) x.toS v := by
  have hsc : ∀ {y : T}, y.sc = true → Rd w g.F y v → VR w' { g with S := g.F, sw := w' } (fun s => O' s = true) (fun r => R' r = true) (.t y) v := fun hy h => .t _ v (((h.sc (F' := noP) hy).mono (fun _ h => h.elim) (fun _ h => h)).sc hy)
  cases h with
  | t x v h =>
    cases x with
    | sl sz rows => exact .shp (g := { g with S := g.F, sw := w' }) _ v (h.sd.ks hks)
    | int k n => exact hsc rfl h
    | bool b => exact hsc rfl h
    | str s => exact hsc rfl h
    | nilf => exact hsc rfl h
  | shp x v h => exact .shp (g := { g with S := g.F, sw := w' }) x v ((hM.shape h).ks hks)
  | nil => exact .nil
  | own r hr => exact .own (g := { g with S := g.F, sw := w' }) r hs
  | obj s off ho => exact .obj (g := { g with S := g.F, sw := w' }) s off hs
  | elem r sz i off b n c hr he => exact .elem r sz i off b n c hs he
  | undef v => exact .undef v
  | ext s x v h1 h2 => exact .ext s x v h1 h2
  | exa s c b off u h1 h2 h3 h4 => exact .exa s c b off u h1 h2 h3 h4
  | _ => simp [A.safe1, A.toS] at hs
theorem safe_toS {O' R' : Nat → Bool} {x : A} (h : x.safe1 O' R' = true) : x.toS = x := by
  cases x with
  | t x => cases x <;> first | rfl | (simp [A.safe1, T.sc] at h)
  | _ => rfl
theorem safe_VR {O R : Nat → Prop} {O' R' : Nat → Bool} {x : A} {v : Value} (hM : Mem E g st w) (hks : ∀ b, g.F b → KS w w' b) (h : VR w g O R x v) (hs : x.safe O' R' = true) : VR w' { g with S := g.F, sw := w' } (fun s => O' s = true) (fun r => R' r = true) x v := by
  have key : ∀ {x : A} {v : Value}, VR w g O R x v → x.safe1 O' R' = true → VR w' { g with S := g.F, sw := w' } (fun s => O' s = true) (fun r => R' r = true) x v := fun {x v} h hs => by
    have := safe1_VR hM hks h (O' := O') (R' := R') (by rw [safe_toS hs]; exact hs)
    rwa [safe_toS hs] at this
  cases x with
  | agg l =>
    cases h with
    | agg l vs hl h => exact .agg l vs hl fun i x v hi hv => key (h i x v hi hv) (List.all_eq_true.1 hs x (List.mem_of_getElem? hi))
  | _ => exact key h hs

def safeT (O R : Nat → Bool) (n : Nat) : List (Nat × A) → Bool
  | [] => true
  | (k, a) :: r => Nat.blt k n && a.safe O R && safeT O R n r
def safeO (O R : Nat → Bool) : List (Nat × List A) → Bool
  | [] => true
  | (_, l) :: r => l.all (A.safe1 O R) && safeO O R r
theorem safeT_mem {O R : Nat → Bool} : ∀ {l : List (Nat × A)}, safeT O R n l = true → ∀ q ∈ l, q.1 < n ∧ q.2.safe O R = true
  | [], _, q, h => by simp at h
  | (k, x) :: r, hk, q, h => by
    unfold safeT at hk
    simp only [Bool.and_eq_true] at hk
    rcases List.mem_cons.1 h with rfl | h
    · exact ⟨by simpa using hk.1.1, hk.1.2⟩
    · exact safeT_mem hk.2 q h
theorem safeO_mem {O R : Nat → Bool} : ∀ {l : List (Nat × List A)}, safeO O R l = true → ∀ q ∈ l, q.2.all (A.safe1 O R) = true
  | [], _, q, h => by simp at h
  | (k, x) :: r, hk, q, h => by
    unfold safeO at hk
    simp only [Bool.and_eq_true] at hk
    rcases List.mem_cons.1 h with rfl | h
    · exact hk.1
    · exact safeO_mem hk.2 q h

theorem EL.one (h : EL E [1]) : E.lent = [] ∧ E.pin = none ∧ ∀ b, ¬ E.F0 b ∧ ¬ E.X b := by
  obtain ⟨fl, h1, h2, h3, h4⟩ := h
  have hl : E.lent = [] := by
    cases hq : E.lent with
    | nil => rfl
    | cons q r =>
      rw [hq] at h1
      simp only [List.map_cons, List.cons_append, List.cons.injEq] at h1
      have := h2 q (by rw [hq]; simp)
      omega
  rw [hl] at h1
  simp at h1
  subst h1
  refine ⟨hl, ?_, h4 (by simp)⟩
  cases hp : E.pin with
  | none => rfl
  | some v => have := h3 v hp; simp at this

/-- What is known of s2 in s holds behind a change of what was only read. -/
theorem Sim.forget {s2 : Sx} (hE : EL E [1]) (hS : Sim E g n st a w) (hc : Calm w w') (hsame : ∀ b, b < w.heap.size → ¬ g.F b → w'.heap[b]? = w.heap[b]?) (hks : ∀ b, g.F b → KS w w' b)
    (ht : s2.tm.map (fun q => st.tm q.1) = s2.tm.map (fun q => q.2)) (ho : s2.ob.map (fun q => (st.ob q.1).map (List.map A.toS)) = s2.ob.map (fun q => some q.2)) (hr : s2.rw.map (fun q => st.rw q.1) = s2.rw.map (fun q => some q.2))
    (hs1 : safeT s2.O s2.R n s2.tm = true) (hs2 : safeO s2.O s2.R s2.ob = true) (hs3 : ∀ q ∈ s2.rw, ∃ e sz rows, q.2 = .live e sz rows ∧ ∀ row ∈ rows, ∀ x ∈ row, T.sc x = true) :
    Sim E { g with S := g.F, sw := w' } n s2.st a w' := by
  obtain ⟨hl, hp, hcl⟩ := hE.one
  have hM := hS.mem
  have hFn : ∀ b, g.F b → E.w0.heap.size ≤ b := fun b hb => Nat.le_of_not_lt fun hlt => by
    rcases (hM.F b hb).2.1 hlt with h | h
    · exact (hcl b).1 h
    · exact (hcl b).2 h
  have hob : ∀ {i : Nat} {l : List A}, look s2.ob i = some l → ∃ l0, st.ob i = some l0 ∧ l = l0.map A.toS := fun {i l} h => by
    obtain ⟨l0, h1, h2⟩ := Option.map_eq_some_iff.1 (map_mem ho (i, l) (look_mem h))
    exact ⟨l0, h1, h2.symm⟩
  have hrw : ∀ {i : Nat} {x : Row}, look s2.rw i = some x → st.rw i = some x := fun {i x} h => map_mem hr (i, x) (look_mem h)
  have hO : ∀ {i}, s2.st.O i → st.O i := fun {i} h => by
    obtain ⟨l, hl⟩ := Option.isSome_iff_exists.1 h
    obtain ⟨l0, h0, _⟩ := hob hl
    unfold St.O; rw [h0]; rfl
  have hL : ∀ {r}, s2.st.L r → st.L r := fun {r} ⟨e, sz, rows, h⟩ => ⟨e, sz, rows, hrw h⟩
  have hOe : (fun i => s2.O i = true) = s2.st.O := rfl
  have hRe : (fun i => s2.R i = true) = s2.st.R := rfl
  refine ⟨⟨fun i cells h => ?_, fun i i' h h' he => hM.obne i i' (hO h) (hO h') he, fun r x h => ?_, fun r r' b h h' he he' => hM.rowne r r' b (hL h) (hL h') he he', fun r i h h' => hM.rowob r i (hL h) (hO h'), fun b h => ⟨Nat.lt_of_lt_of_le (hM.F b h).1 hc.size, (hM.F b h).2.1, .inr (hks b h).wr⟩,
    hc.os.trans hM.os, hc.tape.trans hM.tape, hc.output.trans hM.output, Nat.le_trans hM.sizes hc.size, fun b h1 h2 => ?_, fun b h => ⟨h, KS.refl (hks b h).wr⟩, hM.dep0⟩, hS.size, hS.defers, fun i hi => ?_, fun i hi => ?_, fun s b hb => ?_, fun v hv => ?_⟩
  · have h : look s2.ob i = some cells := h
    obtain ⟨l0, h0, rfl⟩ := hob h
    obtain ⟨arr, e, h1, h2, h3, h4, h5⟩ := hM.ob _ _ h0
    refine ⟨arr, e, (hsame _ (heap_lt h1) h4).trans h1, by simpa using h2, fun j x hj => ?_, h4, h5⟩
    have hsf := List.all_eq_true.1 (safeO_mem hs2 _ (look_mem h)) x (List.mem_of_getElem? hj)
    rw [List.getElem?_map, Option.map_eq_some_iff] at hj
    obtain ⟨y, hy, rfl⟩ := hj
    obtain ⟨h6, v, h7, h8⟩ := h3 j y hy
    refine ⟨?_, v, h7, ?_⟩
    · cases y with
      | t y => cases y <;> rfl
      | _ => exact h6
    · rw [← hOe, ← hRe]
      exact safe1_VR hM hks h8 hsf
  · have h : look s2.rw r = some x := h
    obtain ⟨e, sz, rows, rfl, hsc⟩ := hs3 _ (look_mem h)
    have h0 := hrw h
    have hLr : st.L r := ⟨e, sz, rows, h0⟩
    obtain ⟨inner, ho, h1, h2, h3⟩ := hM.row r _ h0
    refine ⟨inner, ⟨ho.1, ?_⟩, h1, fun i row j x hi hj => ?_, fun b hb => ⟨(h3 b hb).1, (h3 b hb).2⟩⟩
    · rcases ho.2 with hn | ⟨k, cap, cur, hv, hg, hh, rest⟩
      · exact .inl hn
      · exact .inr ⟨k, cap, cur, hv, hg, (hsame k (heap_lt hh) (h3 k (by show (g.rw r).ownBlock = some k; rw [hv]; rfl)).1).trans hh, rest⟩
    · obtain ⟨u, hu, hrd⟩ := h2 i row j x hi hj
      exact ⟨u, hu, ((hrd.sc (F' := noP) (hsc row (List.mem_of_getElem? hi) x (List.mem_of_getElem? hj))).mono (fun _ h => h.elim) (fun _ h => h)).sc (hsc row (List.mem_of_getElem? hi) x (List.mem_of_getElem? hj))⟩
  · exact Fr.gh ((hM.frame b h1 h2).keep (hsame b (Nat.lt_of_lt_of_le h1 hM.sizes) (fun h => by have := hFn b h; omega))) ⟨rfl, rfl, rfl⟩
  · obtain ⟨v, h1, h2⟩ := hS.tm i hi
    refine ⟨v, h1, ?_⟩
    show VR w' _ s2.st.O s2.st.R (match look s2.tm i with | some a => a | none => .undef) v
    cases hq : look s2.tm i with
    | none => exact .undef v
    | some x =>
      have := map_mem ht (i, x) (look_mem hq)
      simp only at this
      rw [this] at h2
      rw [← hOe, ← hRe]
      exact safe_VR hM hks h2 (safeT_mem hs1 _ (look_mem hq)).2
  · show (match look s2.tm i with | some a => a | none => .undef) = A.undef
    cases hq : look s2.tm i with
    | none => rfl
    | some x =>
      have := (safeT_mem hs1 _ (look_mem hq)).1
      simp only at this
      omega
  · rw [hl] at hb; cases hb
  · rw [hp] at hv; cases hv

variable {p : Nat → Bool} {ρ : Nat → Root} {ops : Array Oper} {o : Oper} {ls : List Nat} {Q : Exit → St → Prop}
theorem ops_soundK [Tb P E] {Q : Exit → Act → World → Prop} {l2 : List Nat} (hd : ∀ (i : Nat) (o : Oper), ops[i]? = some o → dstOK n o = true) (hQ : ∀ g a w, Sim E g n st' a w → wpOps P ops Q l2 a w) : ∀ {l : List Nat} {st : St} {g : Gh} {a : Act} {w : World}, Sim E g n st a w → RunI P p ρ ops l st st' → wpOps P ops Q (l ++ l2) a w
  | [], st, g, a, w, hS, h => hQ g a w (by have h : st' = st := h; rw [h]; exact hS)
  | i :: l, st, g, a, w, hS, ⟨b, h1, h2⟩ => by
    rw [List.cons_append, wpOps_cons]
    exact step_sound hS (hd i) h1 fun g' a' w' hS' => ops_soundK hd hQ hS' h2

theorem runI_of_runL' : ∀ {l : List Oper} {k : Nat} {st st' : St}, (∀ j o, l[j]? = some o → ops[k + j]? = some o) → RunL P p ρ ops l st st' → RunI P p ρ ops (List.range' k l.length) st st'
  | [], k, st, _, _, h => h
  | o :: l, k, st, _, hl, ⟨b, h1, h2⟩ => by
    refine ⟨b, ?_, runI_of_runL' (k := k + 1) (fun j o' hj => by have := hl (j + 1) o' (by simpa using hj); simpa [Nat.add_assoc, Nat.add_comm 1 j] using this) h2⟩
    have := hl 0 o rfl
    simp at this
    unfold StepI
    rw [this]
    exact h1

/-- A call that writes all that was only read, amid a region; then what is left. -/
theorem Wp.mark {id : Nat} (k d f : Nat) (as : List A) (r : T) (s s2 : Sx) (xf : Operand) (args : Array Operand) (ts : Array TypeId) {st1 : St} (hok : ops.toList.all (dstOK n) = true)
    (h1 : RunL P p ρ ops (ops.toList.take k) st st1) (hle : Le n [1] st1 s.st) (ho : ops[k]? = some o) (hop : o.op = .call { callee := .value xf, args, argTypes := ts }) (hdst : o.dst = some d) (hgd : o.guard = none)
    (hxf : s.st.eval xf = some (.clo f [])) (has : allSome (args.toList.map s.st.eval) = some as) (hc : MOK P f (as.map A.xm) r)
    (ht : s2.tm.map (fun q => s.st.tm q.1) = s2.tm.map (fun q => q.2)) (hob : s2.ob.map (fun q => (s.st.ob q.1).map (List.map A.toS)) = s2.ob.map (fun q => some q.2)) (hr : s2.rw.map (fun q => s.st.rw q.1) = s2.rw.map (fun q => some q.2))
    (hs1 : safeT s2.O s2.R n s2.tm = true) (hs2 : safeO s2.O s2.R s2.ob = true) (hs3 : ∀ q ∈ s2.rw, ∃ e sz rows, q.2 = .live e sz rows ∧ ∀ row ∈ rows, ∀ x ∈ row, T.sc x = true)
    (h2 : Runs P p ρ ops (ops.toList.drop (k + 1)) (s2.st.put (some d) (.t r)) (Q .normal)) : Wp P n [1] (.region id ops false) Q st := by
  intro E g a w hE hS
  have hTb := hE.2
  have hd : ∀ (i : Nat) (o : Oper), ops[i]? = some o → dstOK n o = true := fun i o ho => List.all_eq_true.1 hok o (by simpa using Array.mem_of_getElem? ho)
  have hlt : k < ops.size := (Array.getElem?_eq_some_iff.1 ho).1
  have hsplit : List.range ops.size = List.range' 0 k ++ k :: List.range' (k + 1) (ops.size - (k + 1)) := by
    rw [List.range_eq_range']
    have : ops.size = k + (1 + (ops.size - (k + 1))) := by omega
    conv => lhs; rw [this]
    rw [← List.range'_append_1]
    congr 1
    rw [Nat.zero_add, Nat.add_comm 1, List.range'_succ]
  have hI1 : RunI P p ρ ops (List.range' 0 k) st st1 := by
    have := runI_of_runL' (k := 0) (fun j o hj => ?_) h1
    · rwa [List.length_take, Array.length_toList, Nat.min_eq_left (Nat.le_of_lt hlt)] at this
    · rw [List.getElem?_take] at hj
      split at hj
      · rw [Nat.zero_add]; simpa using hj
      · cases hj
  obtain ⟨st3, h3, h4⟩ := h2
  have hI2 : RunI P p ρ ops (List.range' (k + 1) (ops.size - (k + 1))) (s2.st.put (some d) (.t r)) st3 := by
    have := runI_of_runL' (k := k + 1) (fun j o hj => ?_) h3
    · rwa [List.length_drop, Array.length_toList] at this
    · rw [List.getElem?_drop] at hj; simpa using hj
  refine wp_region ?_
  rw [hsplit]
  refine ops_soundK hd (fun g1 a1 w1 hS1 => ?_) hS hI1
  obtain ⟨g2, hS2⟩ := hle E g1 a1 w1 hE.1 hS1
  rw [wpOps_cons]
  unfold wpOp
  rw [ho]
  simp only
  have hw : Region.wanted o (yielded ops a1.tmps) = true := wanted_of (b := true) hS2 (by unfold wantG; rw [hgd])
  rw [hw, if_pos rfl]
  obtain ⟨hsc, hcl, hcc⟩ := hc
  have hM := hS2.mem
  have hvf := eval_VR hS2 hxf
  generalize hvv : a1.eval xf = vf at hvf
  obtain ⟨ha1, ha2⟩ := evs_VR hS2 has
  cases hvf with
  | clo f caps vcaps hl hx' =>
    have : vcaps = [] := List.eq_nil_of_length_eq_zero hl.symm
    subst this
    have hgoes : Goes P o a1 w1 fun v w' => ∃ g', Sim E g' n (s2.st.put (some d) (.t r)) (a1.put o.dst v) w' := by
      refine Goes.of_calls hop hvv hcl ?_
      rw [List.append_nil]
      obtain ⟨_, _, hclean⟩ := hE.1.one
      refine (hcc w1 g2.F (args.toList.map a1.eval) (fun b hb => ?_) (by simpa using ha1.symm) (fun j x hj => ?_) (hM.tbW fun b h5 h6 _ h7 => ((hM.F b h7).2.1 h5).elim (fun h => (hclean b).1 h) h6)).mono fun e w' ⟨v, he, hrd, hcalm, hsame, hks⟩ => ⟨v, he, ?_⟩
      · obtain ⟨h5, _, h6⟩ := hM.F b hb
        exact ⟨h5, h6.resolve_left (hclean b).1⟩
      · rw [List.getElem?_map, Option.map_eq_some_iff] at hj
        obtain ⟨y, hy, rfl⟩ := hj
        have hlt : j < (args.toList.map a1.eval).length := by rw [← ha1]; exact (List.getElem?_eq_some_iff.1 hy).1
        exact ⟨_, List.getElem?_eq_getElem hlt, xm_VR hM (ha2 j y _ hy (List.getElem?_eq_getElem hlt))⟩
      · have hS3 := Sim.forget (s2 := s2) hE.1 hS2 hcalm hsame hks ht hob hr hs1 hs2 hs3
        rw [hdst]
        exact ⟨_, hS3.put (d := some d) (x := .t r) (v := v) ⟨hS3.mem, .t _ _ (hrd.sc hsc), Ext.refl _ _ _ _, rfl⟩ (dstOK_spec (hd k o ho) |> fun h t ht => h t (hdst.trans ht))⟩
    refine .inl (hgoes _ _ fun v w' ⟨g', hS'⟩ => ?_)
    have hfin := ops_sound (Q := fun e a' w' => ∃ g' st', Sim E g' n st' a' w' ∧ Q e st') hd (fun g a w hS => ⟨g, st3, hS, h4⟩) hS' hI2
    exact hfin
theorem Wp.markK {id : Nat} (pl : List Nat) (ρl : List (Nat × Root)) (k d f : Nat) (as : List A) (r : T) (s s2 : Sx) (xf : Operand) (args : Array Operand) (ts : Array TypeId) (hc : MOK P f (as.map A.xm) r)
    (hs3 : ∀ q ∈ s2.rw, ∃ e sz rows, q.2 = .live e sz rows ∧ ∀ row ∈ rows, ∀ x ∈ row, T.sc x = true)
    (h2 : Runs P (pOf pl) (rhoOf ρl) ops (ops.toList.drop (k + 1)) (s2.st.put (some d) (.t r)) (Q .normal))
    (ho : ops[k]? = some o := by rfl) (hop : o.op = .call { callee := .value xf, args, argTypes := ts } := by rfl) (hdst : o.dst = some d := by rfl) (hgd : o.guard = none := by rfl)
    (hok : ops.toList.all (dstOK n) = true := by kernel_rfl)
    (h1 : (runP P (rhoOf ρl) ops (ops.toList.take k) st).isSome = true := by kernel_rfl)
    (hk : s.ok n [1] [] [] = true := by kernel_rfl) (ht0 : s.tm.map (fun q => (St.or (runP P (rhoOf ρl) ops (ops.toList.take k) st)).tm q.1) = s.tm.map (fun q => q.2.ren (phi []) (phi [])) := by kernel_rfl)
    (ho0 : s.ob.map (fun q => (St.or (runP P (rhoOf ρl) ops (ops.toList.take k) st)).ob (phi [] q.1)) = s.ob.map (fun q => some (A.rens (phi []) (phi []) q.2)) := by kernel_rfl)
    (hr0 : s.rw.map (fun q => (St.or (runP P (rhoOf ρl) ops (ops.toList.take k) st)).rw (phi [] q.1)) = s.rw.map (fun q => some q.2) := by kernel_rfl)
    (hxf : s.st.eval xf = some (.clo f []) := by kernel_rfl) (has : allSome (args.toList.map s.st.eval) = some as := by kernel_rfl)
    (ht : s2.tm.map (fun q => s.st.tm q.1) = s2.tm.map (fun q => q.2) := by kernel_rfl) (hob : s2.ob.map (fun q => (s.st.ob q.1).map (List.map A.toS)) = s2.ob.map (fun q => some q.2) := by kernel_rfl) (hr : s2.rw.map (fun q => s.st.rw q.1) = s2.rw.map (fun q => some q.2) := by kernel_rfl)
    (hs1 : safeT s2.O s2.R n s2.tm = true := by kernel_rfl) (hs2 : safeO s2.O s2.R s2.ob = true := by kernel_rfl) : Wp P n [1] (.region id ops false) Q st := by
  obtain ⟨st1, h3⟩ := Option.isSome_iff_exists.1 h1
  rw [h3] at ht0 ho0 hr0
  exact Wp.mark k d f as r s s2 xf args ts hok (runL_runP h3) (Le.of (s := s) (mo := []) (mr := []) hk ht0 ho0 hr0) ho hop hdst hgd hxf has hc ht hob hr hs1 hs2 hs3 h2
/-- Rows of whole numbers lead nowhere. -/
theorem sc_ints (k : IntKind) (xs : List Int) : ∀ row ∈ xs.map (eInt k), ∀ x ∈ row, T.sc x = true := by
  intro row hr x hx
  obtain ⟨n, _, rfl⟩ := List.mem_map.1 hr
  simp [eInt] at hx
  subst hx
  rfl
theorem rows_nil : ∀ q ∈ ([] : List (Nat × Row)), ∃ e sz rows, q.2 = .live e sz rows ∧ ∀ row ∈ rows, ∀ x ∈ row, T.sc x = true := fun _ h => by cases h
theorem rows_cons {r e sz : Nat} {k : IntKind} {xs : List Int} {l : List (Nat × Row)} (h : ∀ q ∈ l, ∃ e sz rows, q.2 = .live e sz rows ∧ ∀ row ∈ rows, ∀ x ∈ row, T.sc x = true) :
    ∀ q ∈ (r, Row.live e sz (xs.map (eInt k))) :: l, ∃ e sz rows, q.2 = .live e sz rows ∧ ∀ row ∈ rows, ∀ x ∈ row, T.sc x = true := fun q hq => by
  rcases List.mem_cons.1 hq with rfl | hq
  · exact ⟨e, sz, _, rfl, sc_ints k xs⟩
  · exact h q hq
/-- Nothing is handed over. -/
def C.tO : C → Bool
  | .t _ => true
  | _ => false
def V.tO : V → Bool
  | .one c => c.tO
  | .agg l => l.all C.tO
  | _ => false
theorem CVs.noB {w : World} {F : Nat → Prop} {l : List C} {vs : List Value} {bs : List Nat} (h : CVs w F l vs bs) (ht : l.all C.tO = true) : bs = [] := by
  induction h with
  | nil => rfl
  | cons c v b cs vs bs h hs ih =>
    simp only [List.all_cons, Bool.and_eq_true] at ht
    rw [ih ht.2]
    cases h with
    | t => rfl
    | nil => simp [C.tO] at ht
    | ow => simp [C.tO] at ht
theorem VV.noB {w : World} {F : Nat → Prop} {x : V} {v : Value} {bs : List Nat} (h : VV w F x v bs) (ht : x.tO = true) : bs = [] := by
  cases h with
  | one c v bs h => cases h with
    | t => rfl
    | nil => simp [V.tO, C.tO] at ht
    | ow => simp [V.tO, C.tO] at ht
  | agg l vs bs h => exact h.noB ht
  | _ => simp [V.tO] at ht
theorem VVs.noB {w : World} {F : Nat → Prop} : ∀ {l : List V} {vs : List Value} {bs : List Nat}, VVs w F l vs bs → l.all V.tO = true → bs = []
  | _, _, _, .nil, _ => rfl
  | _, _, _, .cons x v b l vs bs h hs, ht => by
    simp only [List.all_cons, Bool.and_eq_true] at ht
    rw [h.noB ht.1, VVs.noB hs ht.2]; rfl
theorem Outs.none {w : World} {F : Nat → Prop} : ∀ {l : List V} {vs : List Value}, l.all V.tO = true → vs.length = l.length → Outs w F l vs [] []
  | [], [], _, _ => .nil
  | x :: l, v :: vs, ht, hl => by
    simp only [List.all_cons, Bool.and_eq_true] at ht
    exact .skip x v l vs [] [] (fun c h => by subst h; simp [V.tO] at ht) (Outs.none ht.2 (by simpa using hl))
/-- A law, called as ever. -/
theorem DOK.call {f : FuncId} {args : List V} {b : Bool} (h : DOK P f args (.one (.t (.bool b)))) (ht : args.all V.tO = true) : CallOK P f args (.one (.t (.bool b))) [] := by
  obtain ⟨h1, h2⟩ := h
  refine ⟨h1, fun w F vs bs hF hVV hnd hnf htb => ?_⟩
  have hb := hVV.noB ht
  subst hb
  refine (h2 w F vs hF hVV (htb.mono fun _ h => h.elim)).mono fun e w' ⟨v, F', bv, he, hcalm, hsame, hF', hvr, hnd, hex⟩ => ?_
  cases hvr with
  | one _ _ _ hc => cases hc with
    | t _ _ hr =>
      cases hr
      exact ⟨_, F, [], [], he, hcalm, fun b hb _ => hsame b hb, fun _ h => h, fun b hb => ⟨Nat.lt_of_lt_of_le (hF b hb) hcalm.size, fun _ => .inl hb, .inl hb⟩, .one _ _ _ (.t _ _ (.bool b)), Outs.none ht hVV.len.symm, List.nodup_nil, fun b hb => by simp at hb⟩
theorem DOK.of_bodyK {fn : Func} {c : Code} {f : FuncId} {args : List V} {m : Bool} {res : V}
    (hf : P.funcs[f]? = some fn) (hb : fn.body = some c) (hnm : (fn.name == "runtime.NumGoroutine") = false) (hle : Nat.ble args.length fn.ntmps = true) (ht : resTmps fn.ntmps fn = true)
    (h : Wp P fn.ntmps [1] c (RetTo P m fn [] res []) (St.start (args.map V.toX) St.empty)) : DOK P f args res := DOK.of_body hf hb hnm (by simpa using hle) ht h
theorem MOK.of_bodyK {fn : Func} {c : Code} {f : FuncId} {as : List A} {n : T}
    (hf : P.funcs[f]? = some fn) (hb : fn.body = some c) (hnm : (fn.name == "runtime.NumGoroutine") = false) (hle : Nat.ble as.length fn.ntmps = true) (ht : resTmps fn.ntmps fn = true) (hsc : n.sc = true)
    (h : Wp P fn.ntmps [1] c (MRet P fn n) (St.start as St.empty)) : MOK P f as n := MOK.of_body hf hb hnm (by simpa using hle) ht hsc h
theorem ROK.of_bodyK {fn : Func} {c : Code} {f : FuncId} {e sz : Nat} {rows rows' : List (List T)} {ts : List T} {n : T}
    (hf : P.funcs[f]? = some fn) (hb : fn.body = some c) (hnm : (fn.name == "runtime.NumGoroutine") = false) (hle : Nat.ble (ts.length + 1) fn.ntmps = true) (ht : resTmps fn.ntmps fn = true) (hsc : n.sc = true) (hts : ts.all T.sc = true)
    (hrs : ∀ row ∈ rows', ∀ x ∈ row, T.sc x = true)
    (h : Wp P fn.ntmps [0] c (RRet P fn n e sz rows') (St.start (.own PR :: ts.map A.t) (St.row1 e sz rows))) : ROK P f e sz rows (ts.map fun x => .one (.t x)) n rows' := ROK.of_body hf hb hnm (by simpa using hle) ht hsc hts hrs h
end
end Go.Tm
