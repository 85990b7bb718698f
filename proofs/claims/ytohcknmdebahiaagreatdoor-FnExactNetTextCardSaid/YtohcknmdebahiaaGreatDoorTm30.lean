/- Rules for printed walks: all that can be is told by the kernel. -/
import Derived.Test.YtohcknmdebahiaaGreatDoorTm29
set_option linter.unusedVariables false
set_option linter.unusedSimpArgs false
namespace Go.Tm
open Go.RowKit

/-- An element, where there is one. -/
def idx {α : Type} (xs : List α) (i : Int) : Option α := if 0 ≤ i then xs[i.toNat]? else none
theorem idx_some {α : Type} {xs : List α} {i : Int} {x : α} (h : idx xs i = some x) : 0 ≤ i ∧ xs[i.toNat]? = some x := by
  unfold idx at h
  split at h
  · exact ⟨by assumption, h⟩
  · cases h
/-- A condition. -/
def chk (b : Bool) : Option Unit := if b then some () else none
theorem chk_some {b : Bool} {u : Unit} (h : chk b = some u) : b = true := by
  unfold chk at h
  split at h
  · assumption
  · cases h
theorem bind_some {α β : Type} {x : Option α} {f : α → Option β} {r : β} (h : x.bind f = some r) : ∃ a, x = some a ∧ f a = some r := by
  cases x with
  | none => cases h
  | some a => exact ⟨a, rfl, h⟩
def orV {β : Type} (x : Option (β × St)) : St := match x with | some q => q.2 | none => St.empty
def orA (x : Option (A × St)) : A := match x with | some q => q.1 | none => .undef

section
variable {P : Program} {n : Nat} {ls : List Nat} {Q : Exit → St → Prop} {st st' : St} {p : Nat → Bool} {ρ : Nat → Root} {ops : Array Oper} {l : List Oper} {K : St → Prop} {o : Oper}

theorem Wp.regionA {id : Nat} (p : Nat → Bool) (ρ : Nat → Root) (hm : P.follows .mixedOrders = true) (hok : regOK p ρ n ops = true) (h : Runs P p ρ ops ops.toList st (Q .normal)) : Wp P n ls (.region id ops true) Q st :=
  Wp.region (fun _ => hm) hok h
theorem Wp.regionS {id : Nat} (p : Nat → Bool) (ρ : Nat → Root) (hok : ops.toList.all (dstOK n) = true) (h : Runs P p ρ ops ops.toList st (Q .normal)) : Wp P n ls (.region id ops false) Q st :=
  Wp.region (fun h => by cases h) hok h

/-- Ways that meet. -/
theorem Wp.seqJ {α : Type} {x y : Code} (S : α → Sx) (G : α → Prop) (J : ∀ a, G a → Wp P n ls y Q (S a).st) (h : Wp P n ls x (thenQ (fun st => ∃ a, G a ∧ Le n ls st (S a).st) Q) st) : Wp P n ls (.seq x y) Q st :=
  Wp.seq (h.mono fun e st' hq => by
    cases e with
    | normal =>
      obtain ⟨a, h1, h2⟩ := hq
      exact Wp.le h2 (J a h1)
    | _ => exact hq)
/-- A loop by rounds. -/
theorem Wp.loopF {α : Type} {c : Code} (S : α → Sx) (G : Nat → α → Prop) (h0 : ∀ a, ¬ G 0 a) (hs : ∀ k a, G (k + 1) a → Wp P n ls c (thenQ (fun st => ∃ a', G k a' ∧ Le n ls st (S a').st) Q) (S a).st) (k : Nat) (a : α) (h : G k a) (hl : Le n ls st (S a).st) : Wp P n ls (.loop c) Q st := by
  refine Wp.le hl (Wp.loop (k := k) ?_)
  clear hl
  induction k generalizing a with
  | zero => exact absurd h (h0 a)
  | succ k ih =>
    refine (hs k a h).mono fun e st' hq => ?_
    cases e with
    | normal =>
      obtain ⟨a', h1, h2⟩ := hq
      exact WLoop.le h2 (ih a' h1)
    | _ => exact hq

/-- A truth that is known by now. -/
theorem Runs.known (d : Nat) {e v : Bool} (h : st.tm d = .t (.bool e)) (hv : e = v) (hr : Runs P p ρ ops l (st.put (some d) (.t (.bool v))) K) : Runs P p ρ ops l st K := by
  have : st.put (some d) (.t (.bool v)) = st := by
    refine St.ext (funext fun i => ?_) rfl rfl
    show upd st.tm d (.t (.bool v)) i = st.tm i
    unfold upd
    split
    · rename_i he
      rw [he, h, hv]
    · rfl
  rwa [this] at hr
theorem Runs.pure {x : A} (hg : wantG ops st o = some true) (hf : opFits ρ st o = true) (h : (maOf P ρ st.eval o).run st = some (x, st)) (hr : Runs P p ρ ops l (st.put o.dst x) K) : Runs P p ρ ops (o :: l) st K := Runs.op hg hf h hr

theorem Runs.callK (m : Bool) (d f : Nat) (caps as : List A) (vs : List V) (res : V) (outs : List (List C)) {xf : Operand} {args : Array Operand} {ts : Array TypeId}
    (ho : o.op = .call { callee := .value xf, args, argTypes := ts }) (hd : o.dst = some d) (hg : wantG ops st o = some true) (hf : opFits ρ st o = true) (hxf : st.eval xf = some (.clo f caps)) (has : allSome (args.toList.map st.eval) = some as)
    (hp : ((passA m p (as ++ caps) MA.ret).run st).map Prod.fst = some vs) (hc : CallOK P f vs res outs) (hr : ((recvOuts d (slots (as ++ caps)) outs (V.toA d (tokR d 0) res MA.ret)).run (orV ((passA m p (as ++ caps) MA.ret).run st))).isSome = true)
    (hk : Runs P p ρ ops l ((orV ((recvOuts d (slots (as ++ caps)) outs (V.toA d (tokR d 0) res MA.ret)).run (orV ((passA m p (as ++ caps) MA.ret).run st)))).put o.dst (orA ((recvOuts d (slots (as ++ caps)) outs (V.toA d (tokR d 0) res MA.ret)).run (orV ((passA m p (as ++ caps) MA.ret).run st))))) K) : Runs P p ρ ops (o :: l) st K := by
  obtain ⟨⟨vs', st1⟩, h1, h2⟩ := Option.map_eq_some_iff.1 hp
  cases h2
  rw [h1] at hr hk
  obtain ⟨⟨x, st2⟩, h3⟩ := Option.isSome_iff_exists.1 hr
  rw [h3] at hk
  exact Runs.call hg hf ho hd hxf has h1 hc h3 hk
theorem Runs.callBK (d f : Nat) (caps as : List A) (vs : List V) (res : V) {xf : Operand} {args : Array Operand} {ts : Array TypeId}
    (ho : o.op = .call { callee := .value xf, args, argTypes := ts }) (hd : o.dst = some d) (hg : wantG ops st o = some true) (hf : opFits ρ st o = true) (hxf : st.eval xf = some (.clo f caps)) (has : allSome (args.toList.map st.eval) = some as)
    (hp : ((A.peekVs (as ++ caps) MA.ret).run st).map Prod.fst = some vs) (hc : CallOK P f vs res []) (hpl : res.plain) (hr : ((V.toA d (tokR d 0) res MA.ret).run st).isSome = true)
    (hk : Runs P p ρ ops l ((orV ((V.toA d (tokR d 0) res MA.ret).run st)).put o.dst (orA ((V.toA d (tokR d 0) res MA.ret).run st))) K) : Runs P p ρ ops (o :: l) st K := by
  obtain ⟨⟨vs', st1⟩, h1, h2⟩ := Option.map_eq_some_iff.1 hp
  cases h2
  have hst : st1 = st := by
    have := (In_run (A.peekVs (as ++ caps) MA.ret) (peekVs_in (D := ⟨fun _ => True, fun _ => False, fun _ => True, fun _ => False⟩) (A.inRs_all (fun _ => trivial) _) (fun _ => trivial)) h1).1
    exact St.ext this.tm (funext fun s => this.ob s (fun h => h)) (funext fun s => this.rw s (fun h => h))
  subst hst
  obtain ⟨⟨x, st2⟩, h3⟩ := Option.isSome_iff_exists.1 hr
  rw [h3] at hk
  exact Runs.callB hg hf ho hd hxf has h1 hc hpl h3 hk

/-! ### an element's address -/
theorem Runs.idxT {α : Type} (f : α → List T) (xs : List α) (i : Int) {y : α} {t e : TypeId} {a b : Operand} {sz : Nat} {kk : IntKind} (ho : o.op = .indexAddr t a b) (hg : wantG ops st o = some true) (hf : opFits ρ st o = true)
    (ha : st.eval a = some (.t (.sl sz (xs.map f)))) (hb : st.eval b = some (.t (.int kk i))) (hu : P.underlying t = some (.slice e)) (hs : tsize P e = some sz) (h : idx xs i = some y) (hk : Runs P p ρ ops l (st.put o.dst (.fadr (f y))) K) : Runs P p ρ ops (o :: l) st K := by
  obtain ⟨h0, h1⟩ := idx_some h
  refine Runs.pure (x := .fadr (f y)) hg hf ?_ hk
  simp only [maOf, ho, ha, hb]
  exact idx_t hu hs h0 h1
theorem Runs.idxO {α : Type} (f : α → List T) (xs : List α) (i : Int) (r : Nat) {y : α} {t e e' : TypeId} {a b : Operand} {sz : Nat} {kk : IntKind} (ho : o.op = .indexAddr t a b) (hg : wantG ops st o = some true) (hf : opFits ρ st o = true)
    (ha : st.eval a = some (.own r)) (hr : st.rw r = some (.live e' sz (xs.map f))) (hb : st.eval b = some (.t (.int kk i))) (hu : P.underlying t = some (.slice e)) (hs : tsize P e = some sz) (h : idx xs i = some y) (hk : Runs P p ρ ops l (st.put o.dst (.elem r sz i.toNat 0)) K) : Runs P p ρ ops (o :: l) st K := by
  obtain ⟨h0, h1⟩ := idx_some h
  refine Runs.pure (x := .elem r sz i.toNat 0) hg hf ?_ hk
  simp only [maOf, ho, ha, hb]
  exact idx_own hu hs hr h0 h1
/-- A load out of an element of a row of one's own. -/
theorem Runs.loadE {α : Type} (f : α → List T) (xs : List α) (r i off : Nat) {y : α} {t : TypeId} {a : Operand} {sz m : Nat} {e' : TypeId} {gg : Bool} (x : A) (ho : o.op = .load t a) (hg : wantG ops st o = some true) (hf : opFits ρ st o = true)
    (ha : st.eval a = some (.elem r sz i off)) (hr : st.rw r = some (.live e' sz (xs.map f))) (hgg : tagg P t = some gg) (hm : tsize P t = some m) (h : xs[i]? = some y) (hc : cutA gg m ((f y).map A.t) off = some x) (hk : Runs P p ρ ops l (st.put o.dst x) K) : Runs P p ρ ops (o :: l) st K := by
  refine Runs.pure (x := x) hg hf ?_ hk
  simp only [maOf, ho, ha, maLoad, hgg, hm, MA.run, hr, ↓reduceIte, List.getElem?_map, h, Option.map_some, hc]

/-! ### append -/
def appInfo (P : Program) (t : TypeId) : Option (TypeId × Nat × Nat) := match P.underlying t with
  | some (.slice e) => match tinfo P e, tzero P e with
    | some (some _, n, by_), some z => if z.length = n ∧ 0 < n ∧ 0 < by_ then some (e, n, by_) else none
    | _, _ => none
  | _ => none
theorem appInfo_spec {t e : TypeId} {n by_ : Nat} (h : appInfo P t = some (e, n, by_)) : ∃ z z0, P.underlying t = some (.slice e) ∧ tinfo P e = some (some z0, n, by_) ∧ tzero P e = some z ∧ z.length = n ∧ 0 < n ∧ 0 < by_ := by
  unfold appInfo at h
  split at h
  · rename_i e' hu
    split at h
    · rename_i z0 n' by' z hi hz
      split at h
      · rename_i hc
        cases h
        exact ⟨z, z0, hu, hi, hz, hc.1, hc.2.1, hc.2.2⟩
      · cases h
    · cases h
  · cases h
theorem rows_ext {k : IntKind} {m : Nat} {xs : List Int} {f : Int → List T} (hf : ∀ n, (f n).all T.sc = true) : (((A.ext false (.sl m (xs.map f))).rows fun m rows => MA.ret (m, rows)).run st).map Prod.fst = some (m, xs.map f) := by
  have : scRows (xs.map f) = true := by
    unfold scRows
    rw [List.all_eq_true]
    intro r hr
    obtain ⟨n, _, rfl⟩ := List.mem_map.1 hr
    exact hf n
  simp [A.rows, this, MA.run]
theorem rows_of {β : Type} {y : A} {m : Nat} {ys : List (List T)} (hy : ((y.rows fun m rows => MA.ret (m, rows)).run st).map Prod.fst = some (m, ys)) : ∀ k : Nat → List (List T) → MA β, (y.rows k).run st = (k m ys).run st := by
  intro k
  unfold A.rows at hy ⊢
  split at hy <;> simp only [MA.run] at hy ⊢ <;> try (simp at hy; done)
  · simp at hy; obtain ⟨rfl, rfl⟩ := hy; rfl
  · split at hy
    · rename_i h; rw [if_pos h]; simp [MA.run] at hy; obtain ⟨rfl, rfl⟩ := hy; rfl
    · simp [MA.run] at hy
  · simp at hy; obtain ⟨rfl, rfl⟩ := hy; rfl
  · rename_i r
    revert hy
    rcases st.rw r with _ | (_ | _ | _) <;> simp only [MA.run, Option.map_some, Option.some.injEq, Prod.mk.injEq, Option.map_none, reduceCtorEq, false_implies]
    · rintro ⟨rfl, rfl⟩; rfl
    · rintro ⟨rfl, rfl⟩; rfl
theorem Runs.appN (d m e nn by_ : Nat) (ys : List (List T)) {t : TypeId} {ts : Array TypeId} {args : Array Operand} {a b : Operand} {y : A} (ho : o.op = .call { callee := .builtin .append, args, argTypes := ts }) (hargs : args.toList = [a, b]) (hts : ts.toList = [t, t]) (hd : o.dst = some d) (hg : wantG ops st o = some true) (hf : opFits ρ st o = true)
    (ha : st.eval a = some .nil) (hb : st.eval b = some y) (hy : ((y.rows fun m rows => MA.ret (m, rows)).run st).map Prod.fst = some (m, ys)) (hm : m = nn ∨ ys = []) (hi : appInfo P t = some (e, nn, by_)) (hsz : ys.length * by_ ≤ 140737488355328) (hfree : st.rw (tokR d 0) = none)
    (hk : Runs P p ρ ops l (({ st with rw := upd st.rw (tokR d 0) (some (.live e nn ys)) } : St).put o.dst (.own (tokR d 0))) K) : Runs P p ρ ops (o :: l) st K := by
  obtain ⟨z, z0, hu, hti, hz, h1, h2, h3⟩ := appInfo_spec hi
  refine Runs.op (x := .own (tokR d 0)) hg hf ?_ hk
  have hrow := rows_of (β := A) hy
  simp only [maOf, ho, hargs, ha, hb, maAppend, hts, hd, ↓reduceIte, hu, hti, hz, h1, h2, h3, and_self, hrow, hm, hsz, mkRow, MA.run, hfree]
theorem Runs.appO (d m e nn by_ r : Nat) (xs ys : List (List T)) {t : TypeId} {ts : Array TypeId} {args : Array Operand} {a b : Operand} {y : A} (ho : o.op = .call { callee := .builtin .append, args, argTypes := ts }) (hargs : args.toList = [a, b]) (hts : ts.toList = [t, t]) (hd : o.dst = some d) (hg : wantG ops st o = some true) (hf : opFits ρ st o = true)
    (ha : st.eval a = some (.own r)) (hr : st.rw r = some (.live e nn xs)) (hb : st.eval b = some y) (hy : ((y.rows fun m rows => MA.ret (m, rows)).run st).map Prod.fst = some (m, ys)) (hm : m = nn ∨ ys = []) (hi : appInfo P t = some (e, nn, by_)) (hsz : (xs.length + ys.length) * by_ ≤ 140737488355328) (hne : Nat.beq (tokR d 0) r = false) (hfree : st.rw (tokR d 0) = none)
    (hk : Runs P p ρ ops l (({ st with rw := upd (upd st.rw r (some .gone)) (tokR d 0) (some (.live e nn (xs ++ ys))) } : St).put o.dst (.own (tokR d 0))) K) : Runs P p ρ ops (o :: l) st K := by
  obtain ⟨z, z0, hu, hti, hz, h1, h2, h3⟩ := appInfo_spec hi
  have hne' : tokR d 0 ≠ r := fun h => by rw [h, Nat.beq_refl] at hne; cases hne
  refine Runs.op (x := .own (tokR d 0)) hg hf ?_ hk
  have hrow := rows_of (β := A) hy
  have hfr : upd st.rw r (some Row.gone) (tokR d 0) = none := by rw [upd_ne _ _ _ _ hne', hfree]
  simp only [maOf, ho, hargs, ha, hb, maAppend, hts, hd, ↓reduceIte, hu, hti, hz, h1, h2, h3, and_self, hrow, hm, MA.run, hr, hsz, mkRow, hfr]
end
end Go.Tm
