/- Operations in one go, told by the kernel; those that need a word. -/
import Derived.Test.YtohcknmdebahiaaGreatDoorTm27
set_option linter.unusedVariables false
set_option linter.unusedSimpArgs false
namespace Go.Tm
open Go.RowKit

/-- Operations that call nothing, one behind the other. -/
def runP (P : Program) (ρ : Nat → Root) (ops : Array Oper) : List Oper → St → Option St
  | [], st => some st
  | o :: l, st => match wantG ops st o with
    | some true => if opFits ρ st o then match (maOf P ρ st.eval o).run st with | some (x, st1) => runP P ρ ops l (st1.put o.dst x) | none => none else none
    | some false => runP P ρ ops l (st.put o.dst (.tup []))
    | none => none
def St.or (x : Option St) : St := match x with | some s => s | none => St.empty

section
variable {P : Program} {n : Nat} {Q : Exit → St → Prop} {st st' : St} {p : Nat → Bool} {ρ : Nat → Root} {ops : Array Oper} {l : List Oper} {K : St → Prop} {o : Oper}

theorem runL_runP : ∀ {l : List Oper} {st st1 : St}, runP P ρ ops l st = some st1 → RunL P p ρ ops l st st1
  | [], st, st1, h => by cases h; rfl
  | o :: l, st, st1, h => by
    unfold runP at h
    split at h
    · rename_i hg
      split at h
      · rename_i hf
        split at h
        · rename_i x st2 hx
          exact ⟨_, .run x st2 hg hf (.plain hx), runL_runP h⟩
        · cases h
      · cases h
    · rename_i hg
      exact ⟨_, .skip hg, runL_runP h⟩
    · cases h
theorem RunL.app : ∀ {l l' : List Oper} {st b c : St}, RunL P p ρ ops l st b → RunL P p ρ ops l' b c → RunL P p ρ ops (l ++ l') st c
  | [], l', st, b, c, h, h' => by have h : b = st := h; subst h; exact h'
  | o :: l, l', st, b, c, ⟨d, h1, h2⟩, h' => ⟨d, h1, RunL.app h2 h'⟩
/-- The first k, told by the kernel. -/
theorem Runs.batch (k : Nat) (h : (runP P ρ ops (l.take k) st).isSome = true) (hr : Runs P p ρ ops (l.drop k) (St.or (runP P ρ ops (l.take k) st)) K) : Runs P p ρ ops l st K := by
  obtain ⟨st1, h1⟩ := Option.isSome_iff_exists.1 h
  rw [h1] at hr
  obtain ⟨st', h2, h3⟩ := hr
  refine ⟨st', ?_, h3⟩
  have := RunL.app (runL_runP h1) h2
  rwa [List.take_append_drop] at this
theorem Runs.all (h : (runP P ρ ops l st).isSome = true) (hr : K (St.or (runP P ρ ops l st))) : Runs P p ρ ops l st K := by
  obtain ⟨st1, h1⟩ := Option.isSome_iff_exists.1 h
  rw [h1] at hr
  exact ⟨st1, runL_runP h1, hr⟩
/-- The first one, by a word of one's own. -/
theorem Runs.by {x : A} {st1 : St} (hg : wantG ops st o = some true) (hf : opFits ρ st o = true) (h : (maOf P ρ st.eval o).run st = some (x, st1)) (hr : Runs P p ρ ops l (st1.put o.dst x) K) : Runs P p ρ ops (o :: l) st K := Runs.op hg hf h hr
theorem Runs.skip1 (hg : wantG ops st o = some false) (hr : Runs P p ρ ops l (st.put o.dst (.tup [])) K) : Runs P p ρ ops (o :: l) st K := Runs.off hg hr
theorem Runs.call {m : Bool} {d f : Nat} {xf : Operand} {args : Array Operand} {ts : Array TypeId} {caps as : List A} {vs : List V} {st1 : St} {res : V} {outs : List (List C)} {x : A}
    (hg : wantG ops st o = some true) (hf : opFits ρ st o = true) (ho : o.op = .call { callee := .value xf, args, argTypes := ts }) (hd : o.dst = some d) (hxf : st.eval xf = some (.clo f caps)) (has : allSome (args.toList.map st.eval) = some as)
    (hp : (passA m p (as ++ caps) MA.ret).run st = some (vs, st1)) (hc : CallOK P f vs res outs) (hr : (recvOuts d (slots (as ++ caps)) outs (V.toA d (tokR d 0) res MA.ret)).run st1 = some (x, st'))
    (hk : Runs P p ρ ops l (st'.put o.dst x) K) : Runs P p ρ ops (o :: l) st K :=
  Runs.step (.run x st' hg hf (.call m d f xf args ts caps as vs st1 res outs ho hd hxf has hp hc hr)) hk
theorem Runs.callB {d f : Nat} {xf : Operand} {args : Array Operand} {ts : Array TypeId} {caps as : List A} {vs : List V} {res : V} {x : A}
    (hg : wantG ops st o = some true) (hf : opFits ρ st o = true) (ho : o.op = .call { callee := .value xf, args, argTypes := ts }) (hd : o.dst = some d) (hxf : st.eval xf = some (.clo f caps)) (has : allSome (args.toList.map st.eval) = some as)
    (hp : (A.peekVs (as ++ caps) MA.ret).run st = some (vs, st)) (hc : CallOK P f vs res []) (hpl : res.plain) (hr : (V.toA d (tokR d 0) res MA.ret).run st = some (x, st'))
    (hk : Runs P p ρ ops l (st'.put o.dst x) K) : Runs P p ρ ops (o :: l) st K :=
  Runs.step (.run x st' hg hf (.callB d f xf args ts caps as vs res ho hd hxf has hp hc hpl hr)) hk

/-! ### the operations that need a word: what the machine does, given the word -/
theorem idx_t {α : Type} {t e : TypeId} {f : α → List T} {xs : List α} {y : α} {sz : Nat} {kk : IntKind} {i : Int} (hu : P.underlying t = some (.slice e)) (hs : tsize P e = some sz) (h0 : 0 ≤ i) (h : xs[i.toNat]? = some y) :
    (maIndexAddr P t (.t (.sl sz (xs.map f))) (.t (.int kk i))).run st = some (.fadr (f y), st) := by
  unfold maIndexAddr
  simp only [hu, hs, rowAddr, h0, and_self, ↓reduceIte, List.getElem?_map, h, Option.map_some, true_and, MA.run]
theorem idx_own {α : Type} {t e : TypeId} {f : α → List T} {xs : List α} {y : α} {sz r : Nat} {kk : IntKind} {i : Int} {e' : TypeId} (hu : P.underlying t = some (.slice e)) (hs : tsize P e = some sz) (hr : st.rw r = some (.live e' sz (xs.map f))) (h0 : 0 ≤ i) (h : xs[i.toNat]? = some y) :
    (maIndexAddr P t (.own r) (.t (.int kk i))).run st = some (.elem r sz i.toNat 0, st) := by
  have : i.toNat < xs.length := (List.getElem?_eq_some_iff.1 h).1
  unfold maIndexAddr
  simp only [hu, hs, MA.run, hr, h0, List.length_map, this, and_self, ↓reduceIte, true_and]
end
end Go.Tm
