/- The last words for printed walks. -/
import Derived.Test.YtohcknmdebahiaaGreatDoorTm32
import Derived.Test.YtohcknmdebahiaaGreatDoorTm27
set_option linter.unusedVariables false
set_option linter.unusedSimpArgs false
namespace Go.Tm
open Go.RowKit

section
variable {P : Program} {n : Nat} {ls : List Nat} {Q : Exit → St → Prop} {N : St → Prop} {st st' : St} {p : Nat → Bool} {ρ : Nat → Root} {ops : Array Oper} {l : List Oper} {K : St → Prop} {o : Oper}

theorem thenN (h : N st) : thenQ N Q .normal st := h
theorem thenE {id : Nat} (h : Q (.exit id) st) : thenQ N Q (.exit id) st := h
theorem thenR (h : Q .ret st) : thenQ N Q .ret st := h
theorem blkN {id : Nat} (h : Q .normal st) : blkQ id Q .normal st := h
theorem blkR {id : Nat} (h : Q .ret st) : blkQ id Q .ret st := h
theorem blkE {id : Nat} (h : Q .normal st) : blkQ id Q (.exit id) st := by
  show bif Nat.beq id id then Q .normal st else Q (.exit id) st
  rw [Nat.beq_refl]
  exact h
theorem blkX {id id' : Nat} (hne : Nat.beq id' id = false) (h : Q (.exit id') st) : blkQ id Q (.exit id') st := by
  show bif Nat.beq id' id then Q .normal st else Q (.exit id') st
  rw [hne]
  exact h
theorem Wp.condT {o : Operand} {x y : Code} (ho : st.eval o = some (.t (.bool true))) (h : Wp P n ls x Q st) : Wp P n ls (.cond o x y) Q st := Wp.cond ho h
theorem Wp.condF {o : Operand} {x y : Code} (ho : st.eval o = some (.t (.bool false))) (h : Wp P n ls y Q st) : Wp P n ls (.cond o x y) Q st := Wp.cond ho h

theorem CallOK.of_bodyK {fn : Func} {c : Code} {f : FuncId} {args : List V} {m : Bool} {res : V} {outs : List (List C)} (as : List A)
    (hf : P.funcs[f]? = some fn) (hb : fn.body = some c) (hnm : (fn.name == "runtime.NumGoroutine") = false) (hle : Nat.ble as.length fn.ntmps = true) (ht : resTmps fn.ntmps fn = true)
    (ha : ((argsA 0 args MA.ret).run St.empty).map Prod.fst = some as) (hl : lentArgs 0 args as = true)
    (h : Wp P fn.ntmps (lentSlots 0 args) c (RetTo P m fn args res outs) (St.start as (orV ((argsA 0 args MA.ret).run St.empty)))) : CallOK P f args res outs := by
  obtain ⟨⟨as', st0⟩, h1, h2⟩ := Option.map_eq_some_iff.1 ha
  cases h2
  rw [h1] at h
  exact CallOK.of_body hf hb hnm (by simpa using hle) ht h1 hl h

theorem Runs.lenT {α : Type} (f : α → List T) (xs : List α) (m : Nat) {y : A} {x : Operand} {t e : TypeId} {args : Array Operand} {ts : Array TypeId} (ho : o.op = .call { callee := .builtin .len, args, argTypes := ts }) (hargs : args.toList = [x]) (hts : ts.toList = [t]) (hg : wantG ops st o = some true) (hf : opFits ρ st o = true)
    (hx : st.eval x = some y) (hy : ((y.rows fun m rows => MA.ret (m, rows)).run st).map Prod.fst = some (m, xs.map f)) (hu : P.underlying t = some (.slice e)) (hk : Runs P p ρ ops l (st.put o.dst (.t (.int .i64 xs.length))) K) : Runs P p ρ ops (o :: l) st K := by
  refine Runs.pure (x := .t (.int .i64 xs.length)) hg hf ?_ hk
  have hl : (maLen P t y).run st = (MA.ret (.t (.int .i64 xs.length)) : MA A).run st := by
    unfold maLen
    rw [hu]
    split <;> rename_i h1 <;> first | (cases h1; done) | skip
    · rename_i s z rs
      cases s with
      | true => cases hy
      | false =>
        simp only [A.rows] at hy
        split at hy
        · simp [MA.run] at hy; rw [hy.2]; simp
        · simp [MA.run] at hy
    · rw [rows_of hy]; simp
    · rename_i h2 _; exact absurd rfl (h2 _)
  simp only [maOf, ho, hargs, hx, hts]
  rw [hl]; rfl
/-- The length of a foreign slice. -/
theorem Runs.lenX {α : Type} (f : α → List T) (xs : List α) (s : Bool) (m : Nat) {x : Operand} {t e : TypeId} {args : Array Operand} {ts : Array TypeId} (ho : o.op = .call { callee := .builtin .len, args := args, argTypes := ts }) (hargs : args.toList = [x]) (hts : ts.toList = [t]) (hg : wantG ops st o = some true) (hf : opFits ρ st o = true)
    (hx : st.eval x = some (.ext s (.sl m (xs.map f)))) (hu : P.underlying t = some (.slice e)) (hk : Runs P p ρ ops l (st.put o.dst (.t (.int .i64 xs.length))) K) : Runs P p ρ ops (o :: l) st K := by
  refine Runs.pure (x := .t (.int .i64 xs.length)) hg hf ?_ hk
  simp only [maOf, ho, hargs, hx, hts, maLen, hu, MA.run, List.length_map]
/-- Hints, written out. -/
def rhoOf (l : List (Nat × Root)) (t : Nat) : Root := match look l t with | some r => r | none => .any
def pOf (l : List Nat) (s : Nat) : Bool := l.contains s
end
end Go.Tm
