/- A part of a row of one's own written over: copy, clear. -/
import Derived.Test.YtohcknmdebahiaaGreatDoorTm38
set_option linter.unusedVariables false
set_option linter.unusedSimpArgs false
namespace Go.Tm
open Go.RowKit
def overL {α : Type} (xs ys : List α) (lo : Nat) : List α := xs.take lo ++ ys.take (xs.length - lo) ++ xs.drop (lo + min ys.length (xs.length - lo))
theorem overL_map {α : Type} (f : α → List T) (xs ys : List α) (lo : Nat) : overR (xs.map f) (ys.map f) lo = (overL xs ys lo).map f := by
  simp only [overR, overL, List.map_append, List.map_take, List.map_drop, List.length_map]
def subOK (i n : Int) : Bool := decide (0 ≤ i) && decide (i ≤ n)
theorem sub_le {i : Int} {n : Nat} (h : subOK i n = true) : i.toNat ≤ n := by
  simp only [subOK, Bool.and_eq_true, decide_eq_true_eq] at h; omega
section
variable {P : Program} {n : Nat} {ls : List Nat} {st st' : St} {p : Nat → Bool} {ρ : Nat → Root} {ops : Array Oper} {l : List Oper} {K : St → Prop} {o : Oper}
theorem Runs.subO {α : Type} (f : α → List T) (xs : List α) (r sz : Nat) (i : Int) {t e e' : TypeId} {x : Operand} {lo : Option Operand} {alo : Option A} (ho : o.op = .slice t x lo none none) (hg : wantG ops st o = some true) (hf : opFits ρ st o = true) (hx : st.eval x = some (.own r))
    (hlo : evO st.eval lo = some alo) (hl : optN 0 alo = some i) (hr : st.rw r = some (.live e' sz (xs.map f))) (hu : P.underlying t = some (.slice e)) (hs : tsize P e = some sz) (hw : isWin ρ o.dst = true) (h : subOK i xs.length = true)
    (hk : Runs P p ρ ops l (st.put o.dst (.sub r sz i.toNat)) K) : Runs P p ρ ops (o :: l) st K := by
  simp only [subOK, Bool.and_eq_true, decide_eq_true_eq] at h
  refine Runs.pure (x := .sub r sz i.toNat) hg hf ?_ hk
  have hhi : evO st.eval (none : Option Operand) = some none := rfl
  simp only [maOf, ho, hx, hlo, hhi, cutW, hw, Option.isNone_none, Bool.and_self, Bool.true_or, maSub, hu, hl, hs, MA.run, hr, List.length_map, h.1, h.2, and_self, ↓reduceIte]
theorem Runs.copyO {α : Type} (f : α → List T) (xs ys : List α) (r lo m : Nat) {t t' e e' : TypeId} {a b : Operand} {y : A} {args : Array Operand} {ts : Array TypeId} (ho : o.op = .call { callee := .builtin .copy, args, argTypes := ts }) (hargs : args.toList = [a, b]) (hts : ts.toList = [t, t']) (hg : wantG ops st o = some true) (hf : opFits ρ st o = true)
    (ha : st.eval a = some (.sub r 1 lo)) (hb : st.eval b = some y) (hy : ((y.rows fun m rows => MA.ret (m, rows)).run st).map Prod.fst = some (m, ys.map f)) (hm : m = 1 ∨ ys.map f = []) (hr : st.rw r = some (.live e' 1 (xs.map f))) (hu : P.underlying t = some (.slice e)) (hs : tsize P e = some 1) (h : lo ≤ xs.length)
    (hk : Runs P p ρ ops l ((({ st with rw := upd st.rw r (some (.live e' 1 ((overL xs ys lo).map f))) } : St)).put o.dst (.t (.int .i64 (min ys.length (xs.length - lo) : Nat)))) K) : Runs P p ρ ops (o :: l) st K := by
  refine Runs.op (x := .t (.int .i64 (min ys.length (xs.length - lo) : Nat))) hg hf ?_ hk
  simp only [maOf, ho, hargs, ha, hb, hts, maCopy, hu, hs, and_self, ↓reduceIte]
  rw [rows_of hy]
  simp only [hm, ↓reduceIte, MA.run, hr, List.length_map, h, and_self, overL_map]
theorem Runs.clearO {α : Type} (f : α → List T) (xs : List α) (y : α) (z : T) (r lo : Nat) {t e e' : TypeId} {a : Operand} {args : Array Operand} {ts : Array TypeId} (ho : o.op = .call { callee := .builtin .clear, args, argTypes := ts }) (hargs : args.toList = [a]) (hts : ts.toList = [t]) (hg : wantG ops st o = some true) (hf : opFits ρ st o = true)
    (ha : st.eval a = some (.sub r 1 lo)) (hr : st.rw r = some (.live e' 1 (xs.map f))) (hu : P.underlying t = some (.slice e)) (hs : tsize P e = some 1) (hz : tzero P e = some [.t z]) (hfy : f y = [z]) (h : lo ≤ xs.length)
    (hk : Runs P p ρ ops l ((({ st with rw := upd st.rw r (some (.live e' 1 ((xs.take lo ++ List.replicate (xs.length - lo) y).map f))) } : St)).put o.dst (.tup [])) K) : Runs P p ρ ops (o :: l) st K := by
  refine Runs.op (x := .tup []) hg hf ?_ hk
  have e1 : (xs.map f).take lo ++ List.replicate (xs.length - lo) [z] = (xs.take lo ++ List.replicate (xs.length - lo) y).map f := by
    rw [List.map_append, List.map_replicate, hfy, List.map_take]
  simp only [maOf, ho, hargs, ha, hts, maClear, hu, hs, hz, and_self, ↓reduceIte, MA.run, hr, List.length_map, h, e1]
end
end Go.Tm
