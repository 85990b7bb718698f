/- More rules: a store of what holds rows of one's own (they are only read from then on); bytes as a string. -/
import Derived.Test.YtohcknmdebahiaaGreatDoorTm36
set_option linter.unusedVariables false
set_option linter.unusedSimpArgs false
namespace Go.Tm
open Go.RowKit

theorem toT_bind {α : Type} (a : A) (k : T → MA α) (st : St) : (a.toT k).run st = ((a.toT MA.ret).run st).bind fun p => (k p.1).run p.2 := by
  cases a with
  | t y => rfl
  | nil => rfl
  | own r =>
    simp only [A.toT, MA.run]
    cases hr : st.rw r with
    | none => rfl
    | some row => cases row <;> rfl
  | _ => rfl
theorem toTs_bindE {α : Type} : ∀ (l : List A) (k : List T → MA α) (st : St), (A.toTs l k).run st = ((A.toTs l MA.ret).run st).bind fun p => (k p.1).run p.2
  | [], k, st => rfl
  | a :: r, k, st => by
    simp only [A.toTs]
    rw [toT_bind a, toT_bind a (fun x => A.toTs r fun xs => MA.ret (x :: xs)), Option.bind_assoc]
    congr 1
    funext p
    rw [toTs_bindE r, toTs_bindE r (fun xs => MA.ret (p.1 :: xs)), Option.bind_assoc]
    rfl
theorem toTs_bind {α : Type} (l : List A) {k : List T → MA α} {st st1 : St} {xs : List T} (h : (A.toTs l MA.ret).run st = some (xs, st1)) : (A.toTs l k).run st = (k xs).run st1 := by
  rw [toTs_bindE, h]; rfl

section
variable {P : Program} {n : Nat} {ls : List Nat} {st st' : St} {p : Nat → Bool} {ρ : Nat → Root} {ops : Array Oper} {l : List Oper} {K : St → Prop} {o : Oper}
/-- A store into an element of a row of one's own, of what may hold rows of one's own. -/
theorem Runs.storeU {α : Type} (f : α → List T) (xs : List α) (r i off : Nat) {y : α} (y' : α) {t e : TypeId} {x1 x2 : Operand} (v : A) {sz m : Nat} (ts : List T) (ho : o.op = .store t x1 x2) (hg : wantG ops st o = some true) (hf : opFits ρ st o = true)
    (h1 : st.eval x1 = some (.elem r sz i off)) (h2 : st.eval x2 = some v) (hm : tsize P t = some m) (hv : (Nat.beq v.cells.length m && v.cells.all A.one) = true) (hz : ((A.toTs (relab (labs P t) v.cells) MA.ret).run st).map Prod.fst = some ts)
    (hr : (orV ((A.toTs (relab (labs P t) v.cells) MA.ret).run st)).rw r = some (.live e sz (xs.map f))) (h : xs[i]? = some y) (hle : Nat.ble (off + m) (f y).length = true) (hy : spl (f y) off ts = f y')
    (hk : Runs P p ρ ops l ((({ orV ((A.toTs (relab (labs P t) v.cells) MA.ret).run st) with rw := upd (orV ((A.toTs (relab (labs P t) v.cells) MA.ret).run st)).rw r (some (.live e sz ((xs.set i y').map f))) } : St)).put o.dst .undef) K) : Runs P p ρ ops (o :: l) st K := by
  simp only [Bool.and_eq_true] at hv
  have hv1 := Nat.eq_of_beq_eq_true hv.1
  have hle' : off + m ≤ (f y).length := by simpa using hle
  obtain ⟨⟨ts', st1⟩, h5, h6⟩ := Option.map_eq_some_iff.1 hz
  cases h6
  rw [h5] at hr hk
  refine Runs.op (x := .undef) hg hf ?_ hk
  simp only [maOf, ho, h1, h2, maStore, hm, hv1, hv.2, and_self, ↓reduceIte]
  rw [toTs_bind _ h5]
  have hr' : st1.rw r = some (.live e sz (xs.map f)) := hr
  simp only [MA.run, hr', List.getElem?_map, h, Option.map_some, hle', ↓reduceIte, hy, List.map_set, orV]
theorem bytesT_map : ∀ xs : List Int, bytesT (xs.map (eInt .u8)) = some xs
  | [] => rfl
  | x :: xs => by simp only [List.map_cons, eInt, bytesT, bytesT_map xs]
/-- Bytes as a string. -/
theorem Runs.bytesStr (xs : List Int) (m : Nat) {y : A} {s t e : TypeId} {x : Operand} (ho : o.op = .convert s t x) (hg : wantG ops st o = some true) (hf : opFits ρ st o = true)
    (hx : st.eval x = some y) (hy : ((y.rows fun m rows => MA.ret (m, rows)).run st).map Prod.fst = some (m, xs.map (eInt .u8))) (hs : P.underlying s = some (.slice e)) (he : P.underlying e = some (.int .u8)) (ht : P.underlying t = some .string)
    (hk : Runs P p ρ ops l (st.put o.dst (.t (.str (strOfNums xs)))) K) : Runs P p ρ ops (o :: l) st K := by
  refine Runs.pure (x := .t (.str (strOfNums xs))) hg hf ?_ hk
  cases y with
  | t z =>
    cases z with
    | sl sz rows =>
      simp only [A.rows, MA.run, Option.map_some, Option.some.injEq, Prod.mk.injEq] at hy
      obtain ⟨rfl, rfl⟩ := hy
      simp only [maOf, ho, hx, hs, ht, he, A.rows, bytesT_map, MA.run]
    | _ => simp [A.rows, MA.run] at hy
  | _ =>
    simp only [maOf, ho, hx, hs, ht, he, rows_of hy, bytesT_map, MA.run]
end
end Go.Tm
