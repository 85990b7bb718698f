/- The operations one by one: what the abstract machine does, the model does. -/
import Derived.Test.YtohcknmdebahiaaGreatDoorTm3
import Derived.Laws.MakeOwn
import Derived.Laws.OwnMore
import Derived.Laws.CopyRow
import Derived.Laws.Tables
set_option linter.unusedVariables false
set_option linter.unusedSimpArgs false
namespace Go.Tm
open Go.RowKit

/-- The run of an operation gives a value, or nothing where a value that nobody reads is told. -/
def Did (P : Program) (o : Oper) (a : Act) (w : World) (v : Value) (w' : World) : Prop :=
  (execOp a.eval o).run P w = .ok (.value v) w' ∨ ((execOp a.eval o).run P w = .ok .skip w' ∧ v = undef)

/-- What holds behind an operation (or a part of one) that left v. -/
structure Aft (E : En) (g : Gh) (st : St) (w : World) (x : A) (st' : St) (v : Value) (g' : Gh) (w' : World) : Prop where
  mem : Mem E g' st' w'
  vr : VR w' g' st'.O st'.R x v
  ext : Ext w w' g g' st.O st.R st'.O st'.R
  tm : st'.tm = st.tm

section
variable {P : Program} {E : En} {g : Gh} {st st' : St} {a : Act} {w : World}

theorem ret_inv {α : Type} {x y : α} {s s' : St} (h : MA.run (.ret x) s = some (y, s')) : y = x ∧ s' = s := by
  simp only [MA.run, Option.some.injEq, Prod.mk.injEq] at h
  exact ⟨h.1.symm, h.2.symm⟩
theorem fail_inv {α : Type} {y : α} {s s' : St} (h : MA.run .fail s = some (y, s')) : False := by simp [MA.run] at h

theorem Aft.of_ret {x y : A} {v : Value} (hM : Mem E g st w) (h : MA.run (.ret x) st = some (y, st')) (hv : VR w g st.O st.R x v) : Aft E g st w y st' v g w := by
  obtain ⟨rfl, rfl⟩ := ret_inv h
  exact ⟨hM, hv, Ext.refl _ _ _ _, rfl⟩

/-! ### operands -/
theorem ofValue1_VR {v : Value} {x : A} (h : A.ofValue1 v = some x) (w : World) (g : Gh) (O R : Nat → Prop) : VR w g O R x v ∧ x.one = true := by
  unfold A.ofValue1 at h
  split at h
  · cases h; exact ⟨.t _ _ (.int _ _), rfl⟩
  · cases h; exact ⟨.t _ _ (.bool _), rfl⟩
  · cases h; exact ⟨.t _ _ (.str _), rfl⟩
  · cases h; exact ⟨.nil, rfl⟩
  · cases h; exact ⟨.t _ _ .nilf, rfl⟩
  · cases h

theorem allSome_spec {α : Type} {l : List (Option α)} {r : List α} (h : allSome l = some r) : l = r.map some := by
  induction l generalizing r with
  | nil => simp [allSome] at h; subst h; rfl
  | cons x l ih =>
    unfold allSome at h
    split at h
    · rename_i x' r' h2
      cases h
      rw [ih h2]
      rfl
    · cases h
theorem allSome_get {α β : Type} {f : α → Option β} {l : List α} {r : List β} (h : allSome (l.map f) = some r) :
    l.length = r.length ∧ ∀ (i : Nat) (y : β), r[i]? = some y → ∃ x, l[i]? = some x ∧ f x = some y := by
  have h2 := allSome_spec h
  have hl : l.length = r.length := by have := congrArg List.length h2; simpa using this
  refine ⟨hl, fun i y hy => ?_⟩
  have hi : i < r.length := (List.getElem?_eq_some_iff.1 hy).1
  have h3 := congrArg (fun q : List (Option β) => q[i]?) h2
  simp only [List.getElem?_map, hy, Option.map_some] at h3
  rw [List.getElem?_eq_getElem (by omega)] at h3
  exact ⟨_, List.getElem?_eq_getElem (by omega), by simpa using h3⟩

theorem ofValue_VR {v : Value} {x : A} (h : A.ofValue v = some x) (w : World) (g : Gh) (O R : Nat → Prop) : VR w g O R x v := by
  unfold A.ofValue at h
  split at h
  · rename_i cs
    split at h
    · rename_i l hl
      cases h
      obtain ⟨h1, h2⟩ := allSome_get hl
      have := VR.agg (w := w) (g := g) (O := O) (R := R) l cs.toList h1.symm (fun i x v hx hv => by
        obtain ⟨u, hu, hf⟩ := h2 i x hx
        rw [hu] at hv
        cases hv
        exact (ofValue1_VR hf w g O R).1)
      simpa using this
    · cases h
  · cases h; exact .undef _
  · exact (ofValue1_VR h w g O R).1

theorem eval_VR {n : Nat} (hS : Sim E g n st a w) {x : Operand} {y : A} (h : st.eval x = some y) : VR w g st.O st.R y (a.eval x) := by
  cases x with
  | tmp t =>
    simp only [St.eval, Option.some.injEq] at h
    subst h
    by_cases ht : t < n
    · obtain ⟨v, hv, hr⟩ := hS.tm t ht
      have : a.eval (.tmp t) = v := by simp [Act.eval, Array.getD_eq_getD_getElem?, hv]
      rw [this]
      exact hr
    · have hn : n ≤ t := Nat.le_of_not_lt ht
      rw [hS.und t hn]
      exact .undef _
  | const v => exact ofValue_VR h _ _ _ _
  | global g => simp [St.eval] at h
  | func f =>
    simp only [St.eval, Option.some.injEq] at h
    subst h
    exact .clo f [] [] rfl (by simp)

/-- The cells of a value. -/
theorem VR.cells {x : A} {v : Value} (hM : Mem E g st w) (h : VR w g st.O st.R x v) (h1 : x.cells.all A.one = true) : v.cells.size = x.cells.length ∧
    (∀ u ∈ v.cells.toList, u.oneCell' = true) ∧ ∀ (j : Nat) (y : A), x.cells[j]? = some y → y.one = true ∧ ∃ u, v.cells[j]? = some u ∧ VR w g st.O st.R y u := by
  have key : ∀ {x : A} {v : Value}, VR w g st.O st.R x v → x.one = true → x.cells = [x] → v.cells.size = x.cells.length ∧ (∀ u ∈ v.cells.toList, u.oneCell' = true) ∧
      ∀ (j : Nat) (y : A), x.cells[j]? = some y → y.one = true ∧ ∃ u, v.cells[j]? = some u ∧ VR w g st.O st.R y u := by
    intro x v h hx hc
    obtain ⟨h2, h3⟩ := hM.one h hx
    rw [hc, h3]
    refine ⟨rfl, by simp [h2], fun j y hy => ?_⟩
    cases j with
    | zero => simp at hy; subst hy; exact ⟨hx, v, rfl, h⟩
    | succ j => simp at hy
  cases h with
  | agg l vs hl h =>
    refine ⟨by simp [Value.cells, A.cells, hl], fun u hu => ?_, fun j y hy => ?_⟩
    · obtain ⟨j, hj, rfl⟩ := List.mem_iff_getElem.1 hu
      have hj' : j < l.length := by simp [Value.cells] at hj; omega
      have hy : l[j].one = true := by
        simp only [A.cells, List.all_eq_true] at h1
        exact h1 _ (List.getElem_mem hj')
      exact (hM.one (h j l[j] _ (List.getElem?_eq_getElem hj') (by simp [Value.cells])) hy).1
    · simp only [A.cells] at hy h1
      have hj : j < l.length := (List.getElem?_eq_some_iff.1 hy).1
      refine ⟨?_, vs[j], by simp [Value.cells, List.getElem?_eq_getElem (show j < vs.length by omega)], h j y _ hy (List.getElem?_eq_getElem (by omega))⟩
      simp only [List.all_eq_true] at h1
      exact h1 _ (List.mem_of_getElem? hy)
  | tup => simp [A.cells, A.one] at h1
  | undef => simp [A.cells, A.one] at h1
  | t x v h => exact key (.t x v h) rfl rfl
  | nil => exact key .nil rfl rfl
  | own r hr => exact key (.own r hr) rfl rfl
  | obj s off hs => exact key (.obj s off hs) rfl rfl
  | elem r sz i off b n c hr he => exact key (.elem r sz i off b n c hr he) rfl rfl
  | sub r sz lo n c c' ad a' hr he hp => exact key (.sub r sz lo n c c' ad a' hr he hp) rfl rfl
  | fadr cells b off u hF hx hr => exact key (.fadr cells b off u hF hx hr) rfl rfl
  | nn sz rows v h hv => exact key (.nn sz rows v h hv) rfl rfl
  | clo f caps vs hl h => exact key (.clo f caps vs hl h) rfl rfl
  | ext s x v hs h => exact key (.ext s x v hs h) rfl rfl
  | shp x v h => exact key (.shp x v h) rfl rfl
  | exa s cells b off u hs hD hx hr => exact key (.exa s cells b off u hs hD hx hr) rfl rfl

/-! ### a new variable -/
theorem mkOb_run {d : Nat} {cells : List A} {x : A} (h : (mkOb d cells).run st = some (x, st')) : st.ob d = none ∧ cells.all A.one = true ∧ x = .obj d 0 ∧ st' = { st with ob := upd st.ob d (some cells) } := by
  unfold mkOb at h
  simp only [MA.run] at h
  cases ho : st.ob d with
  | some c => simp [ho, MA.run] at h
  | none =>
    simp only [ho] at h
    split at h
    · rename_i h1
      simp only [MA.run, Option.some.injEq, Prod.mk.injEq] at h
      exact ⟨rfl, h1, h.1.symm, h.2.symm⟩
    · simp [MA.run] at h

theorem mkOb_aft {d : Nat} {cells : List A} {x : A} (hM : Mem E g st w) (e : TypeId) (vs : Array Value) (hl : cells.length ≤ vs.size)
    (hv : ∀ (j : Nat) (y : A), cells[j]? = some y → y.one = true ∧ ∃ u, vs[j]? = some u ∧ VR w g st.O st.R y u) (h : (mkOb d cells).run st = some (x, st')) :
    ∃ g', Aft E g st w x st' (.pointer (some ⟨w.heap.size, 0, none⟩)) g' (w.alloc (.cells vs e)) := by
  obtain ⟨hd, h1, rfl, rfl⟩ := mkOb_run h
  obtain ⟨hM', hE⟩ := hM.new_ob d hd cells vs e hl hv
  refine ⟨_, hM', ?_, hE, rfl⟩
  have := VR.obj (w := w.alloc (.cells vs e)) (g := { g with ob := upd g.ob d w.heap.size }) (O := ({ st with ob := upd st.ob d (some cells) } : St).O) (R := ({ st with ob := upd st.ob d (some cells) } : St).R) d 0 (O_upd.2 (.inl rfl))
  simpa only [upd_eq] using this

theorem tzero_run {e : TypeId} {z : List A} (h : tzero P e = some z) : ∃ i zv, P.info? e = some i ∧ i.zero = some zv ∧ zv.cells.size = z.length ∧
    (∀ (w : World) (g : Gh) (O R : Nat → Prop) (j : Nat) (y : A), z[j]? = some y → y.one = true ∧ ∃ u, zv.cells[j]? = some u ∧ VR w g O R y u) := by
  unfold tzero tinfo at h
  cases hi : P.info? e with
  | none => simp [hi] at h
  | some i =>
    rw [hi] at h
    cases hz : i.zero with
    | none => simp [hz] at h
    | some zv =>
      simp only [Option.map_some, hz] at h
      obtain ⟨h1, h2⟩ := allSome_get h
      refine ⟨i, zv, rfl, hz, by simpa using h1, fun w g O R j y hy => ?_⟩
      obtain ⟨u, hu, hf⟩ := h2 j y hy
      obtain ⟨hv, ho⟩ := ofValue1_VR hf w g O R
      exact ⟨ho, u, by simpa using hu, hv⟩

theorem tsize_run {e : TypeId} {n : Nat} (h : tsize P e = some n) : ∃ i, P.info? e = some i ∧ i.size = n := by
  unfold tsize tinfo at h
  cases hi : P.info? e with
  | none => simp [hi] at h
  | some i => simp [hi] at h; exact ⟨i, rfl, h⟩
theorem tinfo_run {e : TypeId} {z : Option Value} {n by_ : Nat} (h : tinfo P e = some (z, n, by_)) : ∃ i, P.info? e = some i ∧ i.zero = z ∧ i.size = n ∧ i.bytes = by_ := by
  unfold tinfo at h
  cases hi : P.info? e with
  | none => simp [hi] at h
  | some i => simp [hi] at h; exact ⟨i, rfl, h.1, h.2.1, h.2.2⟩

theorem did_alloc {o : Oper} {e : TypeId} {d : Nat} {z : List A} {x : A} {n : Nat} (hS : Sim E g n st a w) (ho : o.op = .alloc e) (hz : tzero P e = some z) (h : (mkOb d z).run st = some (x, st')) :
    ∃ v g' w', Did P o a w v w' ∧ Aft E g st w x st' v g' w' := by
  obtain ⟨i, zv, hi, hzv, hsz, hv⟩ := tzero_run hz
  obtain ⟨g', hA⟩ := mkOb_aft hS.mem e zv.cells (by omega) (hv w g _ _) h
  refine ⟨_, g', _, .inl ?_, hA⟩
  simp [execOp, ho, Instr.alloc, zeroValue, typeInfo, hi, hzv, newVar, newRow, newObj, Sem.run]

theorem did_box {o : Oper} {e : TypeId} {d : Nat} {y : Operand} {x v : A} {n : Nat} (hS : Sim E g n st a w) (ho : o.op = .box e y) (hv : VR w g st.O st.R v (a.eval y)) (h : (mkOb d v.cells).run st = some (x, st')) :
    ∃ v g' w', Did P o a w v w' ∧ Aft E g st w x st' v g' w' := by
  obtain ⟨h1, h2, h3⟩ := hv.cells hS.mem (mkOb_run h).2.1
  obtain ⟨g', hA⟩ := mkOb_aft hS.mem e (a.eval y).cells (by omega) h3 h
  refine ⟨_, g', _, .inl ?_, hA⟩
  simp [execOp, ho, Instr.box, newVar, newRow, newObj, Sem.run]
end
end Go.Tm
