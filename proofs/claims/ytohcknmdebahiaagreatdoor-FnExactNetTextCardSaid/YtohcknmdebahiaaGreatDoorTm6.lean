/- Struct values, rows that are made, appends, slices, lengths, addresses, numbers. -/
import Derived.Test.YtohcknmdebahiaaGreatDoorTm5
set_option linter.unusedVariables false
set_option linter.unusedSimpArgs false
namespace Go.Tm
open Go.RowKit

section
variable {P : Program} {E : En} {g : Gh} {st st' : St} {a : Act} {w : World}

/-- An operation that gives a value and turns nothing. -/
theorem pureDid {o : Oper} {x : A} {v : Value} (hM : Mem E g st w) (hr : (execOp a.eval o).run P w = .ok (.value v) w) (hv : VR w g st.O st.R x v) {y : A} (h : MA.run (.ret x) st = some (y, st')) :
    ∃ u g' w', Did P o a w u w' ∧ Aft E g st w y st' u g' w' := ⟨v, g, w, .inl hr, Aft.of_ret hM h hv⟩

/-! ### build -/
theorem fieldOf_run {s : TypeId} {f off : Nat} {t : TypeId} (h : fieldOf P s f = some (off, t)) :
    ∃ fs fl n i, P.underlying s = some (.struct fs) ∧ fs[f]? = some fl ∧ fl.offset = off ∧ fl.type = t ∧ tsize P t = some n ∧ n ≠ 0 ∧ P.info? t = some i ∧ i.size = n := by
  unfold fieldOf at h
  split at h
  rotate_left
  · cases h
  rename_i fs hu
  split at h
  rotate_left
  · cases h
  rename_i fl hf
  split at h
  rotate_left
  · cases h
  rename_i n hn
  split at h
  · cases h
  rename_i h0
  simp only [Option.some.injEq, Prod.mk.injEq] at h
  obtain ⟨rfl, rfl⟩ := h
  obtain ⟨i, hi, hs⟩ := tsize_run hn
  exact ⟨fs, fl, n, i, hu, hf, rfl, rfl, hn, h0, hi, hs⟩

theorem sizesOf_run {w : World} : ∀ {fs : List Field} {l : List (Nat × Nat)}, sizesOf P fs = some l → (fs.mapM (m := Sem) fun f => do pure (f.offset, ← sizeOf f.type)).run P w = .ok l w
  | [], l, h => by simp [sizesOf] at h; subst h; simp
  | f :: r, l, h => by
    unfold sizesOf at h
    split at h
    · rename_i n l' hn hl
      cases h
      obtain ⟨i, hi, hs⟩ := tsize_run hn
      have h1 : (sizeOf f.type).run P w = .ok n w := by simp [sizeOf, typeInfo, hi, hs]
      have h2 := sizesOf_run (w := w) hl
      simp only [List.mapM_cons, Sem.run_bind, h1, Result.andThen_ok, Sem.run_pure, h2]
    · cases h

theorem foldl_set (cs : List Value) (off : Nat) : ∀ (k : Nat) (arr : Array Value), off + k + cs.length ≤ arr.size →
    ((cs.zipIdx k).foldl (fun cs (x : Value × Nat) => cs.setIfInBounds (off + x.2) x.1) arr).toList = spl arr.toList (off + k) cs := by
  induction cs with
  | nil => intro k arr h; simp [spl]
  | cons c cs ih =>
    intro k arr h
    simp only [List.zipIdx_cons, List.foldl_cons]
    simp only [List.length_cons] at h
    rw [ih (k + 1) _ (by simp; omega)]
    apply List.ext_getElem?
    intro j
    unfold spl
    simp only [Array.toList_setIfInBounds, List.append_assoc, List.getElem?_append, List.length_take, List.length_set, Array.length_toList, List.getElem?_take, List.getElem?_drop, List.getElem?_set, List.length_cons]
    repeat' split
    all_goals first | rfl | omega | skip
    all_goals first
      | (congr 1; omega)
      | (rw [show j - min (off + k) arr.size = 0 by omega]; rfl)
      | (rw [show j - min (off + k) arr.size = (j - min (off + (k + 1)) arr.size) + 1 by omega]; rfl)
      | skip

/-- Cells side by side. -/
def Cs (w : World) (g : Gh) (O R : Nat → Prop) (cs : List A) (arr : Array Value) : Prop :=
  arr.size = cs.length ∧ ∀ (j : Nat) (x : A), cs[j]? = some x → x.one = true ∧ ∃ v, arr[j]? = some v ∧ VR w g O R x v

theorem Cs.spl {cs ds : List A} {arr brr crr : Array Value} {off : Nat} {O R : Nat → Prop} (h : Cs w g O R cs arr) (k : Cs w g O R ds brr) (hle : off + ds.length ≤ cs.length) (he : crr.toList = spl arr.toList off brr.toList) : Cs w g O R (Go.Tm.spl cs off ds) crr := by
  have h1 := spl_get (cs := ds) hle
  have hb : brr.toList.length = ds.length := by rw [Array.length_toList]; exact k.1
  have ha : arr.toList.length = cs.length := by rw [Array.length_toList]; exact h.1
  have h2 := spl_get (l := arr.toList) (cs := brr.toList) (off := off) (by omega)
  have hA : arr.size = cs.length := h.1
  have hB : brr.size = ds.length := k.1
  refine ⟨by rw [h1.1, ← Array.length_toList, he, h2.1, ha], fun j x hj => ?_⟩
  rw [← Array.getElem?_toList, he]
  rcases h1.2 j x hj with ⟨h3, h4⟩ | ⟨h3, h4⟩
  · obtain ⟨ho, v, hv, hr⟩ := k.2 _ x h4
    refine ⟨ho, v, ?_, hr⟩
    have hjl : j - off < brr.toList.length := by rw [hb]; exact (List.getElem?_eq_some_iff.1 h4).1
    have ht : (arr.toList.take off).length = off := by simp; omega
    unfold Go.Tm.spl
    rw [List.append_assoc, List.getElem?_append_right (by omega), ht, List.getElem?_append_left hjl, Array.getElem?_toList]
    exact hv
  · obtain ⟨ho, v, hv, hr⟩ := h.2 _ x h3
    refine ⟨ho, v, ?_, hr⟩
    unfold Go.Tm.spl
    rcases h4 with h4 | h4
    · rw [List.append_assoc, List.getElem?_append_left (by simp; omega), List.getElem?_take, if_pos h4, Array.getElem?_toList]
      exact hv
    · have : (arr.toList.take off ++ brr.toList).length = off + ds.length := by simp; omega
      rw [List.getElem?_append_right (by omega), this, List.getElem?_drop, hb, show off + ds.length + (j - (off + ds.length)) = j by omega, Array.getElem?_toList]
      exact hv

theorem VR.cs {x : A} {v : Value} (hM : Mem E g st w) (h : VR w g st.O st.R x v) (h1 : x.cells.all A.one = true) : Cs w g st.O st.R x.cells v.cells := ⟨(h.cells hM h1).1, (h.cells hM h1).2.2⟩

theorem fill_run (hM : Mem E g st w) (pl : List (Nat × Nat)) : ∀ {ps : List (Nat × A)} {vs : List (Nat × Value)} {cs cs' : List A} {arr : Array Value}, fillA pl cs ps = some cs' → vs.length = ps.length →
    (∀ (i : Nat) (p : Nat × A), ps[i]? = some p → ∃ v, vs[i]? = some (p.1, v) ∧ VR w g st.O st.R p.2 v) → Cs w g st.O st.R cs arr → ∃ arr', Instr.fill (fun i => pl[i]?) arr vs = some arr' ∧ Cs w g st.O st.R cs' arr'
  | [], vs, cs, cs', arr, h, hl, hv, hc => by
    simp [fillA] at h; subst h
    have : vs = [] := List.eq_nil_of_length_eq_zero hl
    subst this
    exact ⟨arr, rfl, hc⟩
  | (f, x) :: ps, vs, cs, cs', arr, h, hl, hv, hc => by
    unfold fillA at h
    split at h
    rotate_left
    · cases h
    rename_i off n hp
    split at h
    rotate_left
    · cases h
    rename_i hh
    obtain ⟨h1, h2, h3⟩ := hh
    obtain ⟨v0, vs, rfl⟩ : ∃ v vs', vs = v :: vs' := by
      cases vs with
      | nil => simp at hl
      | cons v vs => exact ⟨v, vs, rfl⟩
    obtain ⟨v, hv0, hr⟩ := hv 0 _ rfl
    simp at hv0
    subst hv0
    have hcs := hr.cs hM h3
    have hsz : v.cells.size = n := by rw [hcs.1]; exact h1
    have hfold : (v.cells.zipIdx.foldl (fun cs (c, j) => cs.setIfInBounds (off + j) c) arr).toList = spl arr.toList off v.cells.toList := by
      have := foldl_set v.cells.toList off 0 arr (by have hA := hcs.1; have hB := hc.1; rw [Array.length_toList]; omega)
      rw [Nat.add_zero] at this
      rw [← this]
      congr 1
      rw [← Array.foldl_toList]
      simp
    obtain ⟨arr', h4, h5⟩ := fill_run hM pl h (by simpa using hl) (fun i p hp => by simpa using hv (i + 1) p (by simpa using hp)) (hc.spl hcs (by omega) hfold)
    refine ⟨arr', ?_, h5⟩
    have hle : ¬ off + v.cells.size > arr.size := by rw [hsz, hc.1]; omega
    simp only [Instr.fill, hp, hsz, ne_eq, not_true_eq_false, decide_false, Bool.false_or]
    rw [if_neg (by rw [← hsz]; simpa using hle)]
    exact h4

theorem parts_get {ev : Operand → Option A} {parts : Array (Nat × Operand)} {ps : List (Nat × A)} (h : allSome (parts.toList.map fun (i, x) => (ev x).map fun v => (i, v)) = some ps) (hev : ∀ x y, ev x = some y → VR w g st.O st.R y (a.eval x)) :
    (parts.map fun (i, x) => (i, a.eval x)).toList.length = ps.length ∧ ∀ (i : Nat) (p : Nat × A), ps[i]? = some p → ∃ v, (parts.map fun (i, x) => (i, a.eval x)).toList[i]? = some (p.1, v) ∧ VR w g st.O st.R p.2 v := by
  obtain ⟨h1, h2⟩ := allSome_get h
  refine ⟨by simp [← h1], fun i p hp => ?_⟩
  obtain ⟨⟨k, x⟩, hx, hf⟩ := h2 i p hp
  simp only [Option.map_eq_some_iff] at hf
  obtain ⟨y, hy, rfl⟩ := hf
  rw [Array.getElem?_toList] at hx
  exact ⟨a.eval x, by simp [hx], hev x y hy⟩

theorem tzero_cs {t : TypeId} {z : List A} (h : tzero P t = some z) : ∃ i zv, P.info? t = some i ∧ i.zero = some zv ∧ ∀ (w : World) (g : Gh) (O R : Nat → Prop), Cs w g O R z zv.cells := by
  obtain ⟨i, zv, h1, h2, h3, h4⟩ := tzero_run h
  exact ⟨i, zv, h1, h2, fun w g O R => ⟨h3, h4 w g O R⟩⟩

theorem Cs.agg {cs : List A} {arr : Array Value} {O R : Nat → Prop} (h : Cs w g O R cs arr) : VR w g O R (.agg cs) (.agg arr) := by
  have := VR.agg (w := w) (g := g) (O := O) (R := R) cs arr.toList (by rw [Array.length_toList]; exact h.1.symm) (fun i x v hx hv => by
    obtain ⟨_, u, hu, hr⟩ := h.2 i x hx
    rw [Array.getElem?_toList, hu] at hv
    cases hv
    exact hr)
  simpa using this

theorem did_build {o : Oper} {t : TypeId} {parts : Array (Nat × Operand)} {z : List A} {pl : List (Nat × Nat)} {ps : List (Nat × A)} {cs : List A} {x : A} {n : Nat} (hS : Sim E g n st a w) (ho : o.op = .build t parts)
    (hz : tzero P t = some z) (hp : placesOf P t = some pl) (hps : allSome (parts.toList.map fun (i, x) => (st.eval x).map fun v => (i, v)) = some ps) (hf : fillA pl z ps = some cs) (h : MA.run (.ret (.agg cs)) st = some (x, st')) :
    ∃ u g' w', Did P o a w u w' ∧ Aft E g st w x st' u g' w' := by
  obtain ⟨i, zv, hi, hzv, hC⟩ := tzero_cs hz
  obtain ⟨h1, h2⟩ := parts_get (a := a) hps (fun x y h => eval_VR hS h)
  obtain ⟨arr', h3, h4⟩ := fill_run hS.mem pl hf h1 h2 (hC w g _ _)
  unfold placesOf at hp
  split at hp
  rotate_left
  · cases hp
  rename_i fs hu
  refine pureDid hS.mem ?_ h4.agg h
  have hm : (fs.mapM (m := Sem) fun f => do pure (f.offset, ← sizeOf f.type)).run P w = .ok pl.toArray w := by
    rw [← Array.toArray_toList (xs := fs), List.mapM_toArray]
    have := sizesOf_run (w := w) hp
    simp only [Sem.run_map, this, Result.andThen_ok]
  have h3' : Instr.fill (fun i => pl.toArray[i]?) zv.cells (parts.map fun (i, x) => (i, a.eval x)).toList = some arr' := by simpa using h3
  simp only [execOp, ho, Instr.build, zeroValue, typeInfo, Sem.run_bind, program, Sem.run, hi, hzv, Sem.run_pure, Result.andThen_ok, run_underlying hu, hm, h3']
end
end Go.Tm
