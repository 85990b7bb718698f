/- What a row's reading of its arguments says in trees: every value that is read at a type is the cells of some x of the type's Lean form. -/
import Derived.Test.YtohcknmdebahiaaGreatDoorTm33
import Derived.ChangeOld
import Derived.ChangeArms
import Derived.Carry
import Derived.OpenShut
set_option linter.unusedVariables false
set_option linter.unusedSimpArgs false
namespace Go.Tm
open Go.RowKit Go.ChangeShapes

inductive RdL (w : World) (F : Nat → Prop) : List T → List Value → Prop
  | nil : RdL w F [] []
  | cons (x : T) (v : Value) (xs : List T) (vs : List Value) (h : Rd w F x v) (hs : RdL w F xs vs) : RdL w F (x :: xs) (v :: vs)
theorem RdL.length {w : World} {F : Nat → Prop} {xs : List T} {vs : List Value} (h : RdL w F xs vs) : xs.length = vs.length := by
  induction h with
  | nil => rfl
  | cons x v xs vs h hs ih => simp [ih]
theorem RdL.get {w : World} {F : Nat → Prop} {xs : List T} {vs : List Value} (h : RdL w F xs vs) : ∀ (j : Nat) (x : T), xs[j]? = some x → ∃ v, vs[j]? = some v ∧ Rd w F x v := by
  induction h with
  | nil => intro j x hx; simp at hx
  | cons x v xs vs h hs ih =>
    intro j y hy
    cases j with
    | zero => simp only [List.getElem?_cons_zero, Option.some.injEq] at hy ⊢; subst hy; exact ⟨v, rfl, h⟩
    | succ j => simp only [List.getElem?_cons_succ] at hy ⊢; exact ih j y hy
theorem RdL.append {w : World} {F : Nat → Prop} {xs ys : List T} {vs us : List Value} (h : RdL w F xs vs) (k : RdL w F ys us) : RdL w F (xs ++ ys) (vs ++ us) := by
  induction h with
  | nil => exact k
  | cons x v xs vs h hs ih => exact .cons _ _ _ _ h ih
theorem RdL.cvs {w : World} {F : Nat → Prop} {xs : List T} {vs : List Value} (h : RdL w F xs vs) : CVs w F (xs.map .t) vs [] := by
  induction h with
  | nil => exact .nil
  | cons x v xs vs h hs ih => exact .cons _ _ [] _ _ [] (.t x v h) ih

abbrev Old (w : World) : Nat → Prop := fun b => b < w.heap.size

/-- What is read at a type: the cells of some x. -/
def RdTy {α : Type} (P : Program) (t : TypeId) (n : Nat) (wf : α → Prop) (enc : α → List T) : Prop :=
  P.cellsOf t = n ∧ (∀ x, (enc x).length = n) ∧ ∀ {H : Type} (ec : TypeId × Value → H) (w : World) (sp : Nat → Bool) (held : Bool) (k : Nat) (cs : List Value) (d : DataW H × List MemPlace),
    DataW.trod ec P w 0 sp held k t cs = some d → ∃ x, wf x ∧ RdL w (Old w) (enc x) cs

def wInt (k : IntKind) (n : Int) : Prop := k.min ≤ n ∧ n ≤ k.max
def wStr (s : ByteArray) : Prop := s.size ≤ maxLen
def wSl {α : Type} (wf : α → Prop) (xs : List α) : Prop := xs.length ≤ maxLen ∧ ∀ x ∈ xs, wf x

theorem RdTy.int {P : Program} {t : TypeId} {k : IntKind} (hu : P.underlying t = some (.int k)) (hc : P.cellsOf t = 1) : RdTy P t 1 (wInt k) (eInt k) := by
  refine ⟨hc, fun _ => rfl, fun ec w sp held m cs d h => ?_⟩
  obtain ⟨n, rfl, _, hw⟩ := DataW.trod_int hu h
  simp [Lit.wf] at hw
  exact ⟨n, hw, .cons _ _ _ _ (.int _ _) .nil⟩
theorem RdTy.bool {P : Program} {t : TypeId} (hu : P.underlying t = some .bool) (hc : P.cellsOf t = 1) : RdTy P t 1 (fun _ => True) eBool := by
  refine ⟨hc, fun _ => rfl, fun ec w sp held m cs d h => ?_⟩
  obtain ⟨n, rfl, _⟩ := DataW.trod_bool hu h
  exact ⟨n, trivial, .cons _ _ _ _ (.bool _) .nil⟩
theorem RdTy.str {P : Program} {t : TypeId} (hu : P.underlying t = some .string) (hc : P.cellsOf t = 1) : RdTy P t 1 wStr eStr := by
  refine ⟨hc, fun _ => rfl, fun ec w sp held m cs d h => ?_⟩
  obtain ⟨n, rfl, _, hw⟩ := DataW.trod_string hu h
  exact ⟨n, hw, .cons _ _ _ _ (.str _) .nil⟩
theorem range_mapM_get {α : Type} {g : Nat → Option α} {n : Nat} {r : List α} (h : (List.range n).mapM g = some r) {i : Nat} (hi : i < n) : ∃ x, g i = some x ∧ r[i]? = some x := by
  have h1 := mapM_some_get h i i (by simp [hi])
  have h2 := mapM_some_length h
  simp only [List.length_range] at h2
  rw [h1]
  exact ⟨r[i]'(by omega), by simp, by simp⟩
theorem cells_get {w : World} {a : Addr} {n : Nat} {cs : List Value} (h : w.cells? 0 a n = some cs) : cs.length = n ∧ ∀ j, j < n → ∃ v, w.cell? (a.add j) = some v ∧ cs[j]? = some v := by
  unfold World.cells? at h
  simp only [Nat.zero_le, if_true] at h
  exact ⟨by have := mapM_some_length h; simpa using this, fun j hj => range_mapM_get h hj⟩
theorem cell_spot {w : World} {a : Addr} {v : Value} (h : w.cell? a = some v) : a.spot = none ∧ a.block < w.heap.size := by
  unfold World.cell? at h
  split at h
  · rename_i c u fr e
    split at h
    · cases h
    · rename_i hs
      refine ⟨by cases a with | mk b o s => cases s <;> simp_all, ?_⟩
      have := e; rw [Array.getElem?_eq_some_iff] at this; exact this.1
  · cases h
theorem RdTy.slice {α : Type} {P : Program} {t e : TypeId} {n : Nat} {wf : α → Prop} {enc : α → List T} (hu : P.underlying t = some (.slice e)) (hc : P.cellsOf t = 1) (he : RdTy P e (n + 1) wf enc) : RdTy P t 1 (wSl wf) (eSl (n + 1) enc) := by
  refine ⟨hc, fun _ => rfl, fun {H} ec w sp held m cs d h => ?_⟩
  rcases DataW.trod_slice hu h with ⟨rfl, _⟩ | ⟨a, len, cap, elems, rest, m', rfl, rfl, _, _, hlc, hcap, hel, hm, _, _⟩
  · exact ⟨[], ⟨by simp, by simp⟩, .cons _ _ _ _ (.sl0 _ _ _ (by first | assumption | exact fun _ => rfl | (intro h; cases h))) .nil⟩
  · have hex : ∀ i, i < len → ∃ x : α, ∃ cs : List Value, w.cells? 0 (a.add (i * (n + 1))) (n + 1) = some cs ∧ wf x ∧ RdL w (Old w) (enc x) cs := by
      intro i hi
      have hy := hm i hi
      rw [he.1, List.getElem?_eq_getElem (by omega)] at hy
      cases hcs : w.cells? 0 (a.add (i * (n + 1))) (n + 1) with
      | none => rw [hcs] at hy; cases hy
      | some cs =>
        rw [hcs] at hy
        obtain ⟨x, hx, hr⟩ := he.2.2 ec w sp held m' cs _ hy
        exact ⟨x, cs, rfl, hx, hr⟩
    rcases Nat.eq_zero_or_pos len with h0 | hpos
    · subst h0; exact ⟨[], ⟨by simp, by simp⟩, .cons _ _ _ _ (.sl0 _ _ _ (by first | assumption | exact fun _ => rfl | (intro h; cases h))) .nil⟩
    · have hsp : a.spot = none ∧ a.block < w.heap.size := by
        obtain ⟨x, cs, hcs, _, _⟩ := hex 0 hpos
        obtain ⟨v, hv, _⟩ := (cells_get hcs).2 0 (by omega)
        have := cell_spot hv
        simpa [Addr.add] using this
      obtain ⟨b, off, s⟩ := a
      simp only at hsp
      obtain ⟨rfl, hb⟩ := hsp
      have hcell : ∀ i j, (Addr.add ((⟨b, off, none⟩ : Addr).add (i * (n + 1))) j) = ⟨b, off + i * (n + 1) + j, none⟩ := by
        intro i j
        unfold Addr.add
        split <;> split <;> simp_all
      -- the elements, chosen
      have hch : ∀ k, k ≤ len → ∃ ys : List α, ys.length = k ∧ (∀ y ∈ ys, wf y) ∧ ∀ i y, ys[i]? = some y → ∃ cs, w.cells? 0 ((⟨b, off, none⟩ : Addr).add (i * (n + 1))) (n + 1) = some cs ∧ RdL w (Old w) (enc y) cs := by
        intro k
        induction k with
        | zero => intro _; exact ⟨[], rfl, by simp, by simp⟩
        | succ k ih =>
          intro hk
          obtain ⟨ys, h1, h2, h3⟩ := ih (by omega)
          obtain ⟨x, cs, h4, h5, h6⟩ := hex k (by omega)
          refine ⟨ys ++ [x], by simp [h1], ?_, ?_⟩
          · intro y hy
            rcases List.mem_append.1 hy with h | h
            · exact h2 y h
            · simp only [List.mem_singleton] at h; subst h; exact h5
          · intro i y hy
            by_cases hi : i < ys.length
            · rw [List.getElem?_append_left hi] at hy; exact h3 i y hy
            · rw [List.getElem?_append_right (by omega)] at hy
              have : i = ys.length := by
                rcases Nat.lt_or_ge (i - ys.length) 1 with h | h
                · omega
                · rw [List.getElem?_eq_none (by simpa using h)] at hy; cases hy
              subst this
              simp only [Nat.sub_self, List.getElem?_cons_zero, Option.some.injEq] at hy
              subst hy
              rw [h1]
              exact ⟨cs, h4, h6⟩
      obtain ⟨ys, h1, h2, h3⟩ := hch len (Nat.le_refl _)
      refine ⟨ys, ⟨by omega, h2⟩, .cons _ _ _ _ ?_ .nil⟩
      have hl : (ys.map enc).length = len := by simpa using h1
      have key : ∀ (i : Nat) (row : List T) (j : Nat) (x : T), (ys.map enc)[i]? = some row → row[j]? = some x → ∃ v, w.cell? ⟨b, off + i * (n + 1) + j, none⟩ = some v ∧ Rd w (Old w) x v := by
        intro i row j x hi hj
        rw [List.getElem?_map] at hi
        cases hy : ys[i]? with
        | none => rw [hy] at hi; cases hi
        | some y =>
          rw [hy] at hi
          simp only [Option.map_some, Option.some.injEq] at hi
          subst hi
          obtain ⟨cs, hcs, hrd⟩ := h3 i y hy
          obtain ⟨v, hv, hr⟩ := hrd.get j x hj
          have hjn : j < n + 1 := by
            have := he.2.1 y
            rcases Nat.lt_or_ge j (n + 1) with h | h
            · exact h
            · rw [List.getElem?_eq_none (by omega)] at hj; cases hj
          obtain ⟨v', hv', hc'⟩ := (cells_get hcs).2 j hjn
          rw [hv] at hc'
          cases hc'
          rw [hcell] at hv'
          exact ⟨v, hv', hr⟩
      have hfun : ∃ u : Nat → Nat → Value, ∀ (i : Nat) (row : List T) (j : Nat) (x : T), (ys.map enc)[i]? = some row → row[j]? = some x → w.cell? ⟨b, off + i * (n + 1) + j, none⟩ = some (u i j) ∧ Rd w (Old w) x (u i j) := by
        refine ⟨fun i j => (w.cell? ⟨b, off + i * (n + 1) + j, none⟩).getD (.bool false), fun i row j x hi hj => ?_⟩
        obtain ⟨v, hv, hr⟩ := key i row j x hi hj
        simp only [hv, Option.getD_some]
        exact ⟨trivial, hr⟩
      obtain ⟨u, hu'⟩ := hfun
      have := Rd.sl (w := w) (F := Old w) (n + 1) (ys.map enc) b off cap u (by omega) hb (fun i row hi => by
        rw [List.getElem?_map] at hi
        cases hy : ys[i]? with
        | none => rw [hy] at hi; cases hi
        | some y => rw [hy] at hi; simp only [Option.map_some, Option.some.injEq] at hi; subst hi; exact he.2.1 y) (fun i row j x hi hj => (hu' i row j x hi hj).1) (fun i row j x hi hj => (hu' i row j x hi hj).2)
      rw [hl] at this
      exact this

/-- Fields, from an offset on. -/
def RdFs {α : Type} (P : Program) (fs : List Field) (off n : Nat) (wf : α → Prop) (enc : α → List T) : Prop :=
  (∀ x, (enc x).length = n) ∧ ∀ {H : Type} (ec : TypeId × Value → H) (w : World) (sp : Nat → Bool) (held : Bool) (k : Nat) (cs : List Value),
    (∀ (i : Nat) (f : Field), fs[i]? = some f → ∃ d, DataW.trod ec P w 0 sp held k f.type ((cs.drop f.offset).take (P.cellsOf f.type)) = some d) → ∃ x, wf x ∧ RdL w (Old w) (enc x) ((cs.drop off).take n)
theorem RdFs.nil {P : Program} {off : Nat} : RdFs P [] off 0 (fun _ : Unit => True) (fun _ => []) :=
  ⟨fun _ => rfl, fun ec w sp held k cs h => ⟨(), trivial, by simp; exact .nil⟩⟩
theorem RdFs.cons {α β : Type} {P : Program} {f : Field} {fs : List Field} {off n m : Nat} {wf : α → Prop} {enc : α → List T} {wf' : β → Prop} {enc' : β → List T} (ho : f.offset = off) (hf : RdTy P f.type n wf enc)
    (hs : RdFs P fs (off + n) m wf' enc') : RdFs P (f :: fs) off (n + m) (fun x : α × β => wf x.1 ∧ wf' x.2) (fun x => enc x.1 ++ enc' x.2) := by
  refine ⟨fun x => by simp [hf.2.1, hs.1], fun ec w sp held k cs h => ?_⟩
  obtain ⟨d, h1⟩ := h 0 f rfl
  obtain ⟨x, hx, hr⟩ := hf.2.2 ec w sp held k _ d h1
  obtain ⟨y, hy, hr'⟩ := hs.2 ec w sp held k cs (fun i g hg => h (i + 1) g hg)
  refine ⟨(x, y), ⟨hx, hy⟩, ?_⟩
  rw [ho, hf.1] at hr
  have e : (cs.drop off).take (n + m) = (cs.drop off).take n ++ (cs.drop (off + n)).take m := by
    rw [List.take_add, List.drop_drop]
  rw [e]
  exact hr.append hr'
theorem RdTy.struct {α : Type} {P : Program} {t : TypeId} {fs : Array Field} {n : Nat} {wf : α → Prop} {enc : α → List T} (hu : P.underlying t = some (.struct fs)) (hc : P.cellsOf t = n) (hs : RdFs P fs.toList 0 n wf enc) : RdTy P t n wf enc := by
  refine ⟨hc, hs.1, fun ec w sp held m cs d h => ?_⟩
  obtain ⟨xs, m', rfl, _, hl, hn, hf⟩ := DataW.trod_struct hu h
  obtain ⟨x, hx, hr⟩ := hs.2 ec w sp held m' cs (fun i f hg => by
    rw [Array.getElem?_toList] at hg
    have hi : i < fs.size := by rcases Nat.lt_or_ge i fs.size with h | h; exact h; rw [Array.getElem?_eq_none h] at hg; cases hg
    exact ⟨xs[i]'(by omega), by rw [hf i f hg, List.getElem?_eq_getElem (by omega)]⟩)
  refine ⟨x, hx, ?_⟩
  rw [hc] at hl
  simpa [← hl] using hr
theorem RdTy.map {α β : Type} {P : Program} {t : TypeId} {n : Nat} {wf : α → Prop} {enc : α → List T} {wf' : β → Prop} {enc' : β → List T} (h : RdTy P t n wf enc) (g : α → β) (he : ∀ x, enc' (g x) = enc x) (hl : ∀ y, (enc' y).length = n)
    (hw : ∀ x, wf x → wf' (g x)) : RdTy P t n wf' enc' :=
  ⟨h.1, hl, fun ec w sp held k cs d hd => by
    obtain ⟨x, hx, hr⟩ := h.2.2 ec w sp held k cs d hd
    exact ⟨g x, hw x hx, by rw [he]; exact hr⟩⟩
end Go.Tm
