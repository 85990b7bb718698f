/- Regions: operations in the text's order stand for every order that the region allows. -/
import Derived.Test.YtohcknmdebahiaaGreatDoorTm21
import Derived.Orders
set_option linter.unusedVariables false
set_option linter.unusedSimpArgs false
namespace Go.Tm
open Go.RowKit

/-- Is the operation wanted? (none: not to be told) -/
def wantG (ops : Array Oper) (st : St) (o : Oper) : Option Bool := match o.guard with
  | none => some true
  | some (j, want) => match (ops[j]?).bind (·.dst) with
    | none => some false
    | some d => match st.tm d with
      | .t (.bool b) => some (b == want)
      | .tup [] => some false
      | _ => none
def gdst (ops : Array Oper) (o : Oper) : List Nat := match o.guard with
  | none => []
  | some (j, _) => ((ops[j]?).bind (·.dst)).toList

inductive StepR (P : Program) (p : Nat → Bool) (ρ : Nat → Root) (ops : Array Oper) (o : Oper) (st : St) : St → Prop
  | run (x : A) (st1 : St) (hg : wantG ops st o = some true) (hf : opFits ρ st o = true) (h : Exec P p ρ st o x st1) : StepR P p ρ ops o st (st1.put o.dst x)
  | skip (hg : wantG ops st o = some false) : StepR P p ρ ops o st (st.put o.dst (.tup []))

section
variable {P : Program} {E : En} [Tb P E] {g : Gh} {st st' : St} {a : Act} {w : World} {p : Nat → Bool} {ρ : Nat → Root} {o : Oper} {x : A} {ops : Array Oper}

theorem wantG_congr {st2 : St} (h : ∀ d ∈ gdst ops o, st2.tm d = st.tm d) : wantG ops st2 o = wantG ops st o := by
  unfold wantG gdst at *
  split
  · rfl
  · rename_i j want hg
    simp only [hg] at h
    split
    · rfl
    · rename_i d hd
      simp only [hd, Option.toList] at h
      rw [h d (by simp)]
theorem opFits_congr {st2 : St} (h : ∀ t, .tmp t ∈ o.op.operands.toList → st2.tm t = st.tm t) : opFits ρ st2 o = opFits ρ st o := by
  unfold opFits
  revert h
  generalize o.op.operands.toList = l
  intro h
  induction l with
  | nil => rfl
  | cons y l ih =>
    simp only [List.all_cons]
    rw [ih fun t ht => h t (List.mem_cons_of_mem _ ht)]
    cases y with
    | tmp t => simp only [h t (List.mem_cons_self ..)]
    | _ => rfl

def St.Off' (D : Dom) (dst : Option Nat) (st st' : St) : Prop := (∀ t, dst ≠ some t → st'.tm t = st.tm t) ∧ (∀ s, ¬ D.oW s → st'.ob s = st.ob s) ∧ ∀ r, ¬ D.rW r → st'.rw r = st.rw r
theorem put_tm {d : Option Nat} {v : A} {t : Nat} (h : d ≠ some t) : (st.put d v).tm t = st.tm t := by
  cases d with
  | none => rfl
  | some d => exact upd_ne _ _ _ _ (fun he => h (he ▸ rfl))
theorem put_tm_eq {d : Nat} {v : A} : (st.put (some d) v).tm d = v := upd_eq _ _ _
theorem put_ob {d : Option Nat} {v : A} : (st.put d v).ob = st.ob := by cases d <;> rfl
theorem put_rw {d : Option Nat} {v : A} : (st.put d v).rw = st.rw := by cases d <;> rfl

theorem StepR.loc (h : StepR P p ρ ops o st st') : St.Off' (fpOf p ρ o).dom o.dst st st' ∧
    ∀ st2, (∀ t, .tmp t ∈ o.op.operands.toList → st2.tm t = st.tm t) → (∀ d ∈ gdst ops o, st2.tm d = st.tm d) → On (fpOf p ρ o).dom st st2 →
      ∃ st2', StepR P p ρ ops o st2 st2' ∧ (∀ t, o.dst = some t → st2'.tm t = st'.tm t) ∧ St.Off' (fpOf p ρ o).dom o.dst st2 st2' ∧ On (fpOf p ρ o).dom st' st2' := by
  cases h with
  | run x st1 hg hf h =>
    obtain ⟨h1, h2⟩ := h.loc hf
    refine ⟨⟨fun t ht => by rw [put_tm ht, h1.tm], fun s hs => by rw [put_ob]; exact h1.ob s hs, fun s hs => by rw [put_rw]; exact h1.rw s hs⟩, fun st2 ht hd hon => ?_⟩
    obtain ⟨st2', h3, h4, h5⟩ := h2 st2 ht hon
    refine ⟨_, .run x st2' ((wantG_congr hd).trans hg) ((opFits_congr ht).trans hf) h3, fun t he => ?_, ⟨fun t ht => by rw [put_tm ht, h4.tm], fun s hs => by rw [put_ob]; exact h4.ob s hs, fun s hs => by rw [put_rw]; exact h4.rw s hs⟩, ⟨fun s hs => by rw [put_ob, put_ob]; exact h5.ob s hs, fun s hs => by rw [put_rw, put_rw]; exact h5.rw s hs⟩⟩
    rw [he, put_tm_eq, put_tm_eq]
  | skip hg =>
    refine ⟨⟨fun t ht => put_tm ht, fun s hs => by rw [put_ob], fun s hs => by rw [put_rw]⟩, fun st2 ht hd hon => ?_⟩
    refine ⟨_, .skip ((wantG_congr hd).trans hg), fun t he => by rw [he, put_tm_eq, put_tm_eq], ⟨fun t ht => put_tm ht, fun s hs => by rw [put_ob], fun s hs => by rw [put_rw]⟩, ⟨fun s hs => by rw [put_ob, put_ob]; exact hon.ob s hs, fun s hs => by rw [put_rw, put_rw]; exact hon.rw s hs⟩⟩

/-! ### operations that do not touch each other -/
def disj (a b : Option (List Nat)) : Bool := match a, b with
  | some [], _ => true
  | _, some [] => true
  | some a, some b => a.all fun x => !b.contains x
  | _, _ => false
theorem disj_spec {a b : Option (List Nat)} (h : disj a b = true) {k : Nat} (ha : has a k) : ¬ has b k := by
  intro hb
  unfold disj at h
  split at h
  · simp [has] at ha
  · simp [has] at hb
  · have := List.all_eq_true.1 h k ha
    simp at this
    exact this hb
  · cases h
def tmpsOf (ops : Array Oper) (o : Oper) : List Nat := gdst ops o ++ o.op.operands.toList.filterMap fun | .tmp t => some t | _ => none
def optIn (d : Option Nat) (l : List Nat) : Bool := match d with | some d => l.contains d | none => false
def indep (p : Nat → Bool) (ρ : Nat → Root) (ops : Array Oper) (o1 o2 : Oper) : Bool :=
  !optIn o1.dst (o2.dst.toList ++ tmpsOf ops o2) && !optIn o2.dst (tmpsOf ops o1) && disj (fpOf p ρ o1).oW (fpOf p ρ o2).oR && disj (fpOf p ρ o2).oW (fpOf p ρ o1).oR &&
    disj (fpOf p ρ o1).rW (fpOf p ρ o2).rR && disj (fpOf p ρ o2).rW (fpOf p ρ o1).rR

theorem mem_tmps {t : Nat} (h : .tmp t ∈ o.op.operands.toList) : t ∈ tmpsOf ops o := by
  unfold tmpsOf
  exact List.mem_append.2 (.inr (List.mem_filterMap.2 ⟨_, h, rfl⟩))

theorem commute {o1 o2 : Oper} {b : St} {c : St} (hi : indep p ρ ops o1 o2 = true) (h2 : StepR P p ρ ops o2 st b) (h1 : StepR P p ρ ops o1 b c) : ∃ b', StepR P p ρ ops o1 st b' ∧ StepR P p ρ ops o2 b' c := by
  simp only [indep, Bool.and_eq_true, Bool.not_eq_true'] at hi
  obtain ⟨⟨⟨⟨⟨hd1, hd2⟩, ho12⟩, ho21⟩, hr12⟩, hr21⟩ := hi
  have hn1 : ∀ t, o1.dst = some t → t ∉ o2.dst.toList ∧ t ∉ tmpsOf ops o2 := fun t ht => by
    rw [ht] at hd1
    simp [optIn] at hd1
    exact ⟨by simpa using hd1.1, hd1.2⟩
  have hn2 : ∀ t, o2.dst = some t → t ∉ tmpsOf ops o1 := fun t ht => by
    rw [ht] at hd2
    simpa [optIn] using hd2
  obtain ⟨a1, a2⟩ := h2.loc
  obtain ⟨b1, b2⟩ := h1.loc
  have e1 := fpOf_ok p ρ o1
  have e2 := fpOf_ok p ρ o2
  have hO12 : ∀ s, (fpOf p ρ o1).dom.oW s → ¬ (fpOf p ρ o2).dom.oR s := fun s => disj_spec ho12
  have hO21 : ∀ s, (fpOf p ρ o2).dom.oW s → ¬ (fpOf p ρ o1).dom.oR s := fun s => disj_spec ho21
  have hR12 : ∀ r, (fpOf p ρ o1).dom.rW r → ¬ (fpOf p ρ o2).dom.rR r := fun s => disj_spec hr12
  have hR21 : ∀ r, (fpOf p ρ o2).dom.rW r → ¬ (fpOf p ρ o1).dom.rR r := fun s => disj_spec hr21
  obtain ⟨b', c1, c2, c3, c4⟩ := b2 st (fun t ht => (a1.1 t (fun he => hn2 t he (mem_tmps ht))).symm) (fun t ht => (a1.1 t (fun he => hn2 t he (List.mem_append.2 (.inl ht)))).symm)
    ⟨fun s hs => (a1.2.1 s (fun hw => hO21 s hw hs)).symm, fun s hs => (a1.2.2 s (fun hw => hR21 s hw hs)).symm⟩
  obtain ⟨c', f1, f2, f3, f4⟩ := a2 b' (fun t ht => c3.1 t (fun he => (hn1 t he).2 (mem_tmps ht))) (fun t ht => c3.1 t (fun he => (hn1 t he).2 (List.mem_append.2 (.inl ht))))
    ⟨fun s hs => c3.2.1 s (fun hw => hO12 s hw hs), fun s hs => c3.2.2 s (fun hw => hR12 s hw hs)⟩
  have hcc : c' = c := by
    refine St.ext (funext fun t => ?_) (funext fun s => ?_) (funext fun r => ?_)
    · by_cases h2t : o2.dst = some t
      · rw [f2 t h2t]
        exact (b1.1 t (fun he => (hn1 t he).1 (by rw [h2t]; simp))).symm
      · by_cases h1t : o1.dst = some t
        · rw [f3.1 t h2t, c2 t h1t]
        · rw [f3.1 t h2t, c3.1 t h1t, b1.1 t h1t, a1.1 t h2t]
    · by_cases h2s : (fpOf p ρ o2).dom.oW s
      · rw [f4.ob s (e2.ob s h2s)]
        exact (b1.2.1 s (fun hw => hO12 s hw (e2.ob s h2s))).symm
      · by_cases h1s : (fpOf p ρ o1).dom.oW s
        · rw [f3.2.1 s h2s, c4.ob s (e1.ob s h1s)]
        · rw [f3.2.1 s h2s, c3.2.1 s h1s, b1.2.1 s h1s, a1.2.1 s h2s]
    · by_cases h2s : (fpOf p ρ o2).dom.rW r
      · rw [f4.rw r (e2.rw r h2s)]
        exact (b1.2.2 r (fun hw => hR12 r hw (e2.rw r h2s))).symm
      · by_cases h1s : (fpOf p ρ o1).dom.rW r
        · rw [f3.2.2 r h2s, c4.rw r (e1.rw r h1s)]
        · rw [f3.2.2 r h2s, c3.2.2 r h1s, b1.2.2 r h1s, a1.2.2 r h2s]
  exact ⟨b', c1, hcc ▸ f1⟩

/-! ### runs -/
def StepI (P : Program) (p : Nat → Bool) (ρ : Nat → Root) (ops : Array Oper) (i : Nat) (st st' : St) : Prop := match ops[i]? with
  | some o => StepR P p ρ ops o st st'
  | none => st' = st
def RunI (P : Program) (p : Nat → Bool) (ρ : Nat → Root) (ops : Array Oper) : List Nat → St → St → Prop
  | [], st, st' => st' = st
  | i :: l, st, st' => ∃ b, StepI P p ρ ops i st b ∧ RunI P p ρ ops l b st'
def indepI (p : Nat → Bool) (ρ : Nat → Root) (ops : Array Oper) (i j : Nat) : Bool := match ops[i]?, ops[j]? with
  | some a, some b => indep p ρ ops a b
  | _, _ => true
theorem commuteI {i j : Nat} {b c : St} (hi : indepI p ρ ops i j = true) (h2 : StepI P p ρ ops j st b) (h1 : StepI P p ρ ops i b c) : ∃ b', StepI P p ρ ops i st b' ∧ StepI P p ρ ops j b' c := by
  unfold StepI indepI at *
  revert h1 h2 hi
  cases ops[i]? <;> cases ops[j]? <;> simp only [] <;> intro hi h2 h1
  · exact ⟨st, rfl, by rw [h1, h2]⟩
  · exact ⟨st, rfl, by rw [h1]; exact h2⟩
  · exact ⟨c, h2 ▸ h1, rfl⟩
  · exact commute hi h2 h1

theorem pull {i : Nat} : ∀ {l : List Nat} {st st' : St}, i ∈ l → (∀ l1 l2, l = l1 ++ i :: l2 → i ∉ l1 → ∀ j ∈ l1, indepI p ρ ops i j = true) → RunI P p ρ ops l st st' → ∃ b, StepI P p ρ ops i st b ∧ RunI P p ρ ops (l.erase i) b st'
  | [], st, st', h, _, _ => by simp at h
  | j :: l, st, st', h, hind, hr => by
    by_cases he : i = j
    · subst he
      rw [List.erase_cons_head]
      exact hr
    · obtain ⟨b, h1, h2⟩ := hr
      have him : i ∈ l := (List.mem_cons.1 h).resolve_left he
      obtain ⟨c, h3, h4⟩ := pull him (fun l1 l2 hl hni j' hj' => hind (j :: l1) l2 (by rw [hl]; rfl) (by simp [he, hni]) j' (List.mem_cons_of_mem _ hj')) h2
      have hij : indepI p ρ ops i j = true := by
        obtain ⟨l1, l2, hl, hni⟩ := List.eq_append_cons_of_mem him
        exact hind (j :: l1) l2 (by rw [hl]; rfl) (by simp [he, hni]) j (List.mem_cons_self ..)
      obtain ⟨d, h5, h6⟩ := commuteI hij h1 h3
      refine ⟨d, h5, ?_⟩
      rw [List.erase_cons_tail (by simpa using fun h => he h.symm)]
      exact ⟨c, h6, h4⟩
end
end Go.Tm
