/- Code, on abstract states. -/
import Derived.Test.YtohcknmdebahiaaGreatDoorTm23
set_option linter.unusedVariables false
set_option linter.unusedSimpArgs false
namespace Go.Tm
open Go.RowKit

/-- What is told of the entry: the lent variables; 0: a row is pinned; 1: nothing old is read or written by way of F0 and X. -/
def EL (E : En) (ls : List Nat) : Prop := ∃ fl, ls = E.lent.map Prod.fst ++ fl ∧ (∀ q ∈ E.lent, 900 ≤ q.1) ∧ (∀ v, E.pin = some v → 0 ∈ fl) ∧ (1 ∈ fl → ∀ b, ¬ E.F0 b ∧ ¬ E.X b)
theorem EL.mem {E : En} {ls : List Nat} (h : EL E ls) {i b : Nat} (hi : (i, b) ∈ E.lent) : i ∈ ls ∧ 900 ≤ i := by
  obtain ⟨fl, rfl, h2, _⟩ := h
  exact ⟨List.mem_append_left _ (List.mem_map.2 ⟨_, hi, rfl⟩), h2 _ hi⟩
theorem EL.pin {E : En} {ls : List Nat} (h : EL E ls) {v : Value} (hv : E.pin = some v) : 0 ∈ ls := by
  obtain ⟨fl, rfl, _, h2, _⟩ := h
  exact List.mem_append_right _ (h2 v hv)

def ELp (P : Program) (E : En) (ls : List Nat) : Prop := EL E ls ∧ Tb P E

/-- From this abstract state the code comes to an exit and a state of Q. -/
def Wp (P : Program) (n : Nat) (ls : List Nat) (c : Code) (Q : Exit → St → Prop) (st : St) : Prop :=
  ∀ (E : En) (g : Gh) (a : Act) (w : World), ELp P E ls → Sim E g n st a w → c.wp P (fun e a' w' => ∃ g' st', Sim E g' n st' a' w' ∧ Q e st') a w

def thenQ (N : St → Prop) (Q : Exit → St → Prop) : Exit → St → Prop
  | .normal, st => N st
  | e, st => Q e st
def blkQ (id : Nat) (Q : Exit → St → Prop) : Exit → St → Prop
  | .exit id', st => bif Nat.beq id' id then Q .normal st else Q (.exit id') st
  | e, st => Q e st

/-- Less is told of the same. -/
def Le (n : Nat) (ls : List Nat) (st st1 : St) : Prop := ∀ (E : En) (g : Gh) (a : Act) (w : World), EL E ls → Sim E g n st a w → ∃ g', Sim E g' n st1 a w

section
variable {P : Program} {n : Nat} {ls : List Nat} {Q : Exit → St → Prop} {st st' : St} {x y c : Code}
theorem Wp.skip (h : Q .normal st) : Wp P n ls .skip Q st := fun E g a w hE hS => wp_skip ⟨g, st, hS, h⟩
theorem Wp.label {l : Nat} (h : Q .normal st) : Wp P n ls (.label l) Q st := fun E g a w hE hS => wp_label ⟨g, st, hS, h⟩
theorem Wp.ret (h : Q .ret st) : Wp P n ls .ret Q st := fun E g a w hE hS => wp_ret ⟨g, st, hS, h⟩
theorem Wp.exit {id : Nat} (h : Q (.exit id) st) : Wp P n ls (.exit id) Q st := fun E g a w hE hS => wp_exit ⟨g, st, hS, h⟩
theorem Wp.mono {Q' : Exit → St → Prop} (h : Wp P n ls c Q st) (hq : ∀ e st, Q e st → Q' e st) : Wp P n ls c Q' st :=
  fun E g a w hE hS => wp_mono (h E g a w hE hS) fun e a' w' ⟨g', st', h1, h2⟩ => ⟨g', st', h1, hq e st' h2⟩
theorem Wp.seq (h : Wp P n ls x (thenQ (Wp P n ls y Q) Q) st) : Wp P n ls (.seq x y) Q st :=
  fun E g a w hE hS => wp_seq (wp_mono (h E g a w hE hS) fun e a' w' ⟨g', st', h1, h2⟩ => by
    cases e with
    | normal => exact h2 E g' a' w' hE h1
    | _ => exact ⟨g', st', h1, h2⟩)
theorem Wp.cond {o : Operand} {b : Bool} (ho : st.eval o = some (.t (.bool b))) (h : Wp P n ls (if b then x else y) Q st) : Wp P n ls (.cond o x y) Q st :=
  fun E g a w hE hS => by
    have hv := eval_VR hS ho
    generalize hva : a.eval o = v at hv
    cases hv with
    | t x v hr =>
      cases hr
      exact wp_cond hva (h E g a w hE hS)
theorem Wp.cond2 {o : Operand} {b : Bool} (ho : st.eval o = some (.t (.bool b))) (ht : b = true → Wp P n ls x Q st) (hf : b = false → Wp P n ls y Q st) : Wp P n ls (.cond o x y) Q st :=
  Wp.cond ho (by
    cases b with
    | true => exact ht rfl
    | false => exact hf rfl)
theorem Wp.block {id : Nat} (h : Wp P n ls c (blkQ id Q) st) : Wp P n ls (.block id c) Q st :=
  fun E g a w hE hS => wp_block (wp_mono (h E g a w hE hS) fun e a' w' ⟨g', st', h1, h2⟩ => by
    cases e with
    | exit id' =>
      simp only [Exit.inBlock]
      simp only [blkQ] at h2
      split
      · rename_i he
        subst he
        rw [Nat.beq_refl] at h2
        exact ⟨g', st', h1, h2⟩
      · rename_i he
        have : Nat.beq id' id = false := by
          cases hb : Nat.beq id' id
          · rfl
          · exact absurd (Nat.eq_of_beq_eq_true hb) he
        rw [this] at h2
        exact ⟨g', st', h1, h2⟩
    | _ => exact ⟨g', st', h1, h2⟩)

/-- The loop comes to its end within so many rounds. -/
def WLoop (P : Program) (n : Nat) (ls : List Nat) (c : Code) (Q : Exit → St → Prop) : Nat → St → Prop
  | 0, _ => False
  | k + 1, st => Wp P n ls c (thenQ (WLoop P n ls c Q k) Q) st
def ULoop (P : Program) (c : Code) (Q : Exit → Act → World → Prop) : Nat → Act → World → Prop
  | 0, _, _ => False
  | k + 1, a, w => c.wp P (Exit.then (ULoop P c Q k) Q) a w
theorem wp_uloop {c : Code} {Q : Exit → Act → World → Prop} {a : Act} {w : World} {k : Nat} (h : ULoop P c Q k a w) : (Code.loop c).wp P Q a w := by
  classical
  have key : ∀ a w, (∃ k, ULoop P c Q k a w) → ∃ k, ULoop P c Q k a w ∧ ∀ j, ULoop P c Q j a w → k ≤ j := by
    intro a w ⟨k, hk⟩
    induction k using Nat.strongRecOn with
    | _ k ih =>
      by_cases hm : ∀ j, ULoop P c Q j a w → k ≤ j
      · exact ⟨k, hk, hm⟩
      · obtain ⟨j, hj⟩ := Classical.not_forall.1 hm
        obtain ⟨hj1, hj2⟩ := Classical.not_imp.1 hj
        exact ih j (by omega) hj1
  let μ : Act → World → Nat := fun a w => if h : ∃ k, ULoop P c Q k a w then Classical.choose (key a w h) else 0
  have hμ : ∀ a w (h : ∃ k, ULoop P c Q k a w), ULoop P c Q (μ a w) a w ∧ ∀ j, ULoop P c Q j a w → μ a w ≤ j := by
    intro a w h
    have : μ a w = Classical.choose (key a w h) := by simp only [μ, h, dite_true]
    rw [this]
    exact Classical.choose_spec (key a w h)
  refine wp_loop (fun a w => ∃ k, ULoop P c Q k a w) μ ⟨k, h⟩ fun a w hI => ?_
  obtain ⟨h1, h2⟩ := hμ a w hI
  cases hm : μ a w with
  | zero => rw [hm] at h1; exact h1.elim
  | succ m =>
    rw [hm] at h1
    refine wp_mono h1 fun e a' w' hq => ?_
    cases e with
    | normal =>
      have hI' : ∃ k, ULoop P c Q k a' w' := ⟨m, hq⟩
      exact ⟨hI', by have := (hμ a' w' hI').2 m hq; omega⟩
    | _ => exact hq
theorem Wp.loop {k : Nat} (h : WLoop P n ls c Q k st) : Wp P n ls (.loop c) Q st := by
  intro E g a w hE hS
  refine wp_uloop (k := k) ?_
  induction k generalizing st g a w with
  | zero => exact h.elim
  | succ k ih =>
    refine wp_mono (h E g a w hE hS) fun e a' w' ⟨g', st', h1, h2⟩ => ?_
    cases e with
    | normal => exact ih h2 g' a' w' h1
    | _ => exact ⟨g', st', h1, h2⟩

theorem Wp.le {st1 : St} (hl : Le n ls st st1) (h : Wp P n ls c Q st1) : Wp P n ls c Q st := fun E g a w hE hS => by
  obtain ⟨g', hS'⟩ := hl E g a w hE.1 hS
  exact h E g' a w hE hS'
theorem WLoop.le {st1 : St} {k : Nat} (hl : Le n ls st st1) (h : WLoop P n ls c Q k st1) : WLoop P n ls c Q k st := by
  cases k with
  | zero => exact h.elim
  | succ k => exact Wp.le hl h

/-- A region's operations in the text's order, then what follows. -/
def Runs (P : Program) (p : Nat → Bool) (ρ : Nat → Root) (ops : Array Oper) (l : List Oper) (st : St) (K : St → Prop) : Prop := ∃ st', RunL P p ρ ops l st st' ∧ K st'
theorem Wp.region {p : Nat → Bool} {ρ : Nat → Root} {ops : Array Oper} {id : Nat} {draw : Bool} (hm : draw = true → P.follows .mixedOrders = true) (hok : if draw then regOK p ρ n ops = true else ops.toList.all (dstOK n) = true)
    (h : Runs P p ρ ops ops.toList st (Q .normal)) : Wp P n ls (.region id ops draw) Q st := fun E g a w hE hS => by
  obtain ⟨st', h1, h2⟩ := h
  have := hE.2
  exact region_sound hm hok hS h1 fun g a w hS' => ⟨g, st', hS', h2⟩
section
variable {p : Nat → Bool} {ρ : Nat → Root} {ops : Array Oper} {l : List Oper} {K : St → Prop} {o : Oper}
theorem Runs.done (h : K st) : Runs P p ρ ops [] st K := ⟨st, rfl, h⟩
theorem Runs.step {b : St} (h : StepR P p ρ ops o st b) (hr : Runs P p ρ ops l b K) : Runs P p ρ ops (o :: l) st K := by
  obtain ⟨st', h1, h2⟩ := hr
  exact ⟨st', ⟨b, h, h1⟩, h2⟩
theorem Runs.op {x : A} {st1 : St} (hg : wantG ops st o = some true) (hf : opFits ρ st o = true) (h : (maOf P ρ st.eval o).run st = some (x, st1)) (hr : Runs P p ρ ops l (st1.put o.dst x) K) : Runs P p ρ ops (o :: l) st K :=
  Runs.step (.run x st1 hg hf (.plain h)) hr
theorem Runs.off (hg : wantG ops st o = some false) (hr : Runs P p ρ ops l (st.put o.dst (.tup [])) K) : Runs P p ρ ops (o :: l) st K :=
  Runs.step (.skip hg) hr
end
end
end Go.Tm
