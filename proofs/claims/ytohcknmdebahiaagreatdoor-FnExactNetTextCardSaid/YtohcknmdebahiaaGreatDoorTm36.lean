/- A variable that is only read from now on: its address becomes an address of what is only read. -/
import Derived.Test.YtohcknmdebahiaaGreatDoorTm35
set_option linter.unusedVariables false
set_option linter.unusedSimpArgs false
namespace Go.Tm
open Go.RowKit

mutual
def A.fz (s : Nat) (cs : List T) : A → A
  | .obj s' off => bif Nat.beq s' s then .fadr (cs.drop off) else .obj s' off
  | .agg l => .agg (A.fzs s cs l)
  | .tup l => .tup (A.fzs s cs l)
  | .clo f l => .clo f (A.fzs s cs l)
  | a => a
def A.fzs (s : Nat) (cs : List T) : List A → List A
  | [] => []
  | a :: r => a.fz s cs :: A.fzs s cs r
end
theorem fzs_eq (s : Nat) (cs : List T) : ∀ l : List A, A.fzs s cs l = l.map (A.fz s cs)
  | [] => by rw [A.fzs]; rfl
  | a :: r => by rw [A.fzs, fzs_eq s cs r]; rfl
def St.fz (st : St) (s : Nat) (cs : List T) : St := ⟨fun t => (st.tm t).fz s cs, fun i => if i = s then none else (st.ob i).map fun l => A.fzs s cs l, st.rw⟩

theorem fz_one (s : Nat) (cs : List T) (a : A) : (a.fz s cs).one = a.one := by
  cases a with
  | obj s' off => unfold A.fz; cases Nat.beq s' s <;> rfl
  | _ => unfold A.fz <;> rfl
section
variable {E : En} {g : Gh} {st : St} {w : World} {s : Nat} {cs : List T}
theorem VR.fz {O : Nat → Prop} {R : Nat → Prop} {O' : Nat → Prop} {F' : Nat → Prop} (hF : ∀ b, g.F b → F' b) (hO : ∀ i, O i → i ≠ s → O' i) (hb : F' (g.ob s)) {arr : Array Value} {e : TypeId} (hh : w.heap[g.ob s]? = some (.cells arr e (0, 0)))
    (hc : ∀ (j : Nat) (x : T), cs[j]? = some x → ∃ v, arr[j]? = some v ∧ Rd w g.F x v) {a : A} {v : Value} (h : VR w g O R a v) : VR w { g with F := F' } O' R (a.fz s cs) v := by
  have hl : ∀ (l : List A) (vs : List Value), l.length = vs.length → (∀ (i : Nat) (x : A) (v : Value), l[i]? = some x → vs[i]? = some v → VR w { g with F := F' } O' R (x.fz s cs) v) →
      (A.fzs s cs l).length = vs.length ∧ ∀ (i : Nat) (x : A) (v : Value), (A.fzs s cs l)[i]? = some x → vs[i]? = some v → VR w { g with F := F' } O' R x v := by
    intro l vs hl ih
    rw [fzs_eq]
    refine ⟨by simp [hl], fun i x v hx hv => ?_⟩
    rw [List.getElem?_map] at hx
    cases hy : l[i]? with
    | none => rw [hy] at hx; cases hx
    | some y =>
      rw [hy] at hx
      simp only [Option.map_some, Option.some.injEq] at hx
      subst hx
      exact ih i y v hy hv
  have hs : Same g.F w w := fun _ _ => rfl
  induction h with
  | t x v h => unfold A.fz; exact .t x v (h.mono hs hF)
  | nil => unfold A.fz; exact .nil
  | own r hr => unfold A.fz; exact VR.own (g := { g with F := F' }) r hr
  | agg l vs hl' h ih => unfold A.fz; obtain ⟨h1, h2⟩ := hl l vs hl' ih; exact .agg _ vs h1 h2
  | tup l vs hl' h ih => unfold A.fz; obtain ⟨h1, h2⟩ := hl l vs hl' ih; exact .tup _ vs h1 h2
  | obj s' off hs' =>
    unfold A.fz
    cases he : Nat.beq s' s with
    | false =>
      have : s' ≠ s := fun h => by rw [h, Nat.beq_refl] at he; cases he
      exact VR.obj (g := { g with F := F' }) s' off (hO s' hs' this)
    | true =>
      have := Nat.eq_of_beq_eq_true he
      subst this
      simp only [cond_true]
      have hcell : ∀ j, w.cell? ⟨g.ob s', off + j, none⟩ = arr[off + j]? := fun j => by
        unfold World.cell?
        simp only [hh]; rfl
      refine VR.fadr (g := { g with F := F' }) _ _ off (fun j => (arr[off + j]?).getD (.bool false)) hb (fun j x hx => ?_) (fun j x hx => ?_)
      · rw [List.getElem?_drop] at hx
        obtain ⟨u, h1, _⟩ := hc _ x hx
        rw [hcell, h1]; rfl
      · rw [List.getElem?_drop] at hx
        obtain ⟨u, h1, h2⟩ := hc _ x hx
        simp only [h1, Option.getD_some]
        exact h2.mono hs hF
  | elem r sz i off b n c hr he => unfold A.fz; exact VR.elem (g := { g with F := F' }) r sz i off b n c hr he
  | sub r sz lo n c c' ad a' hr he hp => unfold A.fz; exact VR.sub (g := { g with F := F' }) r sz lo n c c' ad a' hr he hp
  | fadr cells b off u hF' hx hr => unfold A.fz; exact VR.fadr (g := { g with F := F' }) cells b off u (hF _ hF') hx (fun j x h => (hr j x h).mono hs hF)
  | nn sz rows v h hv => unfold A.fz; exact VR.nn (g := { g with F := F' }) sz rows v (h.mono hs hF) hv
  | ext s x v hs' h => unfold A.fz; exact VR.ext (g := { g with F := F' }) s x v hs' h
  | shp x v h => unfold A.fz; exact VR.shp (g := { g with F := F' }) x v h
  | exa s cells b off u hs' hD hx hr => unfold A.fz; exact VR.exa (g := { g with F := F' }) s cells b off u hs' hD hx hr
  | clo f l vs hl' h ih => unfold A.fz; obtain ⟨h1, h2⟩ := hl l vs hl' ih; exact .clo f _ vs h1 h2
  | undef v => unfold A.fz; exact .undef v
end
theorem Le.frzOb {n : Nat} {ls : List Nat} {st : St} (s : Nat) (cs : List T) (hs : st.ob s = some (cs.map .t)) (hl : ls.contains s = false) : Le n ls st (st.fz s cs) := by
  intro E g a w hE hS
  have hM := hS.mem
  obtain ⟨arr, e, h1, h2, h3, h4, h5⟩ := hM.ob s _ hs
  have hOs : st.O s := by simp [St.O, hs]
  have hc : ∀ (j : Nat) (x : T), cs[j]? = some x → ∃ v, arr[j]? = some v ∧ Rd w g.F x v := by
    intro j x hx
    obtain ⟨_, v, h6, h7⟩ := h3 j (.t x) (by rw [List.getElem?_map, hx]; rfl)
    cases h7 with
    | t _ _ h => exact ⟨v, h6, h⟩
  have hO : ∀ i, (st.fz s cs).O i ↔ st.O i ∧ i ≠ s := by
    intro i
    unfold St.O St.fz
    by_cases h : i = s <;> simp [h]
  have hv : ∀ {a : A} {v : Value}, VR w g st.O st.R a v → VR w { g with F := fun b => g.F b ∨ b = g.ob s } (st.fz s cs).O st.R (a.fz s cs) v := fun h =>
    VR.fz (s := s) (cs := cs) (fun _ h => .inl h) (fun i hi hne => (hO i).2 ⟨hi, hne⟩) (.inr rfl) h1 hc h
  refine ⟨{ g with F := fun b => g.F b ∨ b = g.ob s }, ⟨fun i c hi => ?_, fun i j hi hj he => hM.obne i j ((hO i).1 hi).1 ((hO j).1 hj).1 he, fun r x hr => ?_, hM.rowne, fun r i hr hi => hM.rowob r i hr ((hO i).1 hi).1, fun b hb => ?_, hM.os, hM.tape, hM.output, hM.sizes, hM.frame, fun b hb => ⟨.inl (hM.shp b hb).1, (hM.shp b hb).2⟩, hM.dep0⟩,
    hS.size, hS.defers, fun i hi => ?_, fun i hi => ?_, fun i b hb => ?_, hS.pin⟩
  · have hne : i ≠ s := fun h => by subst h; simp [St.fz] at hi
    have : ∃ c0, st.ob i = some c0 ∧ c = A.fzs s cs c0 := by
      simp only [St.fz, hne, if_false] at hi
      cases h : st.ob i with
      | none => rw [h] at hi; cases hi
      | some c0 => rw [h] at hi; simp at hi; exact ⟨c0, rfl, hi.symm⟩
    obtain ⟨c0, h6, rfl⟩ := this
    obtain ⟨arr', e', g1, g2, g3, g4, g5⟩ := hM.ob i c0 h6
    refine ⟨arr', e', g1, by rw [fzs_eq]; simpa using g2, fun j x hx => ?_, fun hf => hf.elim g4 (fun he => hne (hM.obne i s (by simp [St.O, h6]) hOs he)), g5⟩
    rw [fzs_eq, List.getElem?_map] at hx
    cases hy : c0[j]? with
    | none => rw [hy] at hx; cases hx
    | some y =>
      rw [hy] at hx
      simp only [Option.map_some, Option.some.injEq] at hx
      subst hx
      obtain ⟨g6, v, g7, g8⟩ := g3 j y hy
      exact ⟨by rw [fz_one]; exact g6, v, g7, hv g8⟩
  · have := hM.row r x hr
    refine this.mono (fun _ _ => rfl) (fun _ h => .inl h) (fun ⟨e, sz, rows, hx⟩ b hb' => ?_)
    subst hx
    have hL : st.L r := ⟨e, sz, rows, hr⟩
    exact ⟨rfl, fun hf => hf.elim id (fun he => (hM.rowob r s hL hOs (he ▸ hb')).elim)⟩
  · rcases hb with hb | hb
    · exact hM.F b hb
    · subst hb
      exact ⟨heap_lt h1, fun hlt => h5.elim (fun h => absurd hlt (by omega)) .inr, .inr ⟨arr, e, h1⟩⟩
  · obtain ⟨v, h6, h7⟩ := hS.tm i hi
    exact ⟨v, h6, hv h7⟩
  · show (st.tm i).fz s cs = .undef
    rw [hS.und i hi]; unfold A.fz; rfl
  · obtain ⟨h6, h7⟩ := hS.lent i b hb
    refine ⟨(hO i).2 ⟨h6, fun he => ?_⟩, h7⟩
    subst he
    have : i ∈ ls := (hE.mem hb).1
    have h8 : ls.contains i = true := by simpa using this
    rw [hl] at h8; cases h8
end Go.Tm
