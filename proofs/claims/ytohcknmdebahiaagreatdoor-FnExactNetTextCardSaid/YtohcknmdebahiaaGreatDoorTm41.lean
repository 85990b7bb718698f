/- A row that is only read, in a place, seen as the tree that it is. -/
import Derived.Test.YtohcknmdebahiaaGreatDoorTm40
set_option linter.unusedVariables false
set_option linter.unusedSimpArgs false
namespace Go.Tm
open Go.RowKit
section
variable {P : Program} {n : Nat} {ls : List Nat} {st st1 : St}
theorem Le.see (t r sz : Nat) (rows : List (List T)) (ht : st.tm t = .own r) (hr : st.rw r = some (.frz sz rows)) (hlt : Nat.blt t n = true) :
    Le n ls st (st.put (some t) (.t (.sl sz rows))) :=
  Le.slot rfl (fun E g w v hM hv => by
    rw [ht] at hv
    cases hv with
    | own _ hR =>
      have h3 : Rd w _ (.sl sz rows) (g.rw r) := hM.row r (.frz sz rows) hr
      exact ⟨g, hM, Ext.refl _ _ _ _, .t _ _ h3⟩) (by simpa using hlt)
theorem Le.seeA (t j r sz : Nat) (l : List A) (rows : List (List T)) (ht : st.tm t = .agg l) (hj : l[j]? = some (.own r)) (hr : st.rw r = some (.frz sz rows)) (hlt : Nat.blt t n = true) :
    Le n ls st (st.put (some t) (.agg (l.set j (.t (.sl sz rows))))) :=
  Le.slot rfl (fun E g w v hM hv => by
    rw [ht] at hv
    have h3 : Rd w _ (.sl sz rows) (g.rw r) := hM.row r (.frz sz rows) hr
    exact ⟨g, hM, Ext.refl _ _ _ _, hv.setcell (Ext.refl _ _ _ _) hj fun u hu => by cases hu; exact .t _ _ h3⟩) (by simpa using hlt)
theorem Le.seeO (s j r sz : Nat) (cells : List A) (rows : List (List T)) (hs : st.ob s = some cells) (hj : cells[j]? = some (.own r)) (hr : st.rw r = some (.frz sz rows)) :
    Le n ls st { tm := st.tm, ob := upd st.ob s (some (cells.set j (.t (.sl sz rows)))), rw := st.rw } :=
  Le.mem rfl fun E g w hM => by
    have h3 : Rd w _ (.sl sz rows) (g.rw r) := hM.row r (.frz sz rows) hr
    have hO := St.O_upd (cells' := cells.set j (.t (.sl sz rows))) hs
    refine ⟨g, hM.reob hs (cells' := cells.set j (.t (.sl sz rows))) (by simp) (fun i x' hi => ?_), ?_⟩
    · by_cases he : j = i
      · subst he
        refine ⟨.own r, hj, fun v _ hv => ?_⟩
        have hlt : j < cells.length := (List.getElem?_eq_some_iff.1 hj).1
        rw [List.getElem?_set_self hlt] at hi
        cases hi
        cases hv
        exact ⟨rfl, .t _ _ h3⟩
      · rw [List.getElem?_set_ne he] at hi
        exact ⟨x', hi, fun v h1 h2 => ⟨h1, h2⟩⟩
    · have h2 := Ext.refl w g st.O st.R
      refine ⟨h2.same, h2.F, fun s hs => ?_, h2.R, h2.d, h2.s⟩
      have := h2.O s hs
      exact ⟨by rw [← hO] at this; exact this.1, this.2⟩
end
end Go.Tm
