/- The same, seen another way: nil as an empty row of one's own, or as an empty tree; a row that is only read from now on. -/
import Derived.Test.YtohcknmdebahiaaGreatDoorTm28
set_option linter.unusedVariables false
set_option linter.unusedSimpArgs false
namespace Go.Tm
open Go.RowKit

section
variable {P : Program} {n : Nat} {ls : List Nat} {st st1 : St}

theorem Le.refl (n : Nat) (ls : List Nat) (st : St) : Le n ls st st := fun E g a w _ hS => ⟨g, hS⟩
theorem Le.trans {st2 : St} (h : Le n ls st st1) (k : Le n ls st1 st2) : Le n ls st st2 := fun E g a w hE hS => by
  obtain ⟨g1, h1⟩ := h E g a w hE hS
  exact k E g1 a w hE h1

/-- Memory seen another way, then a slot. -/
theorem Le.slot {t : Nat} {x : A} (htm : st1.tm = st.tm) (h : ∀ (E : En) (g : Gh) (w : World) (v : Value), Mem E g st w → VR w g st.O st.R (st.tm t) v → ∃ g1, Mem E g1 st1 w ∧ Ext w w g g1 st.O st.R st1.O st1.R ∧ VR w g1 st1.O st1.R x v) (ht : t < n) :
    Le n ls st (st1.put (some t) x) := fun E g a w hE hS => by
  obtain ⟨v, h1, h2⟩ := hS.tm t ht
  obtain ⟨g1, h3, h4, h5⟩ := h E g w v hS.mem h2
  refine ⟨g1, h3.put _ _, hS.size, hS.defers, fun i hi => ?_, fun i hi => ?_, fun s b hs => ?_, fun v' hv' => ⟨(h4.R _ (hS.pin v' hv').1).1, (h4.R _ (hS.pin v' hv').1).2.trans (hS.pin v' hv').2⟩⟩
  · show ∃ u, _ ∧ VR w g1 st1.O st1.R (upd st1.tm t x i) u
    by_cases he : i = t
    · subst he
      exact ⟨v, h1, by rw [upd_eq]; exact h5⟩
    · obtain ⟨u, h6, h7⟩ := hS.tm i hi
      exact ⟨u, h6, by rw [upd_ne _ _ _ _ he, htm]; exact h7.mono h4⟩
  · show upd st1.tm t x i = A.undef
    rw [upd_ne _ _ _ _ (by omega), htm]
    exact hS.und i hi
  · obtain ⟨h6, h7⟩ := hS.lent s b hs
    exact ⟨(h4.O s h6).1, (h4.O s h6).2.trans h7⟩

theorem Mem.nilrow {E : En} {g : Gh} {w : World} {r : Nat} (h : Mem E g st w) (hr : st.rw r = none) (e sz : Nat) :
    Mem E { g with rw := upd g.rw r (.slice none 0 0) } { st with rw := upd st.rw r (some (.live e sz [])) } w ∧
      Ext w w g { g with rw := upd g.rw r (.slice none 0 0) } st.O st.R ({ st with rw := upd st.rw r (some (.live e sz [])) } : St).O ({ st with rw := upd st.rw r (some (.live e sz [])) } : St).R :=
  h.new_row (Calm.refl w) r hr (.slice none 0 0) e sz [] (fun _ => False) (fun _ _ _ => rfl) (fun b h => by cases h) (fun _ _ h => h.elim) (fun _ h => h.elim)
    ⟨[], ⟨by simp, .inl ⟨rfl, rfl⟩⟩, fun i row h => by simp at h, fun i row j x h => by simp at h, fun b h => by cases h⟩

/-- nil is an empty row of one's own. -/
theorem Le.empty (t r e sz : Nat) (ht : st.tm t = .nil) (hr : st.rw r = none) (hlt : Nat.blt t n = true) :
    Le n ls st (({ st with rw := upd st.rw r (some (.live e sz [])) } : St).put (some t) (.own r)) :=
  Le.slot rfl (fun E g w v hM hv => by
    rw [ht] at hv
    cases hv
    obtain ⟨h1, h2⟩ := hM.nilrow hr e sz
    refine ⟨_, h1, h2, ?_⟩
    have h3 : ({ g with rw := upd g.rw r (.slice none 0 0) } : Gh).rw r = Value.slice none 0 0 := upd_eq _ _ _
    have h4 := VR.own (w := w) (g := { g with rw := upd g.rw r (.slice none 0 0) }) (O := ({ st with rw := upd st.rw r (some (.live e sz [])) } : St).O) (R := ({ st with rw := upd st.rw r (some (.live e sz [])) } : St).R) r (by simp [St.R, upd_eq])
    rw [h3] at h4
    exact h4) (by simpa using hlt)
/-- nil is an empty tree. -/
theorem Le.nilT (t sz : Nat) (ht : st.tm t = .nil) (hlt : Nat.blt t n = true) : Le n ls st (st.put (some t) (.t (.sl sz []))) :=
  Le.slot rfl (fun E g w v hM hv => by
    rw [ht] at hv
    cases hv
    exact ⟨g, hM, Ext.refl _ _ _ _, .t _ _ (.sl0 _ _ _ (by first | assumption | exact fun _ => rfl | (intro h; cases h)))⟩) (by simpa using hlt)
/-- An empty tree, whatever the size of its elements. -/
theorem Le.resz (t sz sz' : Nat) (ht : st.tm t = .t (.sl sz [])) (hlt : Nat.blt t n = true) : Le n ls st (st.put (some t) (.t (.sl sz' []))) :=
  Le.slot rfl (fun E g w v hM hv => by
    rw [ht] at hv
    cases hv with
    | t _ _ h =>
      cases h with
      | sl0 _ _ _ ha => exact ⟨g, hM, Ext.refl _ _ _ _, .t _ _ (.sl0 _ _ _ (by first | assumption | exact fun _ => rfl | (intro h; cases h)))⟩
      | sl => exact ⟨g, hM, Ext.refl _ _ _ _, .t _ _ (.sl0 _ _ _ (by first | assumption | exact fun _ => rfl | (intro h; cases h)))⟩) (by simpa using hlt)
/-- A row that is only read from now on. -/
theorem Le.frz (t r e sz : Nat) (rows : List (List T)) (ht : st.tm t = .own r) (hr : st.rw r = some (.live e sz rows)) (hlt : Nat.blt t n = true) :
    Le n ls st (({ st with rw := upd st.rw r (some (.frz sz rows)) } : St).put (some t) (.t (.sl sz rows))) :=
  Le.slot rfl (fun E g w v hM hv => by
    rw [ht] at hv
    cases hv with
    | own _ hR =>
      obtain ⟨h1, h2⟩ := hM.frz_row r e sz rows hr
      have h3 : Rd w _ (.sl sz rows) (g.rw r) := h1.row r (.frz sz rows) (by simp [upd_eq])
      exact ⟨_, h1, h2, .t _ _ h3⟩) (by simpa using hlt)

/-- Variables' cells seen another way. -/
theorem Mem.reob {E : En} {g : Gh} {w : World} {s : Nat} {cells cells' : List A} (h : Mem E g st w) (hs : st.ob s = some cells) (hl : cells'.length ≤ cells.length)
    (hx : ∀ (j : Nat) (x' : A), cells'[j]? = some x' → ∃ x, cells[j]? = some x ∧ ∀ v, x.one = true → VR w g st.O st.R x v → x'.one = true ∧ VR w g st.O st.R x' v) : Mem E g { st with ob := upd st.ob s (some cells') } w := by
  have hO : ({ st with ob := upd st.ob s (some cells') } : St).O = st.O := by
    funext i
    unfold St.O
    simp only [upd]
    split
    · rename_i he
      rw [he, hs]
      rfl
    · rfl
  have hR : ({ st with ob := upd st.ob s (some cells') } : St).R = st.R := rfl
  have hL : ({ st with ob := upd st.ob s (some cells') } : St).L = st.L := rfl
  refine ⟨fun i c hi => ?_, by rw [hO]; exact h.obne, h.row, h.rowne, by rw [hO, hL]; exact h.rowob, h.F, h.os, h.tape, h.output, h.sizes, h.frame, h.shp, h.dep0⟩
  rw [hO, hR]
  by_cases he : i = s
  · subst he
    have hc : c = cells' := by simpa [upd_eq] using hi.symm
    subst hc
    obtain ⟨arr, e, h1, h2, h3, h4⟩ := h.ob i cells hs
    refine ⟨arr, e, h1, by omega, fun j x' hj => ?_, h4⟩
    obtain ⟨x, hxj, hxx⟩ := hx j x' hj
    obtain ⟨h5, v, h6, h7⟩ := h3 j x hxj
    exact ⟨(hxx v h5 h7).1, v, h6, (hxx v h5 h7).2⟩
  · exact h.ob i c (by simpa [upd, he] using hi)
theorem Le.mem (htm : st1.tm = st.tm) (h : ∀ (E : En) (g : Gh) (w : World), Mem E g st w → ∃ g1, Mem E g1 st1 w ∧ Ext w w g g1 st.O st.R st1.O st1.R) : Le n ls st st1 := fun E g a w hE hS => by
  obtain ⟨g1, h3, h4⟩ := h E g w hS.mem
  refine ⟨g1, h3, hS.size, hS.defers, fun i hi => ?_, fun i hi => ?_, fun s b hs => ?_, fun v' hv' => ⟨(h4.R _ (hS.pin v' hv').1).1, (h4.R _ (hS.pin v' hv').1).2.trans (hS.pin v' hv').2⟩⟩
  · obtain ⟨u, h6, h7⟩ := hS.tm i hi
    exact ⟨u, h6, by rw [htm]; exact h7.mono h4⟩
  · rw [htm]
    exact hS.und i hi
  · obtain ⟨h6, h7⟩ := hS.lent s b hs
    exact ⟨(h4.O s h6).1, (h4.O s h6).2.trans h7⟩
theorem St.O_upd {s : Nat} {cells cells' : List A} (hs : st.ob s = some cells) : ({ st with ob := upd st.ob s (some cells') } : St).O = st.O := by
  funext i
  unfold St.O
  simp only [upd]
  split
  · rename_i he
    rw [he, hs]
    rfl
  · rfl
/-- A cell that is nil is an empty row of one's own. -/
theorem Le.emptyO (s j r e sz : Nat) (cells : List A) (hs : st.ob s = some cells) (hj : cells[j]? = some .nil) (hr : st.rw r = none) :
    Le n ls st { tm := st.tm, ob := upd st.ob s (some (cells.set j (.own r))), rw := upd st.rw r (some (.live e sz [])) } :=
  Le.mem rfl fun E g w hM => by
    obtain ⟨h1, h2⟩ := hM.nilrow hr e sz
    have h3 : ({ g with rw := upd g.rw r (.slice none 0 0) } : Gh).rw r = Value.slice none 0 0 := upd_eq _ _ _
    have h4 := VR.own (w := w) (g := { g with rw := upd g.rw r (.slice none 0 0) }) (O := ({ st with rw := upd st.rw r (some (.live e sz [])) } : St).O) (R := ({ st with rw := upd st.rw r (some (.live e sz [])) } : St).R) r (by simp [St.R, upd_eq])
    rw [h3] at h4
    have hs' : ({ st with rw := upd st.rw r (some (.live e sz [])) } : St).ob s = some cells := hs
    have hO := St.O_upd (cells' := cells.set j (.own r)) hs'
    refine ⟨_, h1.reob hs' (cells' := cells.set j (.own r)) (by simp) (fun i x' hi => ?_), ⟨h2.same, h2.F, fun s hs => ?_, h2.R, h2.d, h2.s⟩⟩
    · by_cases he : j = i
      · subst he
        refine ⟨.nil, hj, fun v _ hv => ?_⟩
        have hlt : j < cells.length := (List.getElem?_eq_some_iff.1 hj).1
        rw [List.getElem?_set_self hlt] at hi
        cases hi
        cases hv
        exact ⟨rfl, h4⟩
      · rw [List.getElem?_set_ne he] at hi
        exact ⟨x', hi, fun v h1 h2 => ⟨h1, h2⟩⟩
    · have := h2.O s hs
      exact ⟨by rw [← hO] at this; exact this.1, this.2⟩
/-- A cell that is nil is an empty tree. -/
theorem Le.nilO (s j sz : Nat) (cells : List A) (hs : st.ob s = some cells) (hj : cells[j]? = some .nil) : Le n ls st { st with ob := upd st.ob s (some (cells.set j (.t (.sl sz [])))) } :=
  Le.mem rfl fun E g w hM => by
    have hO := St.O_upd (cells' := cells.set j (.t (.sl sz []))) hs
    refine ⟨g, hM.reob hs (by simp) (fun i x' hi => ?_), ⟨fun _ _ => rfl, fun _ h => h, fun s hs => ⟨by rw [hO]; exact hs, rfl⟩, fun _ h => ⟨h, rfl⟩, ⟨rfl, rfl, rfl⟩, rfl, rfl⟩⟩
    by_cases he : j = i
    · subst he
      refine ⟨.nil, hj, fun v _ hv => ?_⟩
      have hlt : j < cells.length := (List.getElem?_eq_some_iff.1 hj).1
      rw [List.getElem?_set_self hlt] at hi
      cases hi
      cases hv
      exact ⟨rfl, .t _ _ (.sl0 _ _ _ (by first | assumption | exact fun _ => rfl | (intro h; cases h)))⟩
    · rw [List.getElem?_set_ne he] at hi
      exact ⟨x', hi, fun v h1 h2 => ⟨h1, h2⟩⟩
end
end Go.Tm
namespace Go.Tm
section
variable {P : Program} {n : Nat} {ls : List Nat} {st st1 : St}
/-- A cell of a struct by value, seen another way. -/
theorem VR.setcell {w : World} {g g1 : Gh} {O R O1 R1 : Nat → Prop} {l : List A} {v : Value} {j : Nat} {x y : A} (h : VR w g O R (.agg l) v) (hE : Ext w w g g1 O R O1 R1) (hj : l[j]? = some x) (hxy : ∀ u, VR w g O R x u → VR w g1 O1 R1 y u) : VR w g1 O1 R1 (.agg (l.set j y)) v := by
  cases h with
  | agg _ vs hl hx =>
    refine .agg _ vs (by simpa using hl) fun i z u hi hu => ?_
    by_cases he : j = i
    · subst he
      have hlt : j < l.length := (List.getElem?_eq_some_iff.1 hj).1
      rw [List.getElem?_set_self hlt] at hi
      cases hi
      exact hxy u (hx j x u hj hu)
    · rw [List.getElem?_set_ne he] at hi
      exact (hx i z u hi hu).mono hE
theorem Le.nilA (t j sz : Nat) (l : List A) (ht : st.tm t = .agg l) (hj : l[j]? = some .nil) (hlt : Nat.blt t n = true) : Le n ls st (st.put (some t) (.agg (l.set j (.t (.sl sz []))))) :=
  Le.slot rfl (fun E g w v hM hv => by
    rw [ht] at hv
    exact ⟨g, hM, Ext.refl _ _ _ _, hv.setcell (Ext.refl _ _ _ _) hj fun u hu => by cases hu; exact .t _ _ (.sl0 _ _ _ (by first | assumption | exact fun _ => rfl | (intro h; cases h)))⟩) (by simpa using hlt)
theorem Le.frzA (t j r e sz : Nat) (l : List A) (rows : List (List T)) (ht : st.tm t = .agg l) (hj : l[j]? = some (.own r)) (hr : st.rw r = some (.live e sz rows)) (hlt : Nat.blt t n = true) :
    Le n ls st (({ st with rw := upd st.rw r (some (.frz sz rows)) } : St).put (some t) (.agg (l.set j (.t (.sl sz rows))))) :=
  Le.slot rfl (fun E g w v hM hv => by
    rw [ht] at hv
    obtain ⟨h1, h2⟩ := hM.frz_row r e sz rows hr
    have h3 : Rd w _ (.sl sz rows) (g.rw r) := h1.row r (.frz sz rows) (by simp [upd_eq])
    exact ⟨_, h1, h2, hv.setcell h2 hj fun u hu => by cases hu; exact .t _ _ h3⟩) (by simpa using hlt)
theorem Le.emptyA (t j r e sz : Nat) (l : List A) (ht : st.tm t = .agg l) (hj : l[j]? = some .nil) (hr : st.rw r = none) (hlt : Nat.blt t n = true) :
    Le n ls st (({ st with rw := upd st.rw r (some (.live e sz [])) } : St).put (some t) (.agg (l.set j (.own r)))) :=
  Le.slot rfl (fun E g w v hM hv => by
    rw [ht] at hv
    obtain ⟨h1, h2⟩ := hM.nilrow hr e sz
    have h3 : ({ g with rw := upd g.rw r (.slice none 0 0) } : Gh).rw r = Value.slice none 0 0 := upd_eq _ _ _
    have h4 := VR.own (w := w) (g := { g with rw := upd g.rw r (.slice none 0 0) }) (O := ({ st with rw := upd st.rw r (some (.live e sz [])) } : St).O) (R := ({ st with rw := upd st.rw r (some (.live e sz [])) } : St).R) r (by simp [St.R, upd_eq])
    rw [h3] at h4
    exact ⟨_, h1, h2, hv.setcell h2 hj fun u hu => by cases hu; exact h4⟩) (by simpa using hlt)
/-- A cell of a variable: a row that is only read from now on. -/
theorem Le.frzO (s j r e sz : Nat) (cells : List A) (rows : List (List T)) (hs : st.ob s = some cells) (hj : cells[j]? = some (.own r)) (hr : st.rw r = some (.live e sz rows)) :
    Le n ls st { tm := st.tm, ob := upd st.ob s (some (cells.set j (.t (.sl sz rows)))), rw := upd st.rw r (some (.frz sz rows)) } :=
  Le.mem rfl fun E g w hM => by
    obtain ⟨h1, h2⟩ := hM.frz_row r e sz rows hr
    have h3 : Rd w _ (.sl sz rows) (g.rw r) := h1.row r (.frz sz rows) (by simp [upd_eq])
    have hs' : ({ st with rw := upd st.rw r (some (.frz sz rows)) } : St).ob s = some cells := hs
    have hO := St.O_upd (cells' := cells.set j (.t (.sl sz rows))) hs'
    refine ⟨_, h1.reob hs' (cells' := cells.set j (.t (.sl sz rows))) (by simp) (fun i x' hi => ?_), ⟨h2.same, h2.F, fun s hs => ?_, h2.R, h2.d, h2.s⟩⟩
    · by_cases he : j = i
      · subst he
        refine ⟨.own r, hj, fun v _ hv => ?_⟩
        have hlt : j < cells.length := (List.getElem?_eq_some_iff.1 hj).1
        rw [List.getElem?_set_self hlt] at hi
        cases hi
        cases hv
        exact ⟨rfl, .t _ _ h3⟩
      · rw [List.getElem?_set_ne he] at hi
        exact ⟨x', hi, fun v h1 h2 => ⟨h1, h2⟩⟩
    · have := h2.O s hs
      exact ⟨by rw [← hO] at this; exact this.1, this.2⟩
end
end Go.Tm
