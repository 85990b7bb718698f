/- Handing on and taking in. -/
import Derived.Test.YtohcknmdebahiaaGreatDoorTm12
set_option linter.unusedVariables false
set_option linter.unusedSimpArgs false
namespace Go.Tm
open Go.RowKit

section
variable {P : Program} {E : En} {g : Gh} {st : St} {w : World}

/-- The same, where variables are lent besides. -/
structure Lnd (g : Gh) (st : St) (g1 : Gh) (st1 : St) : Prop where
  L : ∀ r, st1.L r → st.L r
  lent : ∀ s, st1.ob s = st.ob s ∨ ((∃ c cs, st.ob s = some (c :: cs)) ∧ st1.ob s = some [])
  ob : g1.ob = g.ob
  rw : g1.rw = g.rw
  F : ∀ b, g1.F b → g.F b ∨ ∃ r, st.L r ∧ ¬ st1.L r ∧ (g.rw r).ownBlock = some b
  tm : st1.tm = st.tm
theorem Lnd.refl (g : Gh) (st : St) : Lnd g st g st := ⟨fun _ h => h, fun _ => .inl rfl, rfl, rfl, fun _ h => .inl h, rfl⟩
theorem Sub.lnd {g1 : Gh} {st1 : St} (h : Sub g st g1 st1) : Lnd g st g1 st1 := ⟨h.L, fun s => .inl (by rw [h.eob]), h.ob, h.rw, h.F, h.tm⟩
theorem Lnd.trans {g1 g2 g3 : Gh} {s1 s2 s3 : St} (h : Lnd g1 s1 g2 s2) (k : Lnd g2 s2 g3 s3) : Lnd g1 s1 g3 s3 := by
  refine ⟨fun r hr => h.L r (k.L r hr), fun s => ?_, k.ob.trans h.ob, k.rw.trans h.rw, fun b hb => ?_, k.tm.trans h.tm⟩
  · rcases h.lent s with h1 | ⟨h1, h2⟩
    · rcases k.lent s with h3 | ⟨h3, h4⟩
      · exact .inl (h3.trans h1)
      · exact .inr ⟨h1 ▸ h3, h4⟩
    · rcases k.lent s with h3 | ⟨h3, h4⟩
      · exact .inr ⟨h1, h3.trans h2⟩
      · exact .inr ⟨h1, h4⟩
  · rcases k.F b hb with h1 | ⟨r, h1, h2, h3⟩
    · rcases h.F b h1 with h4 | ⟨r, h4, h5, h6⟩
      · exact .inl h4
      · exact .inr ⟨r, h4, fun h7 => h5 (k.L r h7), h6⟩
    · exact .inr ⟨r, h.L r h1, h2, by rw [← h.rw]; exact h3⟩
theorem Lnd.O {g1 : Gh} {st1 : St} (h : Lnd g st g1 st1) (s : Nat) : st1.O s ↔ st.O s := by
  unfold St.O
  rcases h.lent s with h1 | ⟨⟨c, cs, h1⟩, h2⟩
  · rw [h1]
  · rw [h1, h2]; simp

/-- The blocks that go along: rows that were one's own, variables that are lent. -/
structure Tk (g : Gh) (st : St) (g1 : Gh) (st1 : St) (bs : List Nat) : Prop where
  nodup : bs.Nodup
  nf : ∀ b ∈ bs, ¬ g1.F b
  of : ∀ b ∈ bs, (∃ r, st.L r ∧ ¬ st1.L r ∧ (g.rw r).ownBlock = some b) ∨ (∃ s, (∃ c cs, st.ob s = some (c :: cs)) ∧ st1.ob s = some [] ∧ g.ob s = b)

theorem Tk.nil (g : Gh) (st : St) (g1 : Gh) (st1 : St) : Tk g st g1 st1 [] := ⟨List.nodup_nil, by simp, by simp⟩

theorem Tk.app {g1 g2 : Gh} {st1 st2 : St} {bs bs' : List Nat} (hM : Mem E g st w) (h : Tk g st g1 st1 bs) (hs : Lnd g st g1 st1) (k : Tk g1 st1 g2 st2 bs') (ks : Lnd g1 st1 g2 st2) : Tk g st g2 st2 (bs ++ bs') := by
  have hO : ∀ {s}, (∃ c cs, st.ob s = some (c :: cs)) → st.O s := fun ⟨c, cs, h⟩ => by simp [St.O, h]
  have up : ∀ {s}, (∃ c cs, st1.ob s = some (c :: cs)) → ∃ c cs, st.ob s = some (c :: cs) := fun {s} ⟨c, cs, h1⟩ => by
    rcases hs.lent s with h2 | ⟨h2, _⟩
    · exact ⟨c, cs, h2 ▸ h1⟩
    · exact h2
  -- a block of the first ones is none of a row that lives on
  have apart : ∀ b ∈ bs, ∀ r, st1.L r → (g.rw r).ownBlock ≠ some b := fun b hb r hr he => by
    rcases h.of b hb with ⟨r', h1, h2, h3⟩ | ⟨s, h1, _, h3⟩
    · exact h2 (hM.rowne r r' b (hs.L r hr) h1 he h3 ▸ hr)
    · exact hM.rowob r s (hs.L r hr) (hO h1) (h3 ▸ he)
  refine ⟨List.nodup_append.2 ⟨h.nodup, k.nodup, fun b hb b' hb' he => ?_⟩, fun b hb => ?_, fun b hb => ?_⟩
  · subst he
    rcases k.of b hb' with ⟨r, h1, _, h3⟩ | ⟨s, h1, _, h3⟩
    · exact apart b hb r h1 (by rw [← hs.rw]; exact h3)
    · rw [hs.ob] at h3
      rcases h.of b hb with ⟨r', h4, _, h6⟩ | ⟨s', h4, h5, h6⟩
      · exact hM.rowob r' s h4 (hO (up h1)) (h3 ▸ h6)
      · have := hM.obne s s' (hO (up h1)) (hO h4) (h3.trans h6.symm)
        subst this
        obtain ⟨c, cs, h1⟩ := h1
        rw [h5] at h1
        cases h1
  · rcases List.mem_append.1 hb with hb | hb
    · intro hf
      rcases ks.F b hf with h1 | ⟨r, h1, _, h3⟩
      · exact h.nf b hb h1
      · exact apart b hb r h1 (by rw [← hs.rw]; exact h3)
    · exact k.nf b hb
  · rcases List.mem_append.1 hb with hb | hb
    · rcases h.of b hb with ⟨r, h1, h2, h3⟩ | ⟨s, h1, h2, h3⟩
      · exact .inl ⟨r, h1, fun hr => h2 (ks.L r hr), h3⟩
      · refine .inr ⟨s, h1, ?_, h3⟩
        rcases ks.lent s with h4 | ⟨_, h4⟩
        · rw [h4, h2]
        · exact h4
    · rcases k.of b hb with ⟨r, h1, h2, h3⟩ | ⟨s, h1, h2, h3⟩
      · exact .inl ⟨r, hs.L r h1, h2, by rw [← hs.rw]; exact h3⟩
      · exact .inr ⟨s, up h1, h2, by rw [← hs.ob]; exact h3⟩

theorem Sub.gone (r : Nat) : Sub g st g { st with rw := upd st.rw r (some .gone) } := by
  refine ⟨fun r' hr' => ?_, rfl, rfl, rfl, fun _ h => .inl h, rfl⟩
  rcases L_upd.1 hr' with ⟨rfl, _, _, _, hx⟩ | ⟨_, h3⟩
  · cases hx
  · exact h3

theorem toC_run {α : Type} {st' : St} {m : Bool} {x : A} {k : C → MA α} {y : α} {v : Value} (hM : Mem E g st w) (hv : VR w g st.O st.R x v) (h : (x.toC m k).run st = some (y, st')) :
    ∃ c st1 g1 bs, Mem E g1 st1 w ∧ Ext w w g g1 st.O st.R st1.O st1.R ∧ Sub g st g1 st1 ∧ (k c).run st1 = some (y, st') ∧ CV w g1.F c v bs ∧ Tk g st g1 st1 bs := by
  have frz : (x.toT fun x => k (.t x)).run st = some (y, st') → ∃ c st1 g1 bs, Mem E g1 st1 w ∧ Ext w w g g1 st.O st.R st1.O st1.R ∧ Sub g st g1 st1 ∧ (k c).run st1 = some (y, st') ∧ CV w g1.F c v bs ∧ Tk g st g1 st1 bs := by
    intro h
    obtain ⟨t, st1, g1, hM1, hE1, hs1, h1, hr, ho⟩ := toT_run hM hv h
    exact ⟨_, st1, g1, [], hM1, hE1, hs1, h1, .t t v hr, Tk.nil _ _ _ _⟩
  unfold A.toC at h
  split at h
  · rename_i r
    simp only [MA.run] at h
    have hgv : v = g.rw r := by cases hv; rfl
    subst hgv
    cases hx : st.rw r with
    | none => simp [hx, MA.run] at h
    | some xx =>
      cases xx with
      | live e sz rows =>
        simp only [hx, MA.run] at h
        obtain ⟨hM1, hE1⟩ := hM.gone_row r _ hx
        have hL : st.L r := ⟨_, _, _, hx⟩
        obtain ⟨inner, hown, hR, hf⟩ := (hM.row r _ hx).rcs
        refine ⟨_, _, g, (g.rw r).ownBlock.toList, hM1, hE1, Sub.gone r, h, .ow e sz rows _ inner hown hR, ?_, fun b hb => ?_, fun b hb => ?_⟩
        · cases (g.rw r).ownBlock <;> simp
        · exact (hM.row_nf hL (by simpa using hb)).1
        · refine .inl ⟨r, hL, fun hl => ?_, by simpa using hb⟩
          rcases L_upd.1 hl with ⟨_, _, _, _, hx⟩ | ⟨h3, _⟩
          · cases hx
          · exact h3 rfl
      | frz sz rows =>
        simp only [hx] at h
        exact ⟨_, st, g, [], hM, Ext.refl _ _ _ _, Sub.refl _ _, h, .t _ _ (hM.row r _ hx), Tk.nil _ _ _ _⟩
      | gone => simp [hx, MA.run] at h
  · cases hv with
    | nil => exact ⟨_, st, g, [], hM, Ext.refl _ _ _ _, Sub.refl _ _, h, .nil, Tk.nil _ _ _ _⟩
  · exact frz h

theorem toCs_run {α : Type} {st' : St} {m : Bool} : ∀ {l : List A} {st : St} {g : Gh} {k : List C → MA α} {y : α} {vs : List Value}, Mem E g st w → vs.length = l.length → (∀ (j : Nat) (x : A), l[j]? = some x → ∃ u, vs[j]? = some u ∧ VR w g st.O st.R x u) → (A.toCs m l k).run st = some (y, st') →
    ∃ cs st1 g1 bs, Mem E g1 st1 w ∧ Ext w w g g1 st.O st.R st1.O st1.R ∧ Sub g st g1 st1 ∧ (k cs).run st1 = some (y, st') ∧ CVs w g1.F cs vs bs ∧ Tk g st g1 st1 bs
  | [], st, g, k, y, vs, hM, hl, hv, h => by
    have : vs = [] := List.eq_nil_of_length_eq_zero hl
    subst this
    exact ⟨[], st, g, [], hM, Ext.refl _ _ _ _, Sub.refl _ _, h, .nil, Tk.nil _ _ _ _⟩
  | x :: l, st, g, k, y, vs, hM, hl, hv, h => by
    obtain ⟨v, vs, rfl⟩ : ∃ v vs', vs = v :: vs' := by
      cases vs with
      | nil => simp at hl
      | cons v vs => exact ⟨v, vs, rfl⟩
    obtain ⟨u, hu, hx⟩ := hv 0 x rfl
    simp at hu
    subst hu
    obtain ⟨c, st1, g1, b1, hM1, hE1, hs1, h1, hc1, ht1⟩ := toC_run hM hx h
    obtain ⟨cs, st2, g2, b2, hM2, hE2, hs2, h2, hc2, ht2⟩ := toCs_run hM1 (by simpa using hl) (fun j y hy => by
      obtain ⟨u, hu, hx⟩ := hv (j + 1) y (by simpa using hy)
      exact ⟨u, by simpa using hu, hx.mono hE1⟩) h1
    exact ⟨c :: cs, st2, g2, b1 ++ b2, hM2, hE1.trans hE2, hs1.trans hs2, h2, .cons _ _ _ _ _ _ (hc1.mono hE2.same hE2.F (fun _ _ => rfl)) hc2, ht1.app hM hs1.lnd ht2 hs2.lnd⟩

theorem obLend_run {α : Type} {st' : St} {s : Nat} {k : List C → MA α} {y : α} (hM : Mem E g st w) (h : (obLend s k).run st = some (y, st')) :
    ∃ cs st1 g1 bs, Mem E g1 st1 w ∧ Ext w w g g1 st.O st.R st1.O st1.R ∧ Lnd g st g1 st1 ∧ (k cs).run st1 = some (y, st') ∧ VV w g1.F (.ptr cs) (.pointer (some ⟨g.ob s, 0, none⟩)) bs ∧ Tk g st g1 st1 bs ∧ ∀ s', s' ≠ s → st1.ob s' = st.ob s' := by
  unfold obLend at h
  simp only [MA.run] at h
  split at h
  rotate_left
  · exact (fail_inv h).elim
  rename_i c cells hc
  obtain ⟨arr, e, hh, hl, hv, hnf⟩ := hM.ob s _ hc
  have hO : st.O s := by simp [St.O, hc]
  have hvl : (arr.toList.take (c :: cells).length).length = (c :: cells).length := by
    rw [List.length_take, Array.length_toList]; exact Nat.min_eq_left hl
  obtain ⟨cs, st1, g1, b1, hM1, hE1, hs1, h1, hc1, ht1⟩ := toCs_run (vs := arr.toList.take (c :: cells).length) hM hvl (fun j x hj => by
    obtain ⟨_, u, hu, hr⟩ := hv j x hj
    refine ⟨u, ?_, hr⟩
    rw [List.getElem?_take, if_pos (List.getElem?_eq_some_iff.1 hj).1]
    simpa using hu) h
  simp only [MA.run] at h1
  have hc1' : st1.ob s = some (c :: cells) := by rw [hs1.eob, hc]
  have hob1 : g1.ob s = g.ob s := by rw [hs1.ob]
  obtain ⟨hM2, hE2⟩ := hM1.set_ob (w' := w) (Calm.refl w) s _ [] arr e hc1' (by rw [hob1]; exact hh) (fun _ _ _ => rfl) (by simp) (by simp)
  have hlnd : Lnd g1 st1 g1 { st1 with ob := upd st1.ob s (some []) } := ⟨fun _ h => h, fun s' => by
    by_cases he : s' = s
    · subst he; exact .inr ⟨⟨c, cells, hc1'⟩, upd_eq _ _ _⟩
    · exact .inl (upd_ne _ _ _ _ he), rfl, rfl, fun _ h => .inl h, rfl⟩
  have hTk : Tk g1 st1 g1 { st1 with ob := upd st1.ob s (some []) } [g.ob s] := ⟨by simp, fun b hb => by
    simp only [List.mem_singleton] at hb
    subst hb
    exact hob1 ▸ (hM1.ob_nf (by simp [St.O, hc1'])).1, fun b hb => by
    simp only [List.mem_singleton] at hb
    exact .inr ⟨s, ⟨c, cells, hc1'⟩, upd_eq _ _ _, hob1.trans hb.symm⟩⟩
  have hT := ht1.app hM hs1.lnd hTk hlnd
  refine ⟨cs, _, g1, g.ob s :: b1, hM2, hE1.trans hE2, hs1.lnd.trans hlnd, h1, .ptr cs _ arr e _ b1 hh (by rw [hvl]) (by rw [hvl]; exact hl) hc1, ⟨?_, fun b hb => hT.nf b ?_, fun b hb => hT.of b ?_⟩, fun s' hs' => (upd_ne _ _ _ _ hs').trans (by rw [hs1.eob])⟩
  · have := hT.nodup
    rw [List.nodup_append] at this
    rw [List.nodup_cons]
    exact ⟨fun hm => this.2.2 _ hm _ (by simp) rfl, this.1⟩
  · rcases List.mem_cons.1 hb with rfl | hb <;> simp [*]
  · rcases List.mem_cons.1 hb with rfl | hb <;> simp [*]

mutual
theorem toV_run {α : Type} {st' : St} {m : Bool} : ∀ (x : A) {st : St} {g : Gh} {k : V → MA α} {y : α} {v : Value}, Mem E g st w → VR w g st.O st.R x v → (A.toV m x k).run st = some (y, st') →
    ∃ c st1 g1 bs, Mem E g1 st1 w ∧ Ext w w g g1 st.O st.R st1.O st1.R ∧ Sub g st g1 st1 ∧ (k c).run st1 = some (y, st') ∧ VV w g1.F c v bs ∧ Tk g st g1 st1 bs ∧ ∀ c', c ≠ .ptr c' := by
  intro x st g k y v hM hv h
  have cell : (x.toC m fun c => k (.one c)).run st = some (y, st') → ∃ c st1 g1 bs, Mem E g1 st1 w ∧ Ext w w g g1 st.O st.R st1.O st1.R ∧ Sub g st g1 st1 ∧ (k c).run st1 = some (y, st') ∧ VV w g1.F c v bs ∧ Tk g st g1 st1 bs ∧ ∀ c', c ≠ .ptr c' := by
    intro h
    obtain ⟨c, st1, g1, bs, hM1, hE1, hs1, h1, hc, ht⟩ := toC_run hM hv h
    exact ⟨_, st1, g1, bs, hM1, hE1, hs1, h1, .one c v bs hc, ht, by simp⟩
  unfold A.toV at h
  split at h
  · rename_i l
    cases hv with
    | agg l vs hl hx =>
      obtain ⟨cs, st1, g1, bs, hM1, hE1, hs1, h1, hc, ht⟩ := toCs_run hM hl.symm (fun j x hj => ⟨_, List.getElem?_eq_getElem (by rw [← hl]; exact (List.getElem?_eq_some_iff.1 hj).1), hx j x _ hj (List.getElem?_eq_getElem (by rw [← hl]; exact (List.getElem?_eq_some_iff.1 hj).1))⟩) h
      exact ⟨_, st1, g1, bs, hM1, hE1, hs1, h1, .agg cs vs bs hc, ht, by simp⟩
  · rename_i ts
    cases hv with
    | fadr cells b off u hF hx hr => exact ⟨_, st, g, [], hM, Ext.refl _ _ _ _, Sub.refl _ _, h, .fptr ts b off u hF hx hr, Tk.nil _ _ _ _, by simp⟩
  · rename_i f caps
    cases hv with
    | clo f caps vs hl hx =>
      obtain ⟨cs, st1, g1, bs, hM1, hE1, hs1, h1, hc, ht⟩ := toVs_run caps hM hl.symm (fun j x hj => ⟨_, List.getElem?_eq_getElem (by rw [← hl]; exact (List.getElem?_eq_some_iff.1 hj).1), hx j x _ hj (List.getElem?_eq_getElem (by rw [← hl]; exact (List.getElem?_eq_some_iff.1 hj).1))⟩) h
      exact ⟨_, st1, g1, bs, hM1, hE1, hs1, h1, .clo f cs vs bs hc, ht, by simp⟩
  · rename_i l
    cases hv with
    | tup l vs hl hx =>
      obtain ⟨cs, st1, g1, bs, hM1, hE1, hs1, h1, hc, ht⟩ := toVs_run l hM hl.symm (fun j x hj => ⟨_, List.getElem?_eq_getElem (by rw [← hl]; exact (List.getElem?_eq_some_iff.1 hj).1), hx j x _ hj (List.getElem?_eq_getElem (by rw [← hl]; exact (List.getElem?_eq_some_iff.1 hj).1))⟩) h
      exact ⟨_, st1, g1, bs, hM1, hE1, hs1, h1, .tup cs vs bs hc, ht, by simp⟩
  · exact cell h
theorem toVs_run {α : Type} {st' : St} {m : Bool} : ∀ (l : List A) {st : St} {g : Gh} {k : List V → MA α} {y : α} {vs : List Value}, Mem E g st w → vs.length = l.length → (∀ (j : Nat) (x : A), l[j]? = some x → ∃ u, vs[j]? = some u ∧ VR w g st.O st.R x u) → (A.toVs m l k).run st = some (y, st') →
    ∃ cs st1 g1 bs, Mem E g1 st1 w ∧ Ext w w g g1 st.O st.R st1.O st1.R ∧ Sub g st g1 st1 ∧ (k cs).run st1 = some (y, st') ∧ VVs w g1.F cs vs bs ∧ Tk g st g1 st1 bs
  | [], st, g, k, y, vs, hM, hl, hv, h => by
    have : vs = [] := List.eq_nil_of_length_eq_zero hl
    subst this
    unfold A.toVs at h
    exact ⟨[], st, g, [], hM, Ext.refl _ _ _ _, Sub.refl _ _, h, .nil, Tk.nil _ _ _ _⟩
  | x :: l, st, g, k, y, vs, hM, hl, hv, h => by
    obtain ⟨v, vs, rfl⟩ : ∃ v vs', vs = v :: vs' := by
      cases vs with
      | nil => simp at hl
      | cons v vs => exact ⟨v, vs, rfl⟩
    obtain ⟨u, hu, hx⟩ := hv 0 x rfl
    simp at hu
    subst hu
    unfold A.toVs at h
    obtain ⟨c, st1, g1, b1, hM1, hE1, hs1, h1, hc1, ht1, _⟩ := toV_run x hM hx h
    obtain ⟨cs, st2, g2, b2, hM2, hE2, hs2, h2, hc2, ht2⟩ := toVs_run l hM1 (by simpa using hl) (fun j y hy => by
      obtain ⟨u, hu, hx⟩ := hv (j + 1) y (by simpa using hy)
      exact ⟨u, by simpa using hu, hx.mono hE1⟩) h1
    exact ⟨c :: cs, st2, g2, b1 ++ b2, hM2, hE1.trans hE2, hs1.trans hs2, h2, .cons _ _ _ _ _ _ (hc1.mono hE2.same hE2.F (fun _ _ => rfl)) hc2, ht1.app hM hs1.lnd ht2 hs2.lnd⟩
end

/-- What the arguments' values have to do with what was handed on. -/
inductive ArgsR (g : Gh) : List A → List V → List Value → Prop
  | nil : ArgsR g [] [] []
  | obj (s : Nat) (cs : List C) (as : List A) (vs : List V) (us : List Value) (h : ArgsR g as vs us) : ArgsR g (.obj s 0 :: as) (.ptr cs :: vs) (.pointer (some ⟨g.ob s, 0, none⟩) :: us)
  | oth (a : A) (x : V) (u : Value) (as : List A) (vs : List V) (us : List Value) (ha : ∀ s, a ≠ .obj s 0) (hx : ∀ c, x ≠ .ptr c) (h : ArgsR g as vs us) : ArgsR g (a :: as) (x :: vs) (u :: us)

theorem ArgsR.congr {g g1 : Gh} (e : g1.ob = g.ob) {as : List A} {vs : List V} {us : List Value} (h : ArgsR g1 as vs us) : ArgsR g as vs us := by
  induction h with
  | nil => exact .nil
  | obj s cs as vs us h ih => rw [e]; exact .obj s cs as vs us ih
  | oth a x u as vs us ha hx h ih => exact .oth a x u as vs us ha hx ih
theorem ArgsR.congr' {g g1 : Gh} (e : g1.ob = g.ob) {as : List A} {vs : List V} {us : List Value} (h : ArgsR g as vs us) : ArgsR g1 as vs us := h.congr e.symm
theorem slots_oth {a : A} {r : List A} (h : ∀ s, a ≠ .obj s 0) : slots (a :: r) = slots r := by
  cases a with
  | obj s o =>
    cases o with
    | zero => exact absurd rfl (h s)
    | succ o => rfl
  | _ => rfl

theorem allTs_run : ∀ {l : List A} {ts : List T}, allTs l = some ts → l = ts.map A.t
  | [], ts, h => by simp [allTs] at h; subst h; rfl
  | x :: l, ts, h => by
    unfold allTs at h
    split at h
    · rename_i heq; cases heq
    · rename_i y r heq
      injection heq with h1 h2
      subst h1 h2
      split at h
      · rename_i l' hl
        cases h
        rw [allTs_run hl]; rfl
      · cases h
    · cases h
theorem toCs_ts {α : Type} {y : α} {st' : St} : ∀ (ts : List T) (k : List C → MA α) (st : St), (A.toCs true (ts.map A.t) k).run st = (k (ts.map C.t)).run st
  | [], k, st => rfl
  | t :: ts, k, st => by
    simp only [List.map_cons, A.toCs, A.toC, A.toT]
    exact toCs_ts (y := y) (st' := st') ts _ st
theorem obLendP_run {α : Type} {st' : St} {s : Nat} {k : List C → MA α} {y : α} (hM : Mem E g st w) (h : (obLendP s k).run st = some (y, st')) :
    ∃ cs st1 g1 bs, Mem E g1 st1 w ∧ Ext w w g g1 st.O st.R st1.O st1.R ∧ Lnd g st g1 st1 ∧ (k cs).run st1 = some (y, st') ∧ VV w g1.F (.ptr cs) (.pointer (some ⟨g.ob s, 0, none⟩)) bs ∧ Tk g st g1 st1 bs ∧ ∀ s', s' ≠ s → st1.ob s' = st.ob s' := by
  apply obLend_run hM
  unfold obLendP at h
  unfold obLend
  simp only [MA.run] at h ⊢
  split at h
  · rename_i c cells hc
    split at h
    · rename_i ts hts
      have := allTs_run hts
      rw [this, toCs_ts (y := y) (st' := st')]
      exact h
    · exact (fail_inv h).elim
  · exact (fail_inv h).elim

theorem lend_run {α : Type} {st' : St} {b : Bool} {s : Nat} {k : List C → MA α} {y : α} (hM : Mem E g st w) (h : (if b then obLendP s k else obLend s k).run st = some (y, st')) :
    ∃ cs st1 g1 bs, Mem E g1 st1 w ∧ Ext w w g g1 st.O st.R st1.O st1.R ∧ Lnd g st g1 st1 ∧ (k cs).run st1 = some (y, st') ∧ VV w g1.F (.ptr cs) (.pointer (some ⟨g.ob s, 0, none⟩)) bs ∧ Tk g st g1 st1 bs ∧ ∀ s', s' ≠ s → st1.ob s' = st.ob s' := by
  cases b with
  | true => exact obLendP_run hM h
  | false => exact obLend_run hM h

theorem passA_run {α : Type} {st' : St} {m : Bool} {p : Nat → Bool} : ∀ (l : List A) {st : St} {g : Gh} {k : List V → MA α} {y : α} {vs : List Value}, Mem E g st w → vs.length = l.length → (∀ (j : Nat) (x : A), l[j]? = some x → ∃ u, vs[j]? = some u ∧ VR w g st.O st.R x u) → (passA m p l k).run st = some (y, st') →
    ∃ cs st1 g1 bs, Mem E g1 st1 w ∧ Ext w w g g1 st.O st.R st1.O st1.R ∧ Lnd g st g1 st1 ∧ (k cs).run st1 = some (y, st') ∧ VVs w g1.F cs vs bs ∧ Tk g st g1 st1 bs ∧ ArgsR g l cs vs ∧ ∀ s, st1.ob s ≠ st.ob s → s ∈ slots l
  | [], st, g, k, y, vs, hM, hl, hv, h => by
    have : vs = [] := List.eq_nil_of_length_eq_zero hl
    subst this
    exact ⟨[], st, g, [], hM, Ext.refl _ _ _ _, Lnd.refl _ _, h, .nil, Tk.nil _ _ _ _, .nil, fun s h => absurd rfl h⟩
  | x :: l, st, g, k, y, vs, hM, hl, hv, h => by
    obtain ⟨v, vs, rfl⟩ : ∃ v vs', vs = v :: vs' := by
      cases vs with
      | nil => simp at hl
      | cons v vs => exact ⟨v, vs, rfl⟩
    obtain ⟨u, hu, hx⟩ := hv 0 x rfl
    simp at hu
    subst hu
    have hrest : ∀ {st1 : St} {g1 : Gh}, Ext w w g g1 st.O st.R st1.O st1.R → ∀ (j : Nat) (y : A), l[j]? = some y → ∃ u, vs[j]? = some u ∧ VR w g1 st1.O st1.R y u := fun hE1 j y hy => by
      obtain ⟨u, hu, hx⟩ := hv (j + 1) y (by simpa using hy)
      exact ⟨u, by simpa using hu, hx.mono hE1⟩
    unfold passA at h
    split at h
    · rename_i heq; cases heq
    · rename_i s r heq
      injection heq with h1 h2
      subst h1 h2
      cases hx with
      | obj s off hs =>
        obtain ⟨c, st1, g1, b1, hM1, hE1, hs1, h1, hc1, ht1, hoo⟩ := lend_run hM h
        obtain ⟨cs, st2, g2, b2, hM2, hE2, hs2, h2, hc2, ht2, hA, hsl⟩ := passA_run l hM1 (by simpa using hl) (hrest hE1) h1
        refine ⟨.ptr c :: cs, st2, g2, b1 ++ b2, hM2, hE1.trans hE2, hs1.trans hs2, h2, .cons _ _ _ _ _ _ (hc1.mono hE2.same hE2.F (fun _ _ => rfl)) hc2, ht1.app hM hs1 ht2 hs2, .obj s c l cs vs ?_, fun s' hs' => ?_⟩
        · exact hA.congr hs1.ob
        · simp only [slots, List.mem_cons]
          by_cases he : st2.ob s' = st1.ob s'
          · rw [he] at hs'
            by_cases h9 : s' = s
            · exact .inl h9
            · exact absurd (hoo s' h9) hs'
          · exact .inr (hsl s' he)
    · rename_i a r hna heq
      injection heq with h1 h2
      subst h1 h2
      obtain ⟨c, st1, g1, b1, hM1, hE1, hs1, h1, hc1, ht1, hnp⟩ := toV_run _ hM hx h
      obtain ⟨cs, st2, g2, b2, hM2, hE2, hs2, h2, hc2, ht2, hA, hsl⟩ := passA_run l hM1 (by simpa using hl) (hrest hE1) h1
      refine ⟨c :: cs, st2, g2, b1 ++ b2, hM2, hE1.trans hE2, hs1.lnd.trans hs2, h2, .cons _ _ _ _ _ _ (hc1.mono hE2.same hE2.F (fun _ _ => rfl)) hc2, ht1.app hM hs1.lnd ht2 hs2, .oth _ _ _ _ _ _ (fun s he => hna s he) hnp ?_, fun s' hs' => ?_⟩
      · exact hA.congr hs1.ob
      · rw [slots_oth (fun s he => hna s he)]
        exact hsl s' (by rw [hs1.eob]; exact hs')
end
end Go.Tm
