/- Taking in. -/
import Derived.Test.YtohcknmdebahiaaGreatDoorTm13
set_option linter.unusedVariables false
set_option linter.unusedSimpArgs false
namespace Go.Tm
open Go.RowKit

/-- The parameters of a call: ids of their own. -/
def argsA {α : Type} : Nat → List V → (List A → MA α) → MA α
  | _, [], k => k []
  | i, v :: r, k => V.toA (900 + i) ((900 + i) * 65536) v fun x => argsA (i + 1) r fun xs => k (x :: xs)

section
variable {P : Program} {E : En} {w : World}

/-- A block that nobody has. -/
structure Fresh (E : En) (g : Gh) (st : St) (b : Nat) : Prop where
  F : ¬ g.F b
  ob : ∀ s, st.O s → g.ob s ≠ b
  row : ∀ r, st.L r → (g.rw r).ownBlock ≠ some b
  X : E.w0.heap.size ≤ b ∨ E.X b

/-- What taking in leaves. -/
structure Gv (E : En) (w : World) (g : Gh) (st : St) (g1 : Gh) (st1 : St) (bs : List Nat) : Prop where
  mem : Mem E g1 st1 w
  ext : Ext w w g g1 st.O st.R st1.O st1.R
  F : g1.F = g.F
  tm : st1.tm = st.tm
  fr : ∀ b, Fresh E g st b → b ∉ bs → Fresh E g1 st1 b

theorem Gv.refl {g : Gh} {st : St} (h : Mem E g st w) : Gv E w g st g st [] := ⟨h, Ext.refl _ _ _ _, rfl, rfl, fun _ h _ => h⟩
theorem Gv.trans {g g1 g2 : Gh} {st st1 st2 : St} {b1 b2 : List Nat} (h : Gv E w g st g1 st1 b1) (k : Gv E w g1 st1 g2 st2 b2) : Gv E w g st g2 st2 (b1 ++ b2) :=
  ⟨k.mem, h.ext.trans k.ext, k.F.trans h.F, k.tm.trans h.tm, fun b hf hb => k.fr b (h.fr b hf (fun hx => hb (by simp [hx]))) (fun hx => hb (by simp [hx]))⟩

/-- Cells alone: no variable, rows of the told blocks alone. -/
structure Gc (g : Gh) (st : St) (g1 : Gh) (st1 : St) (bs : List Nat) : Prop where
  eob : st1.ob = st.ob
  ob : g1.ob = g.ob
  rows : ∀ r b, st1.L r → (g1.rw r).ownBlock = some b → b ∈ bs ∨ (st.L r ∧ (g.rw r).ownBlock = some b)
theorem Gc.refl (g : Gh) (st : St) : Gc g st g st [] := ⟨rfl, rfl, fun _ _ h1 h2 => .inr ⟨h1, h2⟩⟩
theorem Gc.trans {g g1 g2 : Gh} {st st1 st2 : St} {b1 b2 : List Nat} (h : Gc g st g1 st1 b1) (k : Gc g1 st1 g2 st2 b2) : Gc g st g2 st2 (b1 ++ b2) :=
  ⟨k.eob.trans h.eob, k.ob.trans h.ob, fun r b h1 h2 => by
    rcases k.rows r b h1 h2 with h3 | ⟨h3, h4⟩
    · exact .inl (by simp [h3])
    · rcases h.rows r b h3 h4 with h5 | h5
      · exact .inl (by simp [h5])
      · exact .inr h5⟩

theorem C_toA_run {α : Type} {st' : St} {g : Gh} {st : St} {d id : Nat} {c : C} {k : A → MA α} {y : α} {v : Value} {bs : List Nat} (hM : Mem E g st w) (hc : CV w g.F c v bs) (hf : ∀ b ∈ bs, Fresh E g st b) (h : (c.toA d id k).run st = some (y, st')) :
    ∃ a st1 g1, Gv E w g st g1 st1 bs ∧ Gc g st g1 st1 bs ∧ (k a).run st1 = some (y, st') ∧ VR w g1 st1.O st1.R a v ∧ a.one = true := by
  cases hc with
  | t x v hr => exact ⟨_, st, g, Gv.refl hM, Gc.refl _ _, h, .t x v hr, rfl⟩
  | nil => exact ⟨_, st, g, Gv.refl hM, Gc.refl _ _, h, .nil, rfl⟩
  | ow e sz rows v inner hown hR =>
    simp only [C.toA] at h
    split at h
    rotate_left
    · exact (fail_inv h).elim
    simp only [MA.run] at h
    cases hx : st.rw id with
    | some xx => simp [hx, MA.run] at h
    | none =>
      simp only [hx, MA.run] at h
      have hff : ∀ b, v.ownBlock = some b → Fresh E g st b := fun b hb => hf b (by simp [hb])
      have hrow : RowAt E.w0 w E.X g.F v (.live e sz rows) := hR.rowAt (E := E) (g := g) hown (fun b hb => ⟨(hff b hb).F, (hff b hb).X⟩)
      obtain ⟨hM1, hE1⟩ := hM.new_row (w' := w) (Calm.refl w) id hx v e sz rows (fun b => v.ownBlock = some b) (fun _ _ _ => rfl) (fun _ h => h) (fun b h1 hp => (hff b hp).X.elim (fun h2 => by omega) (fun h2 => h2))
        (fun b hb => ⟨(hff b hb).F, fun s hs he => (hff b hb).ob s hs he, (hff b hb).row⟩) hrow
      refine ⟨_, _, _, ⟨hM1, hE1, rfl, rfl, fun b hfb hnb => ⟨hfb.F, hfb.ob, fun r hr => ?_, hfb.X⟩⟩, ⟨rfl, rfl, fun r b hr hb => ?_⟩, h, ?_, rfl⟩
      · rcases L_upd.1 hr with ⟨rfl, _⟩ | ⟨h3, h4⟩
        · simp only [upd_eq]; intro he; exact hnb (by simp [he])
        · simp only [upd_ne _ _ _ _ h3]; exact hfb.row r h4
      · rcases L_upd.1 hr with ⟨rfl, _⟩ | ⟨h3, h4⟩
        · simp only [upd_eq] at hb; exact .inl (by simp [hb])
        · simp only [upd_ne _ _ _ _ h3] at hb; exact .inr ⟨h4, hb⟩
      · have := VR.own (w := w) (g := { g with rw := upd g.rw id v }) (O := ({ st with rw := upd st.rw id (some (.live e sz rows)) } : St).O) (R := ({ st with rw := upd st.rw id (some (.live e sz rows)) } : St).R) id (R_upd.2 (.inl rfl))
        simpa only [upd_eq] using this

theorem C_toAs_run {α : Type} {st' : St} {d : Nat} : ∀ {cs : List C} {id : Nat} {g : Gh} {st : St} {k : List A → MA α} {y : α} {vs : List Value} {bs : List Nat}, Mem E g st w → CVs w g.F cs vs bs → bs.Nodup → (∀ b ∈ bs, Fresh E g st b) → (C.toAs d id cs k).run st = some (y, st') →
    ∃ as st1 g1, Gv E w g st g1 st1 bs ∧ Gc g st g1 st1 bs ∧ (k as).run st1 = some (y, st') ∧ as.length = vs.length ∧ ∀ (j : Nat) (x : A), as[j]? = some x → x.one = true ∧ ∃ u, vs[j]? = some u ∧ VR w g1 st1.O st1.R x u
  | [], id, g, st, k, y, vs, bs, hM, hc, hn, hf, h => by
    cases hc
    exact ⟨[], st, g, Gv.refl hM, Gc.refl _ _, h, rfl, by simp⟩
  | c :: cs, id, g, st, k, y, vs, bs, hM, hc, hn, hf, h => by
    cases hc with
    | cons c v b cs vs bs h1 h2 =>
      rw [List.nodup_append] at hn
      obtain ⟨a, st1, g1, hG1, hc1, h3, hv, ho⟩ := C_toA_run hM h1 (fun x hx => hf x (by simp [hx])) h
      obtain ⟨as, st2, g2, hG2, hc2, h4, hl, hx⟩ := C_toAs_run hG1.mem (hG1.F ▸ h2) hn.2.1 (fun x hx => hG1.fr x (hf x (by simp [hx])) (fun hb => hn.2.2 x hb x hx rfl)) h3
      refine ⟨a :: as, st2, g2, hG1.trans hG2, hc1.trans hc2, h4, by simp [hl], fun j x hj => ?_⟩
      cases j with
      | zero => simp at hj; subst hj; exact ⟨ho, v, rfl, hv.mono hG2.ext⟩
      | succ j => simpa using hx j x (by simpa using hj)

theorem Mem.give_ob {g : Gh} {st : St} (h : Mem E g st w) (d : Nat) (hd : st.ob d = none) (cells : List A) (b : Nat) (arr : Array Value) (e : TypeId) (hh : w.heap[b]? = some (.cells arr e (0, 0))) (hl : cells.length ≤ arr.size)
    (hv : ∀ (j : Nat) (x : A), cells[j]? = some x → x.one = true ∧ ∃ v, arr[j]? = some v ∧ VR w g st.O st.R x v) (hf : Fresh E g st b) :
    Gv E w g st { g with ob := upd g.ob d b } { st with ob := upd st.ob d (some cells) } [b] := by
  have hnd : ¬ st.O d := by simp [St.O, hd]
  have hne : ∀ s, st.O s → s ≠ d := fun s hs he => hnd (he ▸ hs)
  obtain ⟨hM, hE⟩ := h.step (w' := w) (g' := { g with ob := upd g.ob d b }) (st' := { st with ob := upd st.ob d (some cells) }) (Calm.refl w) (fun _ => False) (fun b h1 _ => rfl) (fun _ h => h.elim) (fun _ _ h => h.elim) (fun _ h => h) (fun _ h1 h2 => absurd h1 h2)
    (fun s hs => ⟨O_upd.2 (.inr hs), upd_ne _ _ _ _ (hne s hs)⟩) (fun _ h => ⟨h, rfl⟩) (fun s c hs => by
      by_cases hsd : s = d
      · subst hsd
        simp only [upd_eq, Option.some.injEq] at hs ⊢
        subst hs
        exact .inr ⟨arr, e, hh, hl, hv, hf.F, hf.X⟩
      · simp only [upd_ne _ _ _ _ hsd] at hs
        exact .inl ⟨hs, id, (h.ob_nf (by simp [St.O, hs])).1⟩) (fun s s' hs hs' he => by
      rcases O_upd.1 hs with rfl | h1
      · rcases O_upd.1 hs' with rfl | h2
        · rfl
        · simp only [upd_eq, upd_ne _ _ _ _ (hne _ h2)] at he
          exact absurd he.symm (hf.ob _ h2)
      · rcases O_upd.1 hs' with rfl | h2
        · simp only [upd_eq, upd_ne _ _ _ _ (hne _ h1)] at he
          exact absurd he (hf.ob _ h1)
        · simp only [upd_ne _ _ _ _ (hne _ h1), upd_ne _ _ _ _ (hne _ h2)] at he
          exact h.obne _ _ h1 h2 he) (fun r x hr => .inl ⟨hr, fun hL b hb' => ⟨id, (h.row_nf hL hb').1⟩⟩) h.rowne (fun r s hr hs => by
      rcases O_upd.1 hs with rfl | h1
      · simp only [upd_eq]; exact hf.row r hr
      · simp only [upd_ne _ _ _ _ (hne _ h1)]; exact h.rowob r s hr h1)
  refine ⟨hM, hE, rfl, rfl, fun b' hfb hnb => ⟨hfb.F, fun s hs => ?_, hfb.row, hfb.X⟩⟩
  rcases O_upd.1 hs with rfl | h1
  · simp only [upd_eq]; intro he; exact hnb (by simp [he])
  · simp only [upd_ne _ _ _ _ (hne _ h1)]; exact hfb.ob s h1

mutual
theorem V_toA_run {α : Type} {st' : St} {d : Nat} : ∀ (x : V) {id : Nat} {g : Gh} {st : St} {k : A → MA α} {y : α} {v : Value} {bs : List Nat}, Mem E g st w → VV w g.F x v bs → bs.Nodup → (∀ b ∈ bs, Fresh E g st b) → (V.toA d id x k).run st = some (y, st') →
    ∃ a st1 g1, Gv E w g st g1 st1 bs ∧ (k a).run st1 = some (y, st') ∧ VR w g1 st1.O st1.R a v
  | .one c, id, g, st, k, y, v, bs, hM, hv, hn, hf, h => by
    unfold V.toA at h
    cases hv with
    | one c v bs hc =>
      obtain ⟨a, st1, g1, hG, _, h1, hr, _⟩ := C_toA_run hM hc hf h
      exact ⟨a, st1, g1, hG, h1, hr⟩
  | .agg l, id, g, st, k, y, v, bs, hM, hv, hn, hf, h => by
    unfold V.toA at h
    cases hv with
    | agg l vs bs hc =>
      obtain ⟨as, st1, g1, hG, _, h1, hl, hx⟩ := C_toAs_run hM hc hn hf h
      exact ⟨_, st1, g1, hG, h1, .agg as vs hl (fun i x v hi hv => by
        obtain ⟨_, u, hu, hr⟩ := hx i x hi
        rw [hv] at hu; cases hu; exact hr)⟩
  | .tup l, id, g, st, k, y, v, bs, hM, hv, hn, hf, h => by
    unfold V.toA at h
    cases hv with
    | tup l vs bs hc =>
      obtain ⟨as, st1, g1, hG, h1, hl, hx⟩ := V_toAs_run l hM hc hn hf h
      exact ⟨_, st1, g1, hG, h1, .tup as vs hl (fun i x v hi hv => by
        obtain ⟨u, hu, hr⟩ := hx i x hi
        rw [hv] at hu; cases hu; exact hr)⟩
  | .ptr cells, id, g, st, k, y, v, bs, hM, hv, hn, hf, h => by
    unfold V.toA at h
    cases hv with
    | ptr cells b arr e vs bs hb hl hle hc =>
      rw [List.nodup_cons] at hn
      obtain ⟨as, st1, g1, hG, _, h1, hll, hx⟩ := C_toAs_run hM hc hn.2 (fun x hx => hf x (by simp [hx])) h
      simp only [MA.run] at h1
      cases ho : st1.ob d with
      | some c => simp [ho, MA.run] at h1
      | none =>
        simp only [ho, MA.run] at h1
        have hG2 := hG.mem.give_ob d ho as b arr e hb (by omega) (fun j x hj => by
          obtain ⟨h2, u, hu, hr⟩ := hx j x hj
          refine ⟨h2, u, ?_, hr⟩
          rw [hl, List.getElem?_take] at hu
          split at hu
          · simpa using hu
          · cases hu) (hG.fr b (hf b (by simp)) hn.1)
        refine ⟨_, _, _, ⟨hG2.mem, hG.ext.trans hG2.ext, hG2.F.trans hG.F, hG2.tm.trans hG.tm, fun b' hfb hnb => hG2.fr b' (hG.fr b' hfb (fun hx => hnb (by simp [hx]))) (fun hx => hnb (by simp at hx; simp [hx]))⟩, h1, ?_⟩
        have := VR.obj (w := w) (g := { g1 with ob := upd g1.ob d b }) (O := ({ st1 with ob := upd st1.ob d (some as) } : St).O) (R := ({ st1 with ob := upd st1.ob d (some as) } : St).R) d 0 (O_upd.2 (.inl rfl))
        simpa only [upd_eq] using this
  | .fptr ts, id, g, st, k, y, v, bs, hM, hv, hn, hf, h => by
    unfold V.toA at h
    cases hv with
    | fptr cells b off u hF hx hr => exact ⟨_, st, g, Gv.refl hM, h, .fadr ts b off u hF hx hr⟩
  | .clo f caps, id, g, st, k, y, v, bs, hM, hv, hn, hf, h => by
    unfold V.toA at h
    cases hv with
    | clo f caps vs bs hc =>
      obtain ⟨as, st1, g1, hG, h1, hl, hx⟩ := V_toAs_run caps hM hc hn hf h
      exact ⟨_, st1, g1, hG, h1, .clo f as vs hl (fun i x v hi hv => by
        obtain ⟨u, hu, hr⟩ := hx i x hi
        rw [hv] at hu; cases hu; exact hr)⟩
theorem V_toAs_run {α : Type} {st' : St} {d : Nat} : ∀ (l : List V) {id : Nat} {g : Gh} {st : St} {k : List A → MA α} {y : α} {vs : List Value} {bs : List Nat}, Mem E g st w → VVs w g.F l vs bs → bs.Nodup → (∀ b ∈ bs, Fresh E g st b) → (V.toAs d id l k).run st = some (y, st') →
    ∃ as st1 g1, Gv E w g st g1 st1 bs ∧ (k as).run st1 = some (y, st') ∧ as.length = vs.length ∧ ∀ (j : Nat) (x : A), as[j]? = some x → ∃ u, vs[j]? = some u ∧ VR w g1 st1.O st1.R x u
  | [], id, g, st, k, y, vs, bs, hM, hc, hn, hf, h => by
    unfold V.toAs at h
    cases hc
    exact ⟨[], st, g, Gv.refl hM, h, rfl, by simp⟩
  | c :: cs, id, g, st, k, y, vs, bs, hM, hc, hn, hf, h => by
    unfold V.toAs at h
    cases hc with
    | cons c v b cs vs bs h1 h2 =>
      rw [List.nodup_append] at hn
      obtain ⟨a, st1, g1, hG1, h3, hv⟩ := V_toA_run c hM h1 hn.1 (fun x hx => hf x (by simp [hx])) h
      obtain ⟨as, st2, g2, hG2, h4, hl, hx⟩ := V_toAs_run cs hG1.mem (hG1.F ▸ h2) hn.2.1 (fun x hx => hG1.fr x (hf x (by simp [hx])) (fun hb => hn.2.2 x hb x hx rfl)) h3
      refine ⟨a :: as, st2, g2, hG1.trans hG2, h4, by simp [hl], fun j x hj => ?_⟩
      cases j with
      | zero => simp at hj; subst hj; exact ⟨v, rfl, hv.mono hG2.ext⟩
      | succ j => simpa using hx j x (by simpa using hj)
end

theorem argsA_run {α : Type} {st' : St} : ∀ (l : List V) {i : Nat} {g : Gh} {st : St} {k : List A → MA α} {y : α} {vs : List Value} {bs : List Nat}, Mem E g st w → VVs w g.F l vs bs → bs.Nodup → (∀ b ∈ bs, Fresh E g st b) → (argsA i l k).run st = some (y, st') →
    ∃ as st1 g1, Gv E w g st g1 st1 bs ∧ (k as).run st1 = some (y, st') ∧ as.length = vs.length ∧ ∀ (j : Nat) (x : A), as[j]? = some x → ∃ u, vs[j]? = some u ∧ VR w g1 st1.O st1.R x u
  | [], id, g, st, k, y, vs, bs, hM, hc, hn, hf, h => by
    cases hc
    exact ⟨[], st, g, Gv.refl hM, h, rfl, by simp⟩
  | c :: cs, id, g, st, k, y, vs, bs, hM, hc, hn, hf, h => by
    unfold argsA at h
    cases hc with
    | cons c v b cs vs bs h1 h2 =>
      rw [List.nodup_append] at hn
      obtain ⟨a, st1, g1, hG1, h3, hv⟩ := V_toA_run c hM h1 hn.1 (fun x hx => hf x (by simp [hx])) h
      obtain ⟨as, st2, g2, hG2, h4, hl, hx⟩ := argsA_run cs hG1.mem (hG1.F ▸ h2) hn.2.1 (fun x hx => hG1.fr x (hf x (by simp [hx])) (fun hb => hn.2.2 x hb x hx rfl)) h3
      refine ⟨a :: as, st2, g2, hG1.trans hG2, h4, by simp [hl], fun j x hj => ?_⟩
      cases j with
      | zero => simp at hj; subst hj; exact ⟨v, rfl, hv.mono hG2.ext⟩
      | succ j => simpa using hx j x (by simpa using hj)
end
end Go.Tm
