/- Trees out of values; rows that are read; loads, stores, addresses. -/
import Derived.Test.YtohcknmdebahiaaGreatDoorTm4
set_option linter.unusedVariables false
set_option linter.unusedSimpArgs false
namespace Go.Tm
open Go.RowKit

theorem add_lit (b o j : Nat) : (⟨b, o, none⟩ : Addr).add j = ⟨b, o + j, none⟩ := by unfold Addr.add; split <;> simp_all

section
variable {P : Program} {E : En} {g : Gh} {st st' : St} {a : Act} {w : World}

/-- Values are handed on: rows may be used up or frozen, nothing else turns. -/
structure Sub (g : Gh) (st : St) (g1 : Gh) (st1 : St) : Prop where
  L : ∀ r, st1.L r → st.L r
  eob : st1.ob = st.ob
  ob : g1.ob = g.ob
  rw : g1.rw = g.rw
  F : ∀ b, g1.F b → g.F b ∨ ∃ r, st.L r ∧ ¬ st1.L r ∧ (g.rw r).ownBlock = some b
  tm : st1.tm = st.tm
theorem Sub.refl (g : Gh) (st : St) : Sub g st g st := ⟨fun _ h => h, rfl, rfl, rfl, fun _ h => .inl h, rfl⟩
theorem Sub.trans {g1 g2 g3 : Gh} {s1 s2 s3 : St} (h : Sub g1 s1 g2 s2) (k : Sub g2 s2 g3 s3) : Sub g1 s1 g3 s3 :=
  ⟨fun r hr => h.L r (k.L r hr), k.eob.trans h.eob, k.ob.trans h.ob, k.rw.trans h.rw, fun b hb => by
    rcases k.F b hb with h1 | ⟨r, h1, h2, h3⟩
    · rcases h.F b h1 with h4 | ⟨r, h4, h5, h6⟩
      · exact .inl h4
      · exact .inr ⟨r, h4, fun h7 => h5 (k.L r h7), h6⟩
    · exact .inr ⟨r, h.L r h1, h2, by rw [← h.rw]; exact h3⟩, k.tm.trans h.tm⟩

theorem toT_run {α : Type} {st' : St} {x : A} {k : T → MA α} {y : α} {v : Value} (hM : Mem E g st w) (hv : VR w g st.O st.R x v) (h : (x.toT k).run st = some (y, st')) :
    ∃ t st1 g1, Mem E g1 st1 w ∧ Ext w w g g1 st.O st.R st1.O st1.R ∧ Sub g st g1 st1 ∧ (k t).run st1 = some (y, st') ∧ Rd w g1.F t v ∧ v.oneCell' = true := by
  cases hv with
  | t x v h1 => exact ⟨x, st, g, hM, Ext.refl _ _ _ _, Sub.refl _ _, h, h1, h1.one.1⟩
  | nil => exact ⟨_, st, g, hM, Ext.refl _ _ _ _, Sub.refl _ _, h, .sl0 _ _ _ (by first | assumption | exact fun _ => rfl | (intro h; cases h)), rfl⟩
  | own r hr =>
    obtain ⟨A1, n1, c1, hh⟩ := hM.hdr r hr
    have h1c : (g.rw r).oneCell' = true := by rw [hh]; rfl
    simp only [A.toT, MA.run] at h
    cases hx : st.rw r with
    | none => simp [hx, MA.run] at h
    | some x =>
      cases x with
      | live e sz rows =>
        simp only [hx, MA.run] at h
        obtain ⟨hM1, hE1⟩ := hM.frz_row r e sz rows hx
        have hLr : st.L r := ⟨e, sz, rows, hx⟩
        refine ⟨_, _, _, hM1, hE1, ⟨fun r' hr' => ?_, rfl, rfl, rfl, fun b hb => hb.imp id (fun hb => ⟨r, hLr, fun hl => ?_, hb⟩), rfl⟩, h, ?_, h1c⟩
        · rcases L_upd.1 hr' with ⟨rfl, _, _, _, hx⟩ | ⟨_, h3⟩
          · cases hx
          · exact h3
        · rcases L_upd.1 hl with ⟨_, _, _, _, hx⟩ | ⟨h3, _⟩
          · cases hx
          · exact h3 rfl
        · have := hM1.row r (.frz sz rows) (by simp [upd])
          exact this
      | frz sz rows =>
        simp only [hx, MA.run] at h
        exact ⟨_, st, g, hM, Ext.refl _ _ _ _, Sub.refl _ _, h, hM.row r _ hx, h1c⟩
      | gone => simp [hx, MA.run] at h
  | _ => simp [A.toT, MA.run] at h

theorem toTs_run {α : Type} {st' : St} {l : List A} : ∀ {st : St} {g : Gh} {k : List T → MA α} {y : α} {vs : List Value} (hM : Mem E g st w) (hl : vs.length = l.length)
    (hv : ∀ (j : Nat) (x : A), l[j]? = some x → ∃ u, vs[j]? = some u ∧ VR w g st.O st.R x u) (h : (A.toTs l k).run st = some (y, st')),
    ∃ ts st1 g1, Mem E g1 st1 w ∧ Ext w w g g1 st.O st.R st1.O st1.R ∧ Sub g st g1 st1 ∧ (k ts).run st1 = some (y, st') ∧ ts.length = l.length ∧
      (∀ (j : Nat) (t : T), ts[j]? = some t → ∃ u, vs[j]? = some u ∧ u.oneCell' = true ∧ Rd w g1.F t u) := by
  induction l with
  | nil =>
    intro st g k y vs hM hl hv h
    exact ⟨[], st, g, hM, Ext.refl _ _ _ _, Sub.refl _ _, h, rfl, by simp⟩
  | cons x l ih =>
    intro st g k y vs hM hl hv h
    obtain ⟨v, vs, rfl⟩ : ∃ v vs', vs = v :: vs' := by
      cases vs with
      | nil => simp at hl
      | cons v vs => exact ⟨v, vs, rfl⟩
    obtain ⟨u, hu, hx⟩ := hv 0 x rfl
    simp at hu
    subst hu
    obtain ⟨t, st1, g1, hM1, hE1, ht1, h1, hr1, ho1⟩ := toT_run hM hx h
    obtain ⟨ts, st2, g2, hM2, hE2, ht2, h2, hl2, hr2⟩ := ih hM1 (by simpa using hl) (fun j y hy => by
      obtain ⟨u, hu, hx⟩ := hv (j + 1) y (by simpa using hy)
      exact ⟨u, by simpa using hu, hx.mono hE1⟩) h1
    refine ⟨t :: ts, st2, g2, hM2, hE1.trans hE2, ht1.trans ht2, h2, by simp [hl2], fun j t' hj => ?_⟩
    cases j with
    | zero =>
      simp at hj
      subst hj
      exact ⟨v, rfl, ho1, hr1.mono hE2.same hE2.F⟩
    | succ j =>
      obtain ⟨u, hu, ho, hr⟩ := hr2 j t' (by simpa using hj)
      exact ⟨u, by simpa using hu, ho, hr⟩

/-- A slice's cells, as rows. -/
structure Rds (w : World) (F : Nat → Prop) (sz : Nat) (rows : List (List T)) (ad : Option Addr) : Prop where
  len : ∀ (i : Nat) (row : List T), rows[i]? = some row → row.length = sz
  at_ : rows = [] ∨ ∃ b off, ad = some ⟨b, off, none⟩ ∧ ∀ (i : Nat) (row : List T) (j : Nat) (x : T), rows[i]? = some row → row[j]? = some x → ∃ u, w.cell? ⟨b, off + i * sz + j, none⟩ = some u ∧ Rd w F x u

theorem relab_len : ∀ (lb : List Nat) (l : List A), (relab lb l).length = l.length
  | [], l => by cases l <;> rfl
  | n :: ns, [] => rfl
  | n :: ns, a :: r => by cases a <;> simp [relab, relab_len ns r]
theorem relab_get : ∀ (lb : List Nat) (l : List A) (j : Nat) (x : A), (relab lb l)[j]? = some x → ∃ y, l[j]? = some y ∧ (x = y ∨ (y = .nil ∧ ∃ n, x = .t (.sl n [])))
  | [], l, j, x, h => ⟨x, by cases l <;> exact h, .inl rfl⟩
  | n :: ns, [], j, x, h => by simp [relab] at h
  | n :: ns, a :: r, 0, x, h => by
    refine ⟨a, rfl, ?_⟩
    cases a <;> simp [relab] at h <;> first | exact .inl h.symm | exact .inr ⟨rfl, n, h.symm⟩
  | n :: ns, a :: r, j + 1, x, h => by
    have : (relab ns r)[j]? = some x := by cases a <;> simpa [relab] using h
    obtain ⟨y, h1, h2⟩ := relab_get ns r j x this
    exact ⟨y, by simpa using h1, h2⟩
theorem relab_one {lb : List Nat} {l : List A} (h : (relab lb l).all A.one = true) : l.all A.one = true := by
  rw [List.all_eq_true] at h ⊢
  induction l generalizing lb with
  | nil => intro x hx; simp at hx
  | cons a r ih =>
    intro x hx
    have h0 : a.one = true ∧ ∃ ns, ∀ x ∈ relab ns r, x.one = true := by
      cases lb with
      | nil => exact ⟨h a (by simp [relab]), [], fun x hx => h x (by simp only [relab]; cases r <;> first | exact List.mem_cons_of_mem _ hx | (simp [relab] at hx))⟩
      | cons n ns =>
        cases a <;> simp only [relab] at h <;> first
          | exact ⟨rfl, ns, fun x hx => h x (List.mem_cons_of_mem _ hx)⟩
          | exact ⟨h _ (List.mem_cons_self ..), ns, fun x hx => h x (List.mem_cons_of_mem _ hx)⟩
    obtain ⟨h1, ns, h2⟩ := h0
    rcases List.mem_cons.1 hx with rfl | hx
    · exact h1
    · exact ih h2 x hx
theorem toTL_run {α : Type} {st' : St} {lb : List Nat} {l : List A} {st : St} {g : Gh} {k : List T → MA α} {y : α} {vs : List Value} (hM : Mem E g st w) (hl : vs.length = l.length)
    (hv : ∀ (j : Nat) (x : A), l[j]? = some x → ∃ u, vs[j]? = some u ∧ VR w g st.O st.R x u) (h : (A.toTs (relab lb l) k).run st = some (y, st')) :
    ∃ ts st1 g1, Mem E g1 st1 w ∧ Ext w w g g1 st.O st.R st1.O st1.R ∧ Sub g st g1 st1 ∧ (k ts).run st1 = some (y, st') ∧ ts.length = l.length ∧
      (∀ (j : Nat) (t : T), ts[j]? = some t → ∃ u, vs[j]? = some u ∧ u.oneCell' = true ∧ Rd w g1.F t u) := by
  have := toTs_run hM (l := relab lb l) (vs := vs) (by rw [relab_len]; exact hl) (fun j x hj => by
    obtain ⟨y, h1, h2⟩ := relab_get lb l j x hj
    obtain ⟨u, hu, hr⟩ := hv j y h1
    rcases h2 with rfl | ⟨rfl, n, rfl⟩
    · exact ⟨u, hu, hr⟩
    · cases hr
      exact ⟨_, hu, .t _ _ (.sl0 _ _ _ (by first | assumption | exact fun _ => rfl | (intro h; cases h)))⟩) h
  rwa [relab_len] at this

theorem Rd.rds {F : Nat → Prop} {sz : Nat} {rows : List (List T)} {v : Value} (h : Rd w F (.sl sz rows) v) : ∃ ad c, v = .slice ad rows.length c ∧ Rds w F sz rows ad := by
  cases h with
  | sl0 sz a c ha => exact ⟨a, c, rfl, by simp, .inl rfl⟩
  | sl sz rows b off c u hc hF hs hx hr => exact ⟨_, c, rfl, hs, .inr ⟨b, off, rfl, fun i row j x h1 h2 => ⟨_, hx i row j x h1 h2, hr i row j x h1 h2⟩⟩⟩
theorem RowAt.rds {w0 : World} {X F : Nat → Prop} {v : Value} {e sz : Nat} {rows : List (List T)} (h : RowAt w0 w X F v (.live e sz rows)) : ∃ ad c, v = .slice ad rows.length c ∧ Rds w F sz rows ad := by
  obtain ⟨inner, ho, h1, h2, h3⟩ := h
  rcases ho.2 with ⟨rfl, hn⟩ | ⟨b, cap, cur, rfl, _, hh, hc, hm, hsz, htake⟩
  · exact ⟨none, 0, by rw [hn], h1, .inl (List.eq_nil_of_length_eq_zero hn)⟩
  · refine ⟨_, cap, rfl, h1, .inr ⟨b, 0, rfl, fun i row j x hi hj => ?_⟩⟩
    obtain ⟨u, hu, hr⟩ := h2 i row j x hi hj
    have := ho.cells (g := b) rfl (i * sz + j) u hu
    rw [add_lit] at this
    exact ⟨u, by rw [Nat.zero_add] at *; exact this, hr⟩

theorem Rd.sc0 {F F' : Nat → Prop} {x : T} {v : Value} (h : Rd w F x v) (hx : x.sc = true) : Rd w F' x v := by
  cases h with
  | int k n => exact .int k n
  | bool b => exact .bool b
  | str s => exact .str s
  | nilf => exact .nilf
  | sl0 | sl => cases hx
theorem rows_run {α : Type} {x : A} {k : Nat → List (List T) → MA α} {y : α} {v : Value} (hM : Mem E g st w) (hv : VR w g st.O st.R x v) (h : (x.rows k).run st = some (y, st')) :
    ∃ rows sz ad c, (k sz rows).run st = some (y, st') ∧ v = .slice ad rows.length c ∧ Rds w g.F sz rows ad := by
  cases hv with
  | t x v h1 =>
    cases x with
    | sl sz rows =>
      obtain ⟨ad, c, hv, hr⟩ := h1.rds
      exact ⟨rows, sz, ad, c, h, hv, hr⟩
    | _ => simp [A.rows, MA.run] at h
  | nil => exact ⟨[], 0, none, 0, h, rfl, by simp, .inl rfl⟩
  | ext s x v hs h1 =>
    cases s with
    | true => simp [A.rows, MA.run] at h
    | false =>
      cases x with
      | sl sz rows =>
        simp only [A.rows] at h
        split at h
        rotate_left
        · exact (fail_inv h).elim
        rename_i hsc
        have hM0 := hM
        have h2 : Rd w g.D (.sl sz rows) v := h1.rd (fun b hb => by
          obtain ⟨h3, h4, h5, _⟩ := hM0.dep b hb
          rw [h3]
          rcases hM0.frame b h4 h5 with h6 | ⟨h6, _⟩
          · exact h6
          · rw [hs] at h6; cases h6) (fun _ h => h)
        obtain ⟨ad, c, hv, hr⟩ := h2.rds
        refine ⟨rows, sz, ad, c, h, hv, hr.len, hr.at_.imp id fun ⟨b, off, e, hx⟩ => ⟨b, off, e, fun i row j x hi hj => ?_⟩⟩
        obtain ⟨u, hu, hrd⟩ := hx i row j x hi hj
        exact ⟨u, hu, hrd.sc0 (List.all_eq_true.1 (List.all_eq_true.1 hsc row (List.mem_of_getElem? hi)) x (List.mem_of_getElem? hj))⟩
      | _ => simp [A.rows, MA.run] at h
  | own r hr =>
    simp only [A.rows, MA.run] at h
    cases hx : st.rw r with
    | none => simp [hx, MA.run] at h
    | some x =>
      cases x with
      | live e sz rows =>
        simp only [hx] at h
        obtain ⟨ad, c, hv, hr⟩ := (hM.row r _ hx).rds
        exact ⟨rows, sz, ad, c, h, hv, hr⟩
      | frz sz rows =>
        simp only [hx] at h
        obtain ⟨ad, c, hv, hr⟩ := Rd.rds (hM.row r _ hx)
        exact ⟨rows, sz, ad, c, h, hv, hr⟩
      | gone => simp [hx, MA.run] at h
  | _ => simp [A.rows, MA.run] at h

/-- The cells of such a slice, one behind the other. -/
theorem Rds.flat {F : Nat → Prop} {sz : Nat} {rows : List (List T)} {ad : Option Addr} (h : Rds w F sz rows ad) (hne : rows ≠ []) :
    ∃ b off, ad = some ⟨b, off, none⟩ ∧ ∃ news : List Value, news.length = rows.length * sz ∧ (∀ (j : Nat) (u : Value), news[j]? = some u → w.cell? ((⟨b, off, none⟩ : Addr).add j) = some u) ∧
      (∀ u ∈ news, u.oneCell' = true) ∧ ∀ (i : Nat) (row : List T) (j : Nat) (x : T), rows[i]? = some row → row[j]? = some x → ∃ u, news[i * sz + j]? = some u ∧ Rd w F x u := by
  obtain ⟨b, off, rfl, hx⟩ := h.at_.resolve_left hne
  have key : ∀ k, k < rows.length * sz → ∃ u, w.cell? ⟨b, off + k, none⟩ = some u ∧ u.oneCell' = true := by
    intro k hk
    have hsz : 0 < sz := Nat.pos_of_ne_zero fun h0 => by rw [h0] at hk; omega
    have hi : k / sz < rows.length := by rw [Nat.div_lt_iff_lt_mul hsz]; exact hk
    have hj : k % sz < (rows[k / sz]).length := by rw [h.len _ _ (List.getElem?_eq_getElem hi)]; exact Nat.mod_lt _ hsz
    obtain ⟨u, hu, hr⟩ := hx (k / sz) _ (k % sz) _ (List.getElem?_eq_getElem hi) (List.getElem?_eq_getElem hj)
    refine ⟨u, ?_, hr.one.1⟩
    have := Nat.div_add_mod k sz
    rw [show off + k = off + k / sz * sz + k % sz by rw [Nat.mul_comm]; omega]
    exact hu
  refine ⟨b, off, rfl, (List.range (rows.length * sz)).map (fun k => (w.cell? ⟨b, off + k, none⟩).getD undef), by simp, fun j u hu => ?_, fun u hu => ?_, fun i row j x hi hj => ?_⟩
  · have hj : j < rows.length * sz := by
      have := (List.getElem?_eq_some_iff.1 hu).1
      simpa using this
    obtain ⟨u', hu', _⟩ := key j hj
    simp only [List.getElem?_map, List.getElem?_range hj, Option.map_some, hu', Option.getD_some, Option.some.injEq] at hu
    rw [add_lit, hu', hu]
  · simp only [List.mem_map, List.mem_range] at hu
    obtain ⟨k, hk, rfl⟩ := hu
    obtain ⟨u', hu', ho⟩ := key k hk
    rw [hu']
    exact ho
  · obtain ⟨u, hu, hr⟩ := hx i row j x hi hj
    have hlt : i * sz + j < rows.length * sz := by
      have h1 : i < rows.length := (List.getElem?_eq_some_iff.1 hi).1
      have h2 : j < sz := by rw [← h.len i row hi]; exact (List.getElem?_eq_some_iff.1 hj).1
      have h3 : (i + 1) * sz ≤ rows.length * sz := Nat.mul_le_mul_right _ h1
      rw [Nat.succ_mul] at h3
      omega
    refine ⟨u, ?_, hr⟩
    simp only [List.getElem?_map, List.getElem?_range hlt, Option.map_some, ← Nat.add_assoc, hu, Option.getD_some]

/-! ### loads -/
theorem cutA_VR {gg : Bool} {n off : Nat} {l : List A} {x : A} {b o : Nat} (h : cutA gg n l off = some x)
    (hc : ∀ (j : Nat) (y : A), l[j]? = some y → ∃ u, w.cell? ⟨b, o + j, none⟩ = some u ∧ VR w g st.O st.R y u) :
    (gg = true → ∃ vs : List Value, vs.length = n ∧ (loadCells ⟨b, o + off, none⟩ n).run P w = .ok vs.toArray w ∧ VR w g st.O st.R x (.agg vs.toArray)) ∧
    (gg = false → ∃ v, w.cell? ⟨b, o + off, none⟩ = some v ∧ VR w g st.O st.R x v) := by
  unfold cutA at h
  split at h
  · rename_i hle
    refine ⟨fun hg => ?_, fun hg => ?_⟩
    · rw [if_pos hg] at h
      cases h
      have key : ∀ k, k < n → ∃ u y, w.cell? ⟨b, o + off + k, none⟩ = some u ∧ l[off + k]? = some y ∧ VR w g st.O st.R y u := by
        intro k hk
        have hi : off + k < l.length := by omega
        obtain ⟨u, hu, hr⟩ := hc (off + k) _ (List.getElem?_eq_getElem hi)
        exact ⟨u, _, by rw [Nat.add_assoc]; exact hu, List.getElem?_eq_getElem hi, hr⟩
      refine ⟨(List.range n).map (fun k => (w.cell? ⟨b, o + off + k, none⟩).getD undef), by simp, ?_, ?_⟩
      · refine run_loadCells w _ n _ (fun j hj => ?_)
        obtain ⟨u, y, hu, _⟩ := key j hj
        rw [add_lit, hu]
        rfl
      · refine .agg _ _ (by simp; omega) (fun i y v hy hv => ?_)
        have hi : i < n := by
          have := (List.getElem?_eq_some_iff.1 hv).1
          simpa using this
        obtain ⟨u, y', hu, hy', hr⟩ := key i hi
        simp only [List.getElem?_map, List.getElem?_range hi, Option.map_some, hu, Option.getD_some, Option.some.injEq] at hv
        rw [List.getElem?_take, if_pos hi, List.getElem?_drop, hy', Option.some.injEq] at hy
        rw [← hy, ← hv]
        exact hr
    · subst hg
      simp only [Bool.false_eq_true, if_false] at h
      split at h
      · obtain ⟨u, hu, hr⟩ := hc off x h
        exact ⟨u, hu, hr⟩
      · cases h
  · cases h

theorem tagg_run {t : TypeId} {gg : Bool} (h : tagg P t = some gg) (w : World) : (isAgg t).run P w = .ok gg w := by
  unfold tagg at h
  cases hu : P.underlying t with
  | none => simp [hu] at h
  | some d =>
    rw [hu] at h
    cases d <;> simp at h <;> subst h <;> simp [isAgg, run_underlying hu]

theorem run_loadVar_of {t : TypeId} {gg : Bool} {n b o off : Nat} {l : List A} {x : A} (hg : tagg P t = some gg) (hn : tsize P t = some n) (h : cutA gg n l off = some x)
    (hc : ∀ (j : Nat) (y : A), l[j]? = some y → ∃ u, w.cell? ⟨b, o + j, none⟩ = some u ∧ VR w g st.O st.R y u) :
    ∃ v, (loadVar t ⟨b, o + off, none⟩).run P w = .ok v w ∧ VR w g st.O st.R x v := by
  obtain ⟨i, hi, hsz⟩ := tsize_run hn
  obtain ⟨h1, h2⟩ := cutA_VR (P := P) h hc
  cases gg with
  | true =>
    obtain ⟨vs, hl, hr, hv⟩ := h1 rfl
    refine ⟨_, ?_, hv⟩
    simp [loadVar, tagg_run hg, sizeOf, typeInfo, hi, hsz, hr]
  | false =>
    obtain ⟨v, hv, hr⟩ := h2 rfl
    refine ⟨v, ?_, hr⟩
    simp [loadVar, tagg_run hg, run_load, hv]

theorem Mem.now (hM : Mem E g st w) (h : g.sh = false) : Same g.D g.dw w := fun b hb => by
  obtain ⟨h1, h2, h3, _⟩ := hM.dep b hb
  rw [h1]
  rcases hM.frame b h2 h3 with h4 | ⟨h4, _⟩
  · exact h4
  · rw [h] at h4; cases h4
theorem Mem.nowK (hM : Mem E g st w) (h : g.sh = true) {b : Nat} (hb : g.D b) : KS g.dw w b := by
  obtain ⟨h1, h2, h3, h5⟩ := hM.dep b hb
  rw [h1]
  rcases hM.frame b h2 h3 with h4 | ⟨_, _, h4⟩
  · exact (KS.refl (h5 h).2).same h4
  · exact h4
/-- A foreign cell, as it is now. -/
theorem exa_cell {s : Bool} {x : T} {b o : Nat} {u : Value} (hM : Mem E g st w) (hs : g.sh = s) (hD : g.D b) (hx : g.dw.cell? ⟨b, o, none⟩ = some u) (hr : Sd s g.dw g.D x u) :
    ∃ u', w.cell? ⟨b, o, none⟩ = some u' ∧ VR w g st.O st.R (exOf s x) u' := by
  cases s with
  | false =>
    have hsm := hM.now hs
    refine ⟨u, by rw [cell_same hsm hD]; exact hx, ?_⟩
    cases x with
    | sl sz rows => exact .ext false _ _ hs hr
    | int k n => cases hr with | int k n n' h => rw [h rfl]; exact .t _ _ (.int k n)
    | bool b => cases hr with | bool b b' h => rw [h rfl]; exact .t _ _ (.bool b)
    | str b => cases hr; exact .t _ _ (.str b)
    | nilf => cases hr; exact .t _ _ .nilf
  | true =>
    obtain ⟨u', h1, h2⟩ := (hM.nowK hs hD).cell hx
    refine ⟨u', h1, ?_⟩
    cases x <;> exact .ext true _ _ hs (hr.kq h2)

theorem did_load {o : Oper} {t : TypeId} {y : Operand} {x v : A} {n : Nat} (hS : Sim E g n st a w) (ho : o.op = .load t y) (hv : VR w g st.O st.R v (a.eval y)) (h : (maLoad P t v).run st = some (x, st')) :
    ∃ u g' w', Did P o a w u w' ∧ Aft E g st w x st' u g' w' := by
  have hM := hS.mem
  unfold maLoad at h
  split at h
  rotate_left
  · exact (fail_inv h).elim
  rename_i gg nn hg hn
  have fin : ∀ (l : List A) (b o' off : Nat) (_ : a.eval y = .pointer (some ⟨b, o' + off, none⟩)) (_ : ∀ (j : Nat) (y : A), l[j]? = some y → ∃ u, w.cell? ⟨b, o' + j, none⟩ = some u ∧ VR w g st.O st.R y u)
      (_ : (match cutA gg nn l off with | some v => MA.ret v | none => MA.fail).run st = some (x, st')), ∃ u g' w', Did P o a w u w' ∧ Aft E g st w x st' u g' w' := by
    intro l b o' off he hc h
    split at h
    · rename_i z hz
      obtain ⟨u, hu, hr⟩ := run_loadVar_of (P := P) hg hn hz hc
      refine ⟨u, g, w, .inl ?_, Aft.of_ret hM h hr⟩
      simp [execOp, ho, Instr.loadAt, Instr.sureAddr, he, hu]
    · exact (fail_inv h).elim
  generalize hu : a.eval y = uu at hv fin
  cases hv with
  | obj s off hs =>
    simp only [MA.run] at h
    cases hc : st.ob s with
    | none => simp [hc, MA.run] at h
    | some cells =>
      simp only [hc] at h
      obtain ⟨arr, e, hh, hl, hv, _⟩ := hM.ob s cells hc
      exact fin cells (g.ob s) 0 off (by rw [Nat.zero_add]) (fun j y hy => by
        obtain ⟨_, u, hu, hr⟩ := hv j y hy
        exact ⟨u, by rw [Nat.zero_add]; simp [World.cell?, hh, hu], hr⟩) h
  | elem r sz i off b n' c hr he =>
    simp only [MA.run] at h
    have key : ∀ (sz' : Nat) (rows : List (List T)) (_ : Rds w g.F sz' rows (some ⟨b, 0, none⟩)) (_ : (if sz = sz' then match rows[i]? with
        | some row => match cutA gg nn (row.map A.t) off with | some v => MA.ret v | none => MA.fail
        | none => MA.fail
        else MA.fail).run st = some (x, st')), ∃ u g' w', Did P o a w u w' ∧ Aft E g st w x st' u g' w' := by
      intro sz' rows hR h
      split at h
      rotate_left
      · exact (fail_inv h).elim
      rename_i hsz
      subst hsz
      split at h
      rotate_left
      · exact (fail_inv h).elim
      rename_i row hrow
      refine fin (row.map A.t) b (i * sz) off rfl (fun j y hy => ?_) h
      rw [List.getElem?_map, Option.map_eq_some_iff] at hy
      obtain ⟨z, hz, rfl⟩ := hy
      rcases hR.at_ with hR | ⟨b', off', he', hR⟩
      · rw [hR] at hrow; cases hrow
      · injection he' with he'
        injection he' with hb ho' _
        subst hb ho'
        obtain ⟨u, hu, hr⟩ := hR i row j z hrow hz
        exact ⟨u, by rw [Nat.zero_add] at hu; exact hu, .t _ _ hr⟩
    cases hx : st.rw r with
    | none => simp [hx, MA.run] at h
    | some xx =>
      cases xx with
      | live e sz' rows =>
        simp only [hx] at h
        obtain ⟨ad, c', hv, hR⟩ := (hM.row r _ hx).rds
        rw [he] at hv
        injection hv with h1 _ _
        exact key sz' rows (h1 ▸ hR) h
      | frz sz' rows =>
        simp only [hx] at h
        obtain ⟨ad, c', hv, hR⟩ := Rd.rds (hM.row r _ hx)
        rw [he] at hv
        injection hv with h1 _ _
        exact key sz' rows (h1 ▸ hR) h
      | gone => simp [hx, MA.run] at h
  | fadr cells b off u hF hx hr =>
    refine fin (cells.map A.t) b off 0 rfl (fun j y hy => ?_) h
    rw [List.getElem?_map, Option.map_eq_some_iff] at hy
    obtain ⟨z, hz, rfl⟩ := hy
    exact ⟨_, hx j z hz, .t _ _ (hr j z hz)⟩
  | exa s cells b off u hs hD hx hr =>
    refine fin (cells.map (exOf s)) b off 0 rfl (fun j y hy => ?_) h
    rw [List.getElem?_map, Option.map_eq_some_iff] at hy
    obtain ⟨z, hz, rfl⟩ := hy
    exact exa_cell hM hs hD (hx j z hz) (hr j z hz)
  | _ => exact (fail_inv h).elim

/-! ### stores -/
theorem spl_get {α : Type} {l cs : List α} {off : Nat} (h : off + cs.length ≤ l.length) : (spl l off cs).length = l.length ∧
    ∀ (j : Nat) (y : α), (spl l off cs)[j]? = some y → (off ≤ j ∧ cs[j - off]? = some y) ∨ (l[j]? = some y ∧ (j < off ∨ off + cs.length ≤ j)) := by
  unfold spl
  refine ⟨by simp; omega, fun j y hy => ?_⟩
  rw [List.append_assoc, List.getElem?_append] at hy
  split at hy
  · rename_i hj
    simp at hj
    rw [List.getElem?_take, if_pos (by omega)] at hy
    exact .inr ⟨hy, .inl (by omega)⟩
  · rename_i hj
    have ht : (l.take off).length = off := by simp; omega
    rw [ht] at hj hy
    rw [List.getElem?_append] at hy
    split at hy
    · exact .inl ⟨by omega, hy⟩
    · rename_i hj2
      rw [List.getElem?_drop] at hy
      refine .inr ⟨?_, .inr (by omega)⟩
      rw [← hy]
      congr 1
      omega

theorem did_store {o : Oper} {t : TypeId} {y z : Operand} {x v u : A} {n : Nat} (hS : Sim E g n st a w) (ho : o.op = .store t y z) (hv : VR w g st.O st.R v (a.eval y)) (hu : VR w g st.O st.R u (a.eval z))
    (h : (maStore P t v u).run st = some (x, st')) : ∃ v' g' w', Did P o a w v' w' ∧ Aft E g st w x st' v' g' w' := by
  have hM := hS.mem
  unfold maStore at h
  split at h
  rotate_left
  · exact (fail_inv h).elim
  rename_i nn hn
  obtain ⟨i, hi, hsz⟩ := tsize_run hn
  split at h
  rotate_left
  · exact (fail_inv h).elim
  rename_i hl
  obtain ⟨hl, h1⟩ := hl
  obtain ⟨hc1, hc2, hc3⟩ := hu.cells hM h1
  have run : ∀ (b off : Nat) (arr : Array Value) (e : TypeId), a.eval y = .pointer (some ⟨b, off, none⟩) → w.heap[b]? = some (.cells arr e (0, 0)) → off + nn ≤ arr.size →
      Did P o a w undef (w.setRow b (arr.toList.take off ++ (a.eval z).cells.toList ++ arr.toList.drop (off + nn)).toArray) := by
    intro b off arr e he hh hle
    refine .inr ⟨?_, rfl⟩
    have hst := run_storeCells_at P b off e (a.eval z).cells.toList 0 arr w hh (by simp [hc1, hl]; omega) hc2
    simp only [Nat.add_zero, Array.length_toList, hc1, hl] at hst
    simp [execOp, ho, Instr.storeAt, Instr.sureAddr, he, storeVar, sizeOf, typeInfo, hi, hsz, hc1, hl, hst]
  generalize hyy : a.eval y = uu at hv run
  cases hv with
  | obj s off hs =>
    simp only [MA.run] at h
    cases hc : st.ob s with
    | none => simp [hc, MA.run] at h
    | some cells =>
      simp only [hc] at h
      split at h
      rotate_left
      · exact (fail_inv h).elim
      rename_i hle
      simp only [MA.run, Option.some.injEq, Prod.mk.injEq] at h
      obtain ⟨rfl, rfl⟩ := h
      obtain ⟨arr, e, hh, hal, hav, _⟩ := hM.ob s cells hc
      have hle' : off + u.cells.length ≤ cells.length := by omega
      have hsp := spl_get (cs := u.cells) hle'
      have hsv := spl_get (l := arr.toList) (cs := (a.eval z).cells.toList) (off := off) (by simp; omega)
      have hrow : w.setRow (g.ob s) (arr.toList.take off ++ (a.eval z).cells.toList ++ arr.toList.drop (off + nn)).toArray = w.setRow (g.ob s) (spl arr.toList off (a.eval z).cells.toList).toArray := by
        unfold spl; rw [Array.length_toList, hc1, hl]
      have hD := run (g.ob s) off arr e rfl hh (by omega)
      rw [hrow] at hD
      have hcell : ∀ (j : Nat) (y : A), (spl cells off u.cells)[j]? = some y → y.one = true ∧ ∃ v, (spl arr.toList off (a.eval z).cells.toList).toArray[j]? = some v ∧ VR w g st.O st.R y v := by
        intro j y hy
        simp only [List.getElem?_toArray]
        rcases hsp.2 j y hy with ⟨hj, hy⟩ | ⟨hy, hj⟩
        · obtain ⟨ho1, q, hq, hr⟩ := hc3 _ y hy
          refine ⟨ho1, q, ?_, hr⟩
          have hjl : j - off < (a.eval z).cells.toList.length := by
            have := (Array.getElem?_eq_some_iff.1 hq).1; simpa using this
          unfold spl
          have hto : (arr.toList.take off).length = off := by simp; omega
          rw [List.append_assoc, List.getElem?_append_right (by omega), hto, List.getElem?_append_left hjl]
          simpa using hq
        · obtain ⟨ho1, q, hq, hr⟩ := hav j y hy
          refine ⟨ho1, q, ?_, hr⟩
          have hjl : j < arr.size := (Array.getElem?_eq_some_iff.1 hq).1
          unfold spl
          rcases hj with hj | hj
          · rw [List.append_assoc, List.getElem?_append_left (by simp; omega), List.getElem?_take, if_pos hj]
            simpa using hq
          · have : (arr.toList.take off ++ (a.eval z).cells.toList).length = off + nn := by simp; omega
            rw [List.getElem?_append_right (by omega), this, List.getElem?_drop, Array.length_toList, hc1, hl]
            rw [show off + nn + (j - (off + nn)) = j by omega]
            simpa using hq
      obtain ⟨hM', hE⟩ := hM.set_ob (w' := w.setRow (g.ob s) (spl arr.toList off (a.eval z).cells.toList).toArray) ⟨rfl, rfl, rfl, by simp [World.setRow]⟩ s cells (spl cells off u.cells) (spl arr.toList off (a.eval z).cells.toList).toArray e hc
        (setRow_heap w _ arr _ e _ hh) (fun b _ hb => setRow_other w _ b _ hb) (by simp only [List.size_toArray]; rw [hsv.1, hsp.1]; simp; omega) hcell
      exact ⟨_, _, _, hD, hM', .undef _, hE, rfl⟩
  | elem r sz ix off b n' c hr he =>
    obtain ⟨ts, st1, g1, hM1, hE1, ht1, h, htl, hts⟩ := toTL_run hM (vs := (a.eval z).cells.toList) (by rw [Array.length_toList]; exact hc1) (fun j x hj => by
      obtain ⟨_, q, hq, hr⟩ := hc3 j x hj
      exact ⟨q, by simpa using hq, hr⟩) h
    simp only [MA.run] at h
    cases hx : st1.rw r with
    | none => simp [hx, MA.run] at h
    | some xx =>
      cases xx with
      | gone => simp [hx, MA.run] at h
      | frz sz' rows => simp [hx, MA.run] at h
      | live e sz' rows =>
        simp only [hx] at h
        split at h
        rotate_left
        · exact (fail_inv h).elim
        rename_i hsz'
        subst hsz'
        split at h
        rotate_left
        · exact (fail_inv h).elim
        rename_i row hrow
        split at h
        rotate_left
        · exact (fail_inv h).elim
        rename_i hle
        simp only [MA.run, Option.some.injEq, Prod.mk.injEq] at h
        obtain ⟨rfl, rfl⟩ := h
        obtain ⟨inner, hown, hlen, hel, hfree⟩ := hM1.row r _ hx
        have hgr : g1.rw r = .slice (some ⟨b, 0, none⟩) n' c := by rw [(hE1.R r hr).2]; exact he
        have hrl : row.length = sz := hlen ix row hrow
        have hixl : ix < rows.length := (List.getElem?_eq_some_iff.1 hrow).1
        have hseg : (ix + 1) * sz ≤ rows.length * sz := Nat.mul_le_mul_right _ hixl
        rw [Nat.succ_mul] at hseg
        rcases hown.2 with ⟨hv, _⟩ | ⟨b', cap, cur, hv, _, hh, hnc, hcm, hcs, htake⟩
        · rw [hgr] at hv; cases hv
        · rw [hgr] at hv
          injection hv with hb1 hn1 hc1'
          injection hb1 with hb1
          injection hb1 with hb1 _ _
          subst hb1 hn1 hc1'
          have hmul : rows.length * sz ≤ c * sz := Nat.mul_le_mul_right _ hnc
          have htl2 : ts.length = nn := by omega
          have hD := run b (ix * sz + off) cur e rfl hh (by omega)
          have hvl : (a.eval z).cells.toList.length = nn := by simp; omega
          have hD' : Did P o a w undef (w.setRow b (spl cur.toList (ix * sz + off) (a.eval z).cells.toList).toArray) := by
            unfold spl; rw [hvl]; exact hD
          have hsp := spl_get (l := inner) (cs := (a.eval z).cells.toList) (off := ix * sz + off) (by rw [hown.1]; omega)
          have hst := spl_get (l := row) (cs := ts) (off := off) (by omega)
          have htk : (spl cur.toList (ix * sz + off) (a.eval z).cells.toList).take (rows.length * sz) = spl inner (ix * sz + off) (a.eval z).cells.toList := by
            rw [← htake]
            apply List.ext_getElem?
            intro k
            unfold spl
            simp only [List.append_assoc, List.getElem?_take, List.getElem?_append, List.length_take, List.getElem?_drop, Array.length_toList, hvl]
            repeat' split
            all_goals first | rfl | omega | (congr 1; omega) | skip
          have hRow : RowAt E.w0 (w.setRow b (spl cur.toList (ix * sz + off) (a.eval z).cells.toList).toArray) E.X g1.F (g1.rw r) (.live e sz (rows.set ix (spl row off ts))) := by
            refine ⟨spl inner (ix * sz + off) (a.eval z).cells.toList, ⟨by rw [hsp.1, hown.1, List.length_set], .inr ⟨b, c, _, by rw [hgr, List.length_set], Nat.zero_le _, setRow_heap w _ cur _ e _ hh, by rw [List.length_set]; exact hnc, hcm, ?_, by rw [List.length_set]; exact htk⟩⟩, fun i row' hi => ?_, fun i row' j x hi hj => ?_, hfree⟩
            · have := spl_get (l := cur.toList) (cs := (a.eval z).cells.toList) (off := ix * sz + off) (by rw [hvl]; simp; omega)
              simp only [List.size_toArray]; rw [this.1]; simpa using hcs
            · rw [List.getElem?_set] at hi
              split at hi
              · rename_i h0; cases hi; rw [hst.1]; exact hrl
              · exact hlen i row' hi
            · have hS1 : Same g1.F w (w.setRow b (spl cur.toList (ix * sz + off) (a.eval z).cells.toList).toArray) := fun k hk => setRow_other w b k _ (fun e => (hfree b (by rw [hgr]; rfl)).1 (e ▸ hk))
              have hjs : j < sz := by
                have h3 := (List.getElem?_eq_some_iff.1 hj).1
                rw [List.getElem?_set] at hi
                split at hi
                · rename_i h0; cases hi; rw [hst.1] at h3; omega
                · rw [hlen i row' hi] at h3; exact h3
              have hio : ∀ k, k < rows.length → (k = ix ∨ (k + 1) * sz ≤ ix * sz ∨ (ix + 1) * sz ≤ k * sz) := fun k _ => by
                rcases Nat.lt_trichotomy k ix with h5 | h5 | h5
                · exact .inr (.inl (Nat.mul_le_mul_right _ h5))
                · exact .inl h5
                · exact .inr (.inr (Nat.mul_le_mul_right _ h5))
              rw [List.getElem?_set] at hi
              split at hi
              · rename_i hie
                cases hi
                subst hie
                rcases hst.2 j x hj with ⟨h6, h7⟩ | ⟨h6, h7⟩
                · obtain ⟨q, hq, _, hr⟩ := hts _ x h7
                  refine ⟨q, ?_, hr.mono hS1 (fun _ h => h)⟩
                  have h8 : j - off < (a.eval z).cells.toList.length := (List.getElem?_eq_some_iff.1 hq).1
                  unfold spl
                  rw [List.append_assoc, List.getElem?_append_right (by simp; omega), List.getElem?_append_left (by simp [hown.1]; omega)]
                  rw [← hq]
                  congr 1
                  simp [hown.1]; omega
                · obtain ⟨q, hq, hr⟩ := hel _ row j x hrow h6
                  refine ⟨q, ?_, hr.mono hS1 (fun _ h => h)⟩
                  unfold spl
                  rcases h7 with h7 | h7
                  · rw [List.append_assoc, List.getElem?_append_left (by simp [hown.1]; omega), List.getElem?_take, if_pos (by omega)]
                    exact hq
                  · rw [List.getElem?_append_right (by simp [hown.1]; omega), List.getElem?_drop, ← hq]
                    congr 1
                    simp [hown.1]; omega
              · rename_i hie
                obtain ⟨q, hq, hr⟩ := hel i row' j x hi hj
                refine ⟨q, ?_, hr.mono hS1 (fun _ h => h)⟩
                have hil : i < rows.length := (List.getElem?_eq_some_iff.1 hi).1
                have h9 := hio i hil
                rw [Nat.succ_mul, Nat.succ_mul] at h9
                unfold spl
                rcases h9 with h9 | h9 | h9
                · exact absurd h9.symm hie
                · rw [List.append_assoc, List.getElem?_append_left (by simp [hown.1]; omega), List.getElem?_take, if_pos (by omega)]
                  exact hq
                · rw [List.getElem?_append_right (by simp [hown.1]; omega), List.getElem?_drop, ← hq]
                  congr 1
                  simp [hown.1]; omega
          obtain ⟨hM', hE'⟩ := hM1.set_row (w' := w.setRow b (spl cur.toList (ix * sz + off) (a.eval z).cells.toList).toArray) ⟨rfl, rfl, rfl, by simp [World.setRow]⟩ r _ e sz (rows.set ix (spl row off ts)) hx ⟨e, sz, rows, hx⟩
            (fun k _ hk => setRow_other w b k _ (fun e => hk (by rw [hgr]; simp [Value.ownBlock, e]))) hRow
          exact ⟨_, _, _, hD', hM', .undef _, hE1.trans hE', ht1.tm⟩
  | exa s cells b off q hs hD hx hr =>
    cases s with
    | false => exact (fail_inv h).elim
    | true =>
      simp only at h
      split at h
      rotate_left
      · exact (fail_inv h).elim
      rename_i hwk
      obtain ⟨rfl, rfl⟩ := ret_inv h
      unfold wkAt at hwk
      split at hwk
      rotate_left
      · cases hwk
      rename_i cs0 zc cs t0 hut
      obtain ⟨arr0, arr, e, hd0, hh, hsz2, hkq⟩ := hM.nowK hs hD
      have hx0 := hx 0 zc rfl
      have hr0 := hr 0 zc rfl
      rw [Nat.add_zero] at hx0
      simp only [World.cell?, hd0, Option.isSome_none, Bool.false_eq_true, if_false] at hx0
      obtain ⟨v0, hv0, hk0⟩ := hkq off _ hx0
      have hr1 := hr0.kq hk0
      obtain ⟨_, uz, huz, hrz⟩ := hc3 0 (.t t0) (by rw [hut]; rfl)
      have hnn : nn = 1 := by rw [← hl, hut]; rfl
      have hoff : off < arr.size := (Array.getElem?_eq_some_iff.1 hv0).1
      have hD' := run b off arr e rfl hh (by omega)
      have hvl : (a.eval z).cells.toList = [uz] := by
        have h1 : (a.eval z).cells.toList.length = 1 := by simp; omega
        match hq : (a.eval z).cells.toList, h1 with
        | [y], _ =>
          have : (a.eval z).cells.toList[0]? = some uz := by simpa using huz
          rw [hq] at this
          simpa using this
      have hq0 : Kq v0 uz := by
        cases hrz with
        | t _ _ hrz =>
          cases zc <;> cases t0 <;> simp [T.wk] at hwk
          · subst hwk
            cases hrz
            cases hr1
            exact .int _ _ _
          · cases hrz
            cases hr1
            exact .bool _ _
      have hKS : ∀ k, g.D k → KS w (w.setRow b (arr.toList.take off ++ (a.eval z).cells.toList ++ arr.toList.drop (off + nn)).toArray) k := by
        intro k hk
        by_cases he : k = b
        · subst he
          refine ⟨arr, _, e, hh, setRow_heap w _ arr _ e _ hh, by simp [hvl, hnn]; omega, fun i v hv => ?_⟩
          have hi : i < arr.size := (Array.getElem?_eq_some_iff.1 hv).1
          by_cases hio : i = off
          · subst hio
            rw [hv0] at hv
            cases hv
            refine ⟨uz, ?_, hq0⟩
            simp only [List.getElem?_toArray, List.append_assoc, hvl]
            rw [List.getElem?_append_right (by simp; omega)]
            simp [Nat.min_eq_left (Nat.le_of_lt hoff)]
          · refine ⟨v, ?_, .refl v⟩
            simp only [List.getElem?_toArray, hvl]
            rcases Nat.lt_or_gt_of_ne hio with h5 | h5
            · rw [List.append_assoc, List.getElem?_append_left (by simp; omega), List.getElem?_take, if_pos h5]
              simpa using hv
            · rw [List.getElem?_append_right (by simp; omega), List.getElem?_drop]
              rw [← hv]
              simp only [List.length_append, List.length_take, Array.length_toList, Nat.min_eq_left (Nat.le_of_lt hoff), List.length_cons, List.length_nil, hnn, Array.getElem?_toList]
              congr 1
              omega
        · obtain ⟨_, y, e', _, h2, _⟩ := hM.nowK hs hk
          exact (KS.refl ⟨y, e', h2⟩).same (setRow_other w b k _ he)
      obtain ⟨hM', hE'⟩ := hM.stepD hs (w' := w.setRow b (arr.toList.take off ++ (a.eval z).cells.toList ++ arr.toList.drop (off + nn)).toArray) ⟨rfl, rfl, rfl, by simp [World.setRow]⟩
        (fun k _ hk => setRow_other w b k _ (fun e => hk (e ▸ hD))) hKS
      exact ⟨_, _, _, hD', hM', .undef _, hE', rfl⟩
  | _ => exact (fail_inv h).elim
end
end Go.Tm
