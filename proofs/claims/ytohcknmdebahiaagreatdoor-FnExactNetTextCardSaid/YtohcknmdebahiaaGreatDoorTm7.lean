/- Rows that are made, filled and grown. -/
import Derived.Test.YtohcknmdebahiaaGreatDoorTm6
import Derived.Maps.AppendAt
set_option linter.unusedVariables false
set_option linter.unusedSimpArgs false
namespace Go.Tm
open Go.RowKit

section
variable {P : Program} {E : En} {g : Gh} {st st' : St} {a : Act} {w : World}

theorem mkRow_run {r e sz : Nat} {rows : List (List T)} {x : A} (h : (mkRow r e sz rows).run st = some (x, st')) : st.rw r = none ∧ x = .own r ∧ st' = { st with rw := upd st.rw r (some (.live e sz rows)) } := by
  unfold mkRow at h
  simp only [MA.run] at h
  cases hx : st.rw r with
  | some y => simp [hx, MA.run] at h
  | none =>
    simp only [hx, MA.run, Option.some.injEq, Prod.mk.injEq] at h
    exact ⟨rfl, h.1.symm, h.2.symm⟩

/-- A row that was made: in a new block, or in one that is nobody's. -/
theorem mkRow_aft' {r e sz : Nat} {rows : List (List T)} {x : A} {w' : World} (hM : Mem E g st w) (h : (mkRow r e sz rows).run st = some (x, st')) (hd : Value) (hc : Calm w w') (p : Nat → Prop)
    (hb : ∀ b, b < w.heap.size → ¬ p b → w'.heap[b]? = w.heap[b]?) (hdp : ∀ b, hd.ownBlock = some b → p b) (hpX : ∀ b, b < E.w0.heap.size → p b → E.X b)
    (hfree : ∀ b, p b → ¬ g.F b ∧ (∀ s, st.O s → g.ob s ≠ b) ∧ (∀ r', st.L r' → (g.rw r').ownBlock ≠ some b))
    (hrow : RowAt E.w0 w' E.X g.F hd (.live e sz rows)) : ∃ g', Aft E g st w x st' hd g' w' := by
  obtain ⟨hr, rfl, rfl⟩ := mkRow_run h
  obtain ⟨hM', hE⟩ := hM.new_row hc r hr hd e sz rows p hb hdp hpX hfree hrow
  refine ⟨_, hM', ?_, hE, rfl⟩
  have := VR.own (w := w') (g := { g with rw := upd g.rw r hd }) (O := ({ st with rw := upd st.rw r (some (.live e sz rows)) } : St).O) (R := ({ st with rw := upd st.rw r (some (.live e sz rows)) } : St).R) r (R_upd.2 (.inl rfl))
  simpa only [upd_eq] using this
theorem mkRow_aft {r e sz : Nat} {rows : List (List T)} {x : A} {w' : World} (hM : Mem E g st w) (h : (mkRow r e sz rows).run st = some (x, st')) (hd : Value) (hc : Calm w w')
    (hb : ∀ b, b < w.heap.size → hd.ownBlock ≠ some b → w'.heap[b]? = w.heap[b]?)
    (hfree : ∀ b, hd.ownBlock = some b → ¬ g.F b ∧ (∀ s, st.O s → g.ob s ≠ b) ∧ (∀ r', st.L r' → (g.rw r').ownBlock ≠ some b))
    (hrow : RowAt E.w0 w' E.X g.F hd (.live e sz rows)) : ∃ g', Aft E g st w x st' hd g' w' :=
  mkRow_aft' hM h hd hc (fun b => hd.ownBlock = some b) hb (fun _ h => h) (fun b h1 hp => by
    obtain ⟨_, _, _, _, hX⟩ := hrow
    rcases (hX b hp).2 with h2 | h2
    · omega
    · exact h2) hfree hrow

theorem new_free (hM : Mem E g st w) {b : Nat} (hb : w.heap.size ≤ b) : ¬ g.F b ∧ (∀ s, st.O s → g.ob s ≠ b) ∧ (∀ r', st.L r' → (g.rw r').ownBlock ≠ some b) :=
  ⟨fun h => by have := (hM.F b h).1; omega, fun s hs he => by have := hM.ob_lt hs; omega, fun r' hr' he => by have := hM.row_lt hr' he; omega⟩

/-- Rows and the cells that hold them. -/
structure RCs (w : World) (F : Nat → Prop) (sz : Nat) (rows : List (List T)) (arr : List Value) : Prop where
  size : arr.length = rows.length * sz
  len : ∀ (i : Nat) (row : List T), rows[i]? = some row → row.length = sz
  rd : ∀ (i : Nat) (row : List T) (j : Nat) (x : T), rows[i]? = some row → row[j]? = some x → ∃ u, arr[i * sz + j]? = some u ∧ u.oneCell' = true ∧ Rd w F x u

theorem RCs.mono {F F' : Nat → Prop} {sz : Nat} {rows : List (List T)} {arr : List Value} (h : RCs w F sz rows arr) {w' : World} (hs : Same F w w') (hF : ∀ b, F b → F' b) : RCs w' F' sz rows arr :=
  ⟨h.size, h.len, fun i row j x h1 h2 => let ⟨u, hu, ho, hr⟩ := h.rd i row j x h1 h2; ⟨u, hu, ho, hr.mono hs hF⟩⟩

theorem mod_lt' {i j sz : Nat} (h : j < sz) : (i * sz + j) % sz = j := by
  rw [Nat.add_comm, Nat.add_mul_mod_self_right, Nat.mod_eq_of_lt h]
theorem seg_lt {i j sz n : Nat} (hi : i < n) (hj : j < sz) : i * sz + j < n * sz := by
  have : (i + 1) * sz ≤ n * sz := Nat.mul_le_mul_right _ hi
  rw [Nat.succ_mul] at this
  omega

/-- n elements, all alike. -/
theorem RCs.rep {F : Nat → Prop} {ts : List T} {zs : List Value} (hl : zs.length = ts.length) (h : ∀ (j : Nat) (t : T), ts[j]? = some t → ∃ u, zs[j]? = some u ∧ u.oneCell' = true ∧ Rd w F t u)
    (n : Nat) (arr : List Value) (ha : arr.length = n * ts.length) (hx : ∀ k, k < n * ts.length → arr[k]? = zs[k % ts.length]?) : RCs w F ts.length (List.replicate n ts) arr := by
  refine ⟨by simpa using ha, fun i row hi => ?_, fun i row j x hi hj => ?_⟩
  · have := List.mem_of_getElem? hi
    rw [List.mem_replicate] at this
    rw [this.2]
  · have hr := List.mem_of_getElem? hi
    rw [List.mem_replicate] at hr
    have hil : i < n := by have := (List.getElem?_eq_some_iff.1 hi).1; simpa using this
    rw [hr.2] at hj
    have hjl : j < ts.length := (List.getElem?_eq_some_iff.1 hj).1
    obtain ⟨u, hu, ho, hrd⟩ := h j x hj
    refine ⟨u, ?_, ho, hrd⟩
    rw [hx _ (seg_lt hil hjl), mod_lt' hjl]
    exact hu

/-- One element set. -/
theorem RCs.set {F : Nat → Prop} {sz : Nat} {rows : List (List T)} {arr arr' : List Value} {ts : List T} {vs : List Value} (h : RCs w F sz rows arr) (i0 : Nat) (hi0 : i0 < rows.length) (hl : ts.length = sz) (hvl : vs.length = sz)
    (hv : ∀ (j : Nat) (t : T), ts[j]? = some t → ∃ u, vs[j]? = some u ∧ u.oneCell' = true ∧ Rd w F t u) (he : arr' = Go.Tm.spl arr (i0 * sz) vs) : RCs w F sz (rows.set i0 ts) arr' := by
  subst he
  have hseg : (i0 + 1) * sz ≤ rows.length * sz := Nat.mul_le_mul_right _ hi0
  rw [Nat.succ_mul] at hseg
  have hsp := spl_get (l := arr) (cs := vs) (off := i0 * sz) (by rw [h.size, hvl]; exact hseg)
  refine ⟨by rw [hsp.1, h.size, List.length_set], fun i row hi => ?_, fun i row j x hi hj => ?_⟩
  · rw [List.getElem?_set] at hi
    split at hi
    · cases hi; exact hl
    · exact h.len i row hi
  · rw [List.getElem?_set] at hi
    split at hi
    · rename_i h0
      cases hi
      subst h0
      obtain ⟨u, hu, ho, hr⟩ := hv j x hj
      refine ⟨u, ?_, ho, hr⟩
      have hjl : j < vs.length := (List.getElem?_eq_some_iff.1 hu).1
      have ht : (arr.take (i0 * sz)).length = i0 * sz := by rw [List.length_take, h.size]; omega
      unfold Go.Tm.spl
      rw [List.append_assoc, List.getElem?_append_right (by omega), ht, List.getElem?_append_left (by omega), ← hu]
      congr 1
      omega
    · rename_i h0
      obtain ⟨u, hu, ho, hr⟩ := h.rd i row j x hi hj
      refine ⟨u, ?_, ho, hr⟩
      have hj' : j < sz := by rw [← h.len i row hi]; exact (List.getElem?_eq_some_iff.1 hj).1
      unfold Go.Tm.spl
      rcases Nat.lt_or_ge i i0 with h5 | h5
      · have := seg_lt h5 hj'
        rw [List.append_assoc, List.getElem?_append_left (by rw [List.length_take, h.size]; omega), List.getElem?_take, if_pos (by omega)]
        exact hu
      · have h6 : (i0 + 1) * sz ≤ i * sz := Nat.mul_le_mul_right _ (by omega)
        rw [Nat.succ_mul] at h6
        have ht : (arr.take (i0 * sz) ++ vs).length = i0 * sz + sz := by rw [List.length_append, List.length_take, h.size, hvl]; omega
        rw [List.getElem?_append_right (by omega), ht, List.getElem?_drop, hvl, show i0 * sz + sz + (i * sz + j - (i0 * sz + sz)) = i * sz + j by omega]
        exact hu

theorem fillR_run {α : Type} {lb : List Nat} {sz : Nat} : ∀ {ps : List (Nat × A)} {vs : List (Nat × Value)} {rows : List (List T)} {k : List (List T) → MA α} {arr : Array Value} {st : St} {g : Gh} {y : α}, Mem E g st w → (fillR lb sz rows ps k).run st = some (y, st') → vs.length = ps.length →
    (∀ (i : Nat) (p : Nat × A), ps[i]? = some p → ∃ v, vs[i]? = some (p.1, v) ∧ VR w g st.O st.R p.2 v) → RCs w g.F sz rows arr.toList →
    ∃ rows' st1 g1 arr', Mem E g1 st1 w ∧ Ext w w g g1 st.O st.R st1.O st1.R ∧ Sub g st g1 st1 ∧ (k rows').run st1 = some (y, st') ∧ Instr.fill (fun i => some (i * sz, sz)) arr vs = some arr' ∧ RCs w g1.F sz rows' arr'.toList ∧ rows'.length = rows.length
  | [], vs, rows, k, arr, st, g, y, hM, h, hl, hv, hc => by
    have : vs = [] := List.eq_nil_of_length_eq_zero hl
    subst this
    exact ⟨rows, st, g, arr, hM, Ext.refl _ _ _ _, Sub.refl _ _, h, rfl, hc, rfl⟩
  | (i, x) :: ps, vs, rows, k, arr, st, g, y, hM, h, hl, hv, hc => by
    unfold fillR at h
    split at h
    rotate_left
    · exact (fail_inv h).elim
    rename_i hh
    obtain ⟨h1, h2⟩ := hh
    obtain ⟨v0, vs, rfl⟩ : ∃ v vs', vs = v :: vs' := by
      cases vs with
      | nil => simp at hl
      | cons v vs => exact ⟨v, vs, rfl⟩
    obtain ⟨v, hv0, hr⟩ := hv 0 _ rfl
    simp at hv0
    subst hv0
    -- all its cells are of one cell: else toTs fails
    have hone : ∀ (l : List A) (st : St) (k : List T → MA α), (A.toTs l k).run st = some (y, st') → l.all A.one = true := by
      intro l
      induction l with
      | nil => intro _ _ _; rfl
      | cons q l ih =>
        intro st k h
        simp only [A.toTs] at h
        cases q with
        | t x => exact (by show (A.one _ && l.all A.one) = true; rw [ih _ _ h]; rfl)
        | nil => exact (by show (A.one _ && l.all A.one) = true; rw [ih _ _ h]; rfl)
        | own r =>
          simp only [A.toT, MA.run] at h
          split at h
          · show (A.one _ && l.all A.one) = true; rw [ih _ _ h]; rfl
          · show (A.one _ && l.all A.one) = true; rw [ih _ _ h]; rfl
          · exact (fail_inv h).elim
        | _ => exact (fail_inv h).elim
    have hcs := hr.cs hM (relab_one (hone _ _ _ h))
    obtain ⟨ts, st1, g1, hM1, hE1, ht1, h4, htl, hts⟩ := toTL_run hM (vs := v.cells.toList) (by rw [Array.length_toList]; exact hcs.1) (fun j x hj => by
      obtain ⟨_, q, hq, hr⟩ := hcs.2 j x hj
      exact ⟨q, by simpa using hq, hr⟩) h
    have hvs : v.cells.size = sz := by rw [hcs.1]; exact h1
    have hseg : (i + 1) * sz ≤ rows.length * sz := Nat.mul_le_mul_right _ h2
    rw [Nat.succ_mul] at hseg
    have hasz : arr.size = rows.length * sz := by rw [← Array.length_toList]; exact hc.size
    have hfold : (v.cells.zipIdx.foldl (fun cs (c, j) => cs.setIfInBounds (i * sz + j) c) arr).toList = spl arr.toList (i * sz) v.cells.toList := by
      have := foldl_set v.cells.toList (i * sz) 0 arr (by rw [Array.length_toList]; omega)
      rw [Nat.add_zero] at this
      rw [← this]
      congr 1
      rw [← Array.foldl_toList]
      simp
    obtain ⟨rows', st2, g2, arr', hM2, hE2, ht2, h5, h6, h7, h8⟩ := fillR_run (vs := vs) (arr := v.cells.zipIdx.foldl (fun cs (c, j) => cs.setIfInBounds (i * sz + j) c) arr) hM1 h4 (by simpa using hl)
      (fun i p hp => by
        obtain ⟨u, hu, hr⟩ := hv (i + 1) p (by simpa using hp)
        exact ⟨u, by simpa using hu, hr.mono hE1⟩) ((hc.mono hE1.same hE1.F).set i h2 (by omega) (by rw [Array.length_toList]; exact hvs) hts hfold)
    refine ⟨rows', st2, g2, arr', hM2, hE1.trans hE2, ht1.trans ht2, h5, ?_, h7, by rw [h8, List.length_set]⟩
    have hle : ¬ i * sz + sz > arr.size := by omega
    simp only [Instr.fill, hvs, ne_eq, not_true_eq_false, decide_false, Bool.false_or]
    rw [if_neg (by simpa using hle)]
    exact h6

/-- Rows told of a block as RowAt wants them. -/
theorem RCs.rowAt {w' : World} {e sz : Nat} {rows : List (List T)} {inner : List Value} {hd : Value} (h : RCs w' g.F sz rows inner) (hown : w'.ownsRow 0 e sz hd rows.length inner) (hf : ∀ b, hd.ownBlock = some b → ¬ g.F b ∧ (E.w0.heap.size ≤ b ∨ E.X b)) :
    RowAt E.w0 w' E.X g.F hd (.live e sz rows) := ⟨inner, hown, h.len, fun i row j x h1 h2 => let ⟨u, hu, _, hr⟩ := h.rd i row j x h1 h2; ⟨u, hu, hr⟩, hf⟩

theorem run_buildSlice' {t e m sz : Nat} {vparts : Array (Nat × Value)} {i : TypeInfo} {zv : Value} {arr' : Array Value} (hu : P.underlying t = some (.slice e)) (hi : P.info? e = some i) (hzv : i.zero = some zv) (hsz : i.size = sz) (hm : m * sz ≤ 16777216)
    (h : Instr.fill (fun i => some (i * sz, sz)) ((Array.range (m * sz)).map (zv.cells[· % zv.cells.size]!)) vparts.toList = some arr') :
    (Instr.buildSlice t m vparts).run P w = .ok (.slice (some ⟨w.heap.size, 0, none⟩) m m) (w.alloc (.cells arr' e)) := by
  have hlim : ¬ m * sz > 2 ^ 24 := by omega
  by_cases h0 : m * sz = 0
  · have hr0 : Array.range 0 = #[] := rfl
    rw [h0, hr0, Array.map_empty] at h
    simp [Instr.buildSlice, run_underlying hu, zeroValue, typeInfo, sizeOf, hi, hsz, h0, hr0, h, newRow, newObj, Sem.run]
  · simp [Instr.buildSlice, run_underlying hu, zeroValue, typeInfo, sizeOf, hi, hzv, hsz, h0, hlim, h, newRow, newObj, Sem.run]

theorem did_buildSlice {o : Oper} {t e d m : Nat} {parts : Array (Nat × Operand)} {sz : Nat} {z : List A} {ps : List (Nat × A)} {x : A} {n : Nat} (hS : Sim E g n st a w) (ho : o.op = .buildSlice t m parts)
    (hu : P.underlying t = some (.slice e)) (hsz : tsize P e = some sz) (hz : tzero P e = some z) (hps : allSome (parts.toList.map fun (i, x) => (st.eval x).map fun v => (i, v)) = some ps)
    (hk : z.length = sz ∧ 0 < sz ∧ m * sz ≤ 16777216) (h : (A.toTs (relab (labs P e) z) fun ts => fillR (labs P e) sz (List.replicate m ts) ps fun rows => mkRow (tokR d 0) e sz rows).run st = some (x, st')) :
    ∃ u g' w', Did P o a w u w' ∧ Aft E g st w x st' u g' w' := by
  obtain ⟨hk1, hk2, hk3⟩ := hk
  obtain ⟨i, zv, hi, hzv, hC⟩ := tzero_cs hz
  obtain ⟨i', hi', hsz'⟩ := tsize_run hsz
  rw [hi] at hi'
  cases hi'
  have hCz := hC w g st.O st.R
  have hzs : zv.cells.size = sz := by rw [hCz.1]; exact hk1
  obtain ⟨h1, h2⟩ := parts_get (a := a) hps (fun x y h => eval_VR hS h)
  obtain ⟨ts, st1, g1, hM1, hE1, ht1, h4, htl, hts⟩ := toTL_run hS.mem (vs := zv.cells.toList) (by rw [Array.length_toList]; exact hCz.1) (fun j x hj => by
      obtain ⟨_, q, hq, hr⟩ := hCz.2 j x hj
      exact ⟨q, by simpa using hq, hr⟩) h
  have htsz : ts.length = sz := by omega
  have hm : m ≤ 16777216 := Nat.le_trans (Nat.le_mul_of_pos_right _ hk2) hk3
  have hR0 : RCs w g1.F sz (List.replicate m ts) ((Array.range (m * sz)).map (zv.cells[· % zv.cells.size]!)).toList := by
    have := RCs.rep (w := w) (F := g1.F) (ts := ts) (zs := zv.cells.toList) (by rw [Array.length_toList]; omega) hts m ((Array.range (m * sz)).map (zv.cells[· % zv.cells.size]!)).toList (by simp [htsz]) (fun k hk => by
      rw [htsz] at hk ⊢
      have hkm : k % sz < zv.cells.size := by rw [hzs]; exact Nat.mod_lt _ hk2
      simp only [Array.getElem?_toList, Array.getElem?_map, Array.getElem?_range, hk, if_true, Option.map_some, hzs]
      rw [Array.getElem?_eq_getElem hkm, getElem!_pos zv.cells (k % sz) hkm])
    rw [htsz] at this
    exact this
  obtain ⟨rows', st2, g2, arr', hM2, hE2, ht2, h5, h6, h7, h8⟩ := fillR_run hM1 h4 h1 (fun i p hp => by
    obtain ⟨u, hu, hr⟩ := h2 i p hp
    exact ⟨u, hu, hr.mono hE1⟩) hR0
  have hrl : rows'.length = m := by rw [h8, List.length_replicate]
  have hasz : arr'.size = m * sz := by rw [← Array.length_toList, h7.size, hrl]
  have hown := World.ownsRow_lit (base := 0) (e := e) (size := sz) w arr' m (Nat.zero_le _) (by simp only [maxLen]; omega) hasz
  have hSm : Same g2.F w (w.alloc (.cells arr' e)) := fun b hb => heap_alloc_old w _ b (hM2.F b hb).1
  obtain ⟨g', hA⟩ := mkRow_aft hM2 h5 (.slice (some ⟨w.heap.size, 0, none⟩) m m) (alloc_calm w (.cells arr' e)) (fun b hb _ => heap_alloc_old w _ b hb) (fun b hb => by
      simp only [Value.ownBlock, Option.some.injEq] at hb
      exact new_free hM2 (by omega)) ((h7.mono hSm (fun _ h => h)).rowAt (by rw [hrl]; exact hown) (fun b hb => by
      simp only [Value.ownBlock, Option.some.injEq] at hb
      subst hb
      exact ⟨(new_free hM2 (Nat.le_refl _)).1, .inl hM2.sizes⟩))
  refine ⟨_, g', _, .inl ?_, hA.mem, hA.vr, (hE1.trans hE2).trans hA.ext, hA.tm.trans (ht1.trans ht2).tm⟩
  have hrun := run_buildSlice' (w := w) hu hi hzv hsz' hk3 h6
  simp only [execOp, ho, Sem.run_bind, hrun, Result.andThen_ok, Sem.run_pure]
end
end Go.Tm
