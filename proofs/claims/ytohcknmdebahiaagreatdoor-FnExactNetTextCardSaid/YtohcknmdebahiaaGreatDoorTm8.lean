/- make, append, slices, lengths; addresses; numbers and strings; and all operations together. -/
import Derived.Test.YtohcknmdebahiaaGreatDoorTm7
import Derived.Laws.BytesArg
set_option linter.unusedVariables false
set_option linter.unusedSimpArgs false
namespace Go.Tm
open Go.RowKit

section
variable {P : Program} {E : En} {g : Gh} {st st' : St} {a : Act} {w : World}

theorem own_slot {b b' : Nat} {c n : Nat} (h : (Value.slice (some ⟨b, 0, none⟩) n c).ownBlock = some b') : b' = b := by
  simp only [Value.ownBlock, Option.some.injEq] at h; exact h.symm

theorem did_make {o : Oper} {t e d by_ m : Nat} {xl xc : Operand} {l c : Int} {zz : Option Value} {z : List A} {x : A} {n : Nat} (hS : Sim E g n st a w) (ho : o.op = .makeSlice t xl xc) (hl : a.eval xl = .int .i64 l) (hc : a.eval xc = .int .i64 c)
    (hu : P.underlying t = some (.slice e)) (hi0 : tinfo P e = some (zz, m, by_)) (hz : tzero P e = some z) (hk : z.length = m ∧ 0 < m ∧ 0 ≤ c ∧ (l = 0 ∨ l = c) ∧ c.toNat * by_ ≤ 140737488355328 ∧ c ≤ 9223372036854775807)
    (h : (A.toTs (relab (labs P e) z) fun ts => mkRow (tokR d 0) e m (List.replicate l.toNat ts)).run st = some (x, st')) :
    ∃ u g' w', Did P o a w u w' ∧ Aft E g st w x st' u g' w' := by
  obtain ⟨hk1, hk2, hk3, hk4, hk5, hk6⟩ := hk
  obtain ⟨i, zv, hi, hzv, hC⟩ := tzero_cs hz
  obtain ⟨i', hi', _, hsz, hby⟩ := tinfo_run hi0
  rw [hi] at hi'
  cases hi'
  have hCz := hC w g st.O st.R
  have hzs : zv.cells.size = m := by rw [hCz.1]; exact hk1
  obtain ⟨ts, st1, g1, hM1, hE1, ht1, h4, htl, hts⟩ := toTL_run hS.mem (vs := zv.cells.toList) (by rw [Array.length_toList]; exact hCz.1) (fun j x hj => by
      obtain ⟨_, q, hq, hr⟩ := hCz.2 j x hj
      exact ⟨q, by simpa using hq, hr⟩) h
  have htsz : ts.length = m := by omega
  obtain ⟨c, rfl⟩ := Int.eq_ofNat_of_zero_le hk3
  have hb1 : i.bytes * c ≤ 281474976710656 := by rw [hby, Nat.mul_comm]; simp at hk5; omega
  have hb2 : c ≤ maxLen := by simp only [maxLen]; omega
  have fin : ∀ (w' : World) (m' : Nat) (inner : List Value), (Instr.makeSlice t (.int .i64 l) (.int .i64 (c : Int))).run P w = .ok (.slice (some ⟨w.heap.size, 0, none⟩) m' c) w' → l.toNat = m' →
      w'.ownsRow 0 e m (.slice (some ⟨w.heap.size, 0, none⟩) m' c) m' inner → w.grownBy w' none → RCs w g1.F m (List.replicate l.toNat ts) inner → ∃ u g' w', Did P o a w u w' ∧ Aft E g st w x st' u g' w' := by
    intro w' m' inner hr hm' hown hg hR
    have hSm : Same g1.F w w' := fun b hb => hg.block b (hM1.F b hb).1 (by simp)
    have hrl : (List.replicate l.toNat ts).length = m' := by simp [hm']
    obtain ⟨g', hA⟩ := mkRow_aft hM1 h4 (.slice (some ⟨w.heap.size, 0, none⟩) m' c) ⟨hg.os, hg.tape, hg.output, hg.size⟩ (fun b hb _ => hg.block b hb (by simp)) (fun b hb => new_free hM1 (by have := own_slot hb; omega))
      ((hR.mono hSm (fun _ h => h)).rowAt (by rw [hrl]; exact hown) (fun b hb => by
        have := own_slot hb
        subst this
        exact ⟨(new_free hM1 (Nat.le_refl _)).1, .inl hM1.sizes⟩))
    refine ⟨_, g', _, .inl ?_, hA.mem, hA.vr, hE1.trans hA.ext, hA.tm.trans ht1.tm⟩
    simp only [execOp, ho, hl, hc, Sem.run_bind, hr, Result.andThen_ok, Sem.run_pure]
  by_cases h0 : l = 0
  · subst h0
    obtain ⟨w', hr, hown, hg⟩ := run_make_own (P := P) w 0 t e i zv m hu hi hzv hsz .i64 .i64 c hb1 hb2 (Nat.zero_le _)
    refine fin w' 0 [] hr rfl hown hg ⟨by simp, by simp, by simp⟩
  · have hlc : l = (c : Int) := hk4.resolve_left h0
    subst hlc
    obtain ⟨w', hr, hown, hg⟩ := run_make_full (P := P) w 0 t e i zv m hu hi hzv hsz .i64 .i64 c hb1 hb2 (Nat.zero_le _)
    refine fin w' c _ hr (by simp) hown hg ?_
    have := RCs.rep (w := w) (F := g1.F) (ts := ts) (zs := zv.cells.toList) (by rw [Array.length_toList]; omega) hts c (madeCells zv.cells (c * m)).toList (by simp [madeCells, htsz]) (fun k hk => by
      rw [htsz] at hk ⊢
      have hkm : k % m < zv.cells.size := by rw [hzs]; exact Nat.mod_lt _ hk2
      simp only [madeCells, Array.getElem?_toList, Array.getElem?_map, Array.getElem?_range, hk, if_true, Option.map_some, hzs]
      rw [Array.getElem?_eq_getElem hkm, getElem!_pos zv.cells (k % m) hkm])
    rw [htsz] at this
    simpa using this

theorem RowAt.rcs {w0 : World} {X F : Nat → Prop} {v : Value} {e sz : Nat} {rows : List (List T)} (h : RowAt w0 w X F v (.live e sz rows)) : ∃ inner, w.ownsRow 0 e sz v rows.length inner ∧ RCs w F sz rows inner ∧ (∀ b, v.ownBlock = some b → ¬ F b ∧ (w0.heap.size ≤ b ∨ X b)) := by
  obtain ⟨inner, ho, h1, h2, h3⟩ := h
  exact ⟨inner, ho, ⟨ho.1, h1, fun i row j x hi hj => let ⟨u, hu, hr⟩ := h2 i row j x hi hj; ⟨u, hu, hr.one.1, hr⟩⟩, h3⟩

theorem RCs.app {F : Nat → Prop} {sz : Nat} {xs ys : List (List T)} {xa ya : List Value} (h : RCs w F sz xs xa) (k : RCs w F sz ys ya) : RCs w F sz (xs ++ ys) (xa ++ ya) := by
  refine ⟨by rw [List.length_append, List.length_append, h.size, k.size, Nat.add_mul], fun i row hi => ?_, fun i row j x hi hj => ?_⟩
  · rw [List.getElem?_append] at hi
    split at hi
    · exact h.len i row hi
    · exact k.len _ row hi
  · rw [List.getElem?_append] at hi
    split at hi
    · rename_i hlt
      obtain ⟨u, hu, ho, hr⟩ := h.rd i row j x hi hj
      exact ⟨u, by rw [List.getElem?_append_left ((List.getElem?_eq_some_iff.1 hu).1)]; exact hu, ho, hr⟩
    · rename_i hlt
      obtain ⟨u, hu, ho, hr⟩ := k.rd _ row j x hi hj
      refine ⟨u, ?_, ho, hr⟩
      have h5 : xs.length * sz ≤ i * sz := Nat.mul_le_mul_right _ (by omega)
      rw [List.getElem?_append_right (by rw [h.size]; omega), h.size, ← hu]
      congr 1
      rw [Nat.sub_mul]
      omega

theorem run_append_none {t ty e : TypeId} {i : TypeInfo} (ht : P.underlying t = some (.slice e)) (hi : P.info? e = some i) {v : Value} {n size : Nat} {xs : List Value} (hown : w.ownsRow 0 e size v n xs) (ad : Option Addr) (c : Nat) :
    (Builtin.append_ #[t, t] ty #[v, .slice ad 0 c]).run P w = .ok v w := by
  have hf : (Builtin.firstCells i.size 0 (.slice ad 0 c)).run P w = .ok #[] w := by cases ad <;> simp [Builtin.firstCells, loadCells, loadCellsFrom]
  rcases hown.2 with ⟨rfl, rfl⟩ | ⟨g, cap, cur, rfl, _, _, hnc, _⟩
  · simp [Builtin.append_, run_underlying ht, sizeOf, typeInfo, hi, Builtin.lenOf, hf]
  · simp [Builtin.append_, run_underlying ht, sizeOf, typeInfo, hi, Builtin.lenOf, hf, hnc, storeCells]

/-- The grown row, its old block being nobody's but its own. -/
theorem append_aft {t ty e : TypeId} {i : TypeInfo} {zv : Value} {n by_ : Nat} (ht : P.underlying t = some (.slice e)) (hi : P.info? e = some i) (hz : i.zero = some zv) (hs : i.size = n) (hb : i.bytes = by_) (hzs : zv.cells.size = n) (hn : 0 < n) (hby : 0 < by_)
    {r' : Nat} {x : A} {v vy : Value} {rows ys : List (List T)} {inner : List Value} (hM : Mem E g st w) (hown : w.ownsRow 0 e n v rows.length inner) (hR : RCs w g.F n rows inner)
    (hfree : ∀ b, v.ownBlock = some b → (¬ g.F b ∧ (∀ s, st.O s → g.ob s ≠ b) ∧ (∀ r', st.L r' → (g.rw r').ownBlock ≠ some b)) ∧ (E.w0.heap.size ≤ b ∨ E.X b))
    (sz : Nat) (ad : Option Addr) (c : Nat) (hvy : vy = .slice ad ys.length c) (hY : Rds w g.F sz ys ad) (hsz : ys ≠ [] → sz = n) (hlim : (rows.length + ys.length) * by_ ≤ 140737488355328)
    (h : (mkRow r' e n (rows ++ ys)).run st = some (x, st')) :
    ∃ v' w' g', (Builtin.append_ #[t, t] ty #[v, vy]).run P w = .ok v' w' ∧ Aft E g st w x st' v' g' w' := by
  subst hvy
  by_cases hne : ys = []
  · subst hne
    rw [List.append_nil] at h
    obtain ⟨g', hA⟩ := mkRow_aft hM h v (Calm.refl w) (fun _ _ _ => rfl) (fun b hb => (hfree b hb).1) (hR.rowAt hown (fun b hb => ⟨(hfree b hb).1.1, (hfree b hb).2⟩))
    exact ⟨v, w, g', run_append_none ht hi hown ad c, hA⟩
  · have hszn := hsz hne
    subst hszn
    obtain ⟨b, off, rfl, news, hnl, hnc, hn1, hnr⟩ := hY.flat hne
    have h63 : rows.length + ys.length ≤ maxLen := by
      have := Nat.le_trans (Nat.le_mul_of_pos_right _ hby) hlim
      simp only [maxLen]; omega
    obtain ⟨v', w', hr, hown', hg, _, hat⟩ := run_append_own_at (P := P) w 0 t ty e i zv sz by_ ht hi hz hs hb hzs hn v rows.length inner hown ⟨b, off, none⟩ ys.length c news hnl hnc hn1 h63 hlim (Nat.zero_le _)
    have hblk : ∀ b', v'.ownBlock = some b' → v.ownBlock = some b' ∨ b' = w.heap.size := fun b' hb' => by
      rcases hat with hat | hat
      · exact .inl (hat ▸ hb')
      · rw [hat] at hb'; exact .inr (by simpa using hb'.symm)
    have hSm : Same g.F w w' := fun k hk => hg.block k (hM.F k hk).1 (fun he => (hfree k he.symm).1.1 hk)
    have hR2 : RCs w g.F sz ys news := ⟨hnl, hY.len, fun i row j x h1 h2 => let ⟨u, hu, hr⟩ := hnr i row j x h1 h2; ⟨u, hu, hr.one.1, hr⟩⟩
    have hX : ∀ b', v'.ownBlock = some b' → (¬ g.F b' ∧ (∀ s, st.O s → g.ob s ≠ b') ∧ (∀ r', st.L r' → (g.rw r').ownBlock ≠ some b')) ∧ (E.w0.heap.size ≤ b' ∨ E.X b') := fun b' hb' => by
      rcases hblk b' hb' with h1 | h1
      · exact hfree b' h1
      · exact ⟨new_free hM (by omega), .inl (by have := hM.sizes; omega)⟩
    have hX' : ∀ b', (v.ownBlock = some b' ∨ b' = w.heap.size) → (¬ g.F b' ∧ (∀ s, st.O s → g.ob s ≠ b') ∧ (∀ r', st.L r' → (g.rw r').ownBlock ≠ some b')) ∧ (E.w0.heap.size ≤ b' ∨ E.X b') := fun b' hb' => by
      rcases hb' with h1 | h1
      · exact hfree b' h1
      · exact ⟨new_free hM (by omega), .inl (by have := hM.sizes; omega)⟩
    obtain ⟨g', hA⟩ := mkRow_aft' hM h v' ⟨hg.os, hg.tape, hg.output, hg.size⟩ (fun b => v.ownBlock = some b ∨ b = w.heap.size) (fun k hk hne' => hg.block k hk (fun he => hne' (.inl he.symm))) hblk
      (fun b h1 hp => (hX' b hp).2.elim (fun h2 => by omega) id) (fun b' hb' => (hX' b' hb').1) ((((hR.app hR2).mono hSm (fun _ h => h))).rowAt (by rw [List.length_append]; exact hown') (fun b' hb' => ⟨(hX b' hb').1.1, (hX b' hb').2⟩))
    exact ⟨v', w', g', hr, hA⟩

theorem tzero_info {e : TypeId} {z : List A} {zz : Value} {n by_ : Nat} (h : tinfo P e = some (some zz, n, by_)) (hz : tzero P e = some z) : ∃ i, P.info? e = some i ∧ i.zero = some zz ∧ i.size = n ∧ i.bytes = by_ ∧ zz.cells.size = z.length := by
  obtain ⟨i, hi, h1, h2, h3⟩ := tinfo_run h
  obtain ⟨i', zv, hi', hzv, hC⟩ := tzero_cs hz
  rw [hi] at hi'
  cases hi'
  rw [h1] at hzv
  cases hzv
  exact ⟨i, hi, h1, h2, h3, (hC default { F := fun _ => False, ob := id, rw := fun _ => undef } (fun _ => True) (fun _ => True)).1⟩

theorem did_append {o : Oper} {xs ys : Operand} {x vx vy : A} {ts : Array TypeId} {n : Nat} (hS : Sim E g n st a w) (ho : o.op = .call { callee := .builtin .append, args := #[xs, ys], argTypes := ts }) (hvx : VR w g st.O st.R vx (a.eval xs)) (hvy : VR w g st.O st.R vy (a.eval ys))
    (h : (maAppend P o.dst ts.toList vx vy).run st = some (x, st')) : ∃ u g' w', Did P o a w u w' ∧ Aft E g st w x st' u g' w' := by
  have hM := hS.mem
  unfold maAppend at h
  split at h
  rotate_left
  · exact (fail_inv h).elim
  rename_i t t' d hts hd
  split at h
  rotate_left
  · exact (fail_inv h).elim
  rename_i htt
  subst htt
  have hts' : ts = #[t, t] := by rw [← Array.toArray_toList (xs := ts), hts]
  subst hts'
  split at h
  rotate_left
  · exact (fail_inv h).elim
  rename_i e hu
  split at h
  rotate_left
  · exact (fail_inv h).elim
  rename_i zz m by_ z hi hz
  split at h
  rotate_left
  · exact (fail_inv h).elim
  rename_i hk
  obtain ⟨hk1, hk2, hk3⟩ := hk
  obtain ⟨i, hi1, hi2, hi3, hi4, hi5⟩ := tzero_info hi hz
  obtain ⟨rows2, sz, ad, c, h, hyv, hY⟩ := rows_run hM hvy h
  split at h
  rotate_left
  · exact (fail_inv h).elim
  rename_i hsz
  have hsz' : rows2 ≠ [] → sz = m := fun hne => hsz.resolve_right hne
  have fin : ∀ {v' : Value} {w' : World}, (Builtin.append_ #[t, t] o.type #[a.eval xs, a.eval ys]).run P w = .ok v' w' → Did P o a w v' w' := by
    intro v' w' hr
    refine .inl ?_
    simp only [execOp, ho, resolve, invoke, builtin, Sem.run_bind, Sem.run_pure, Result.andThen_ok, List.map_toArray, List.map_cons, List.map_nil, hr]
  split at h
  · split at h
    rotate_left
    · exact (fail_inv h).elim
    rename_i hlim
    generalize hvv : a.eval xs = vv at hvx
    cases hvx with
    | nil =>
      have hnil : a.eval xs = .slice none 0 0 := hvv
      obtain ⟨v', w', g', hr, hA⟩ := append_aft (P := P) (ty := o.type) hu hi1 hi2 hi3 hi4 (by omega) hk2 hk3 (v := .slice none 0 0) (rows := []) (ys := rows2) (inner := []) hM (World.ownsRow_nil _ _ _ _) ⟨by simp, by simp, by simp⟩ (by simp [Value.ownBlock]) sz ad c hyv hY hsz' (by simpa using hlim) h
      rw [← hnil] at hr
      exact ⟨v', g', w', fin hr, hA⟩
  · rename_i r _
    simp only [MA.run] at h
    cases hx : st.rw r with
    | none => simp [hx, MA.run] at h
    | some xx =>
      cases xx with
      | gone => simp [hx, MA.run] at h
      | frz sz' rows => simp [hx, MA.run] at h
      | live e' sz' rows =>
        simp only [hx] at h
        split at h
        rotate_left
        · exact (fail_inv h).elim
        rename_i hc
        obtain ⟨rfl, rfl, hlim⟩ := hc
        simp only [MA.run] at h
        have hL : st.L r := ⟨_, _, _, hx⟩
        obtain ⟨inner, hown, hR, hf⟩ := (hM.row r _ hx).rcs
        obtain ⟨hM1, hE1⟩ := hM.gone_row r _ hx
        obtain ⟨v', w', g', hr, hA⟩ := append_aft (P := P) (ty := o.type) hu hi1 hi2 hi3 hi4 (by omega) hk2 hk3 (v := g.rw r) (rows := rows) (ys := rows2) (inner := inner) hM1 hown hR (fun b hb => ⟨⟨(hM.row_nf hL hb).1, fun s hs he => hM.rowob r s hL hs (he ▸ hb), fun r' hr' he => by
          rcases L_upd.1 hr' with ⟨rfl, _, _, _, hx⟩ | ⟨h3, h4⟩
          · cases hx
          · exact h3 (hM.rowne r' r b h4 hL he hb)⟩, (hM.row_nf hL hb).2⟩) sz ad c hyv hY hsz' hlim h
        have hxs : a.eval xs = g.rw r := by
          generalize hvv : a.eval xs = vv at hvx
          cases hvx
          rfl
        rw [← hxs] at hr
        exact ⟨v', g', w', fin hr, hA.mem, hA.vr, hE1.trans hA.ext, hA.tm⟩
  · exact (fail_inv h).elim

theorem did_len {o : Oper} {xs : Operand} {x vx : A} {t : TypeId} {n : Nat} (hS : Sim E g n st a w) (ho : o.op = .call { callee := .builtin .len, args := #[xs], argTypes := #[t] }) (hvx : VR w g st.O st.R vx (a.eval xs))
    (h : (maLen P t vx).run st = some (x, st')) : ∃ u g' w', Did P o a w u w' ∧ Aft E g st w x st' u g' w' := by
  have hM := hS.mem
  unfold maLen at h
  split at h
  · rename_i s hu
    cases hx : a.eval xs with
    | string s' =>
      rw [hx] at hvx
      cases hvx with
      | t x v h1 => cases h1; exact pureDid hM (by simp [execOp, ho, resolve, invoke, builtin, Builtin.len_, run_underlying hu, hx, goInt]) (.t _ _ (.int _ _)) h
    | _ => rw [hx] at hvx; cases hvx with | t x v h1 => cases h1
  · rename_i e s sz rows hu
    generalize hvv : a.eval xs = vv at hvx
    cases hvx with
    | ext _ _ _ _ h1 =>
      cases h1 with
      | sl0 => exact pureDid hM (by simp [execOp, ho, resolve, invoke, builtin, Builtin.len_, run_underlying hu, hvv, goInt]) (.t _ _ (.int _ _)) h
      | sl => exact pureDid hM (by simp [execOp, ho, resolve, invoke, builtin, Builtin.len_, run_underlying hu, hvv, goInt]) (.t _ _ (.int _ _)) h
  · rename_i hu _
    obtain ⟨rows, sz, ad, c, h, hv, hR⟩ := rows_run hM hvx h
    exact pureDid hM (by simp [execOp, ho, resolve, invoke, builtin, Builtin.len_, run_underlying hu, hv, goInt]) (.t _ _ (.int _ _)) h
  · exact (fail_inv h).elim
end
end Go.Tm
