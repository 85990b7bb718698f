/- Slices of slices and strings, addresses, numbers; all operations together. -/
import Derived.Test.YtohcknmdebahiaaGreatDoorTm8
import Derived.Laws.Entries
set_option linter.unusedVariables false
set_option linter.unusedSimpArgs false
namespace Go.Tm
open Go.RowKit

section
variable {P : Program} {E : En} {g : Gh} {st st' : St} {a : Act} {w : World}

/-- An optional bound. -/
theorem optN_run {d : Nat} {lo : Option Operand} {l : Option A} {k : Int} (hl : evO st.eval lo = some l) (hk : optN d l = some k) (hev : ∀ x y, st.eval x = some y → VR w g st.O st.R y (a.eval x)) :
    (lo = none ∧ k = d) ∨ ∃ x kk, lo = some x ∧ a.eval x = .int kk k := by
  cases lo with
  | none => simp [evO] at hl; subst hl; simp [optN] at hk; exact .inl ⟨rfl, hk.symm⟩
  | some x =>
    simp only [evO, Option.map_eq_some_iff] at hl
    obtain ⟨y, hy, rfl⟩ := hl
    have hv := hev x y hy
    unfold optN at hk
    split at hk
    · rename_i h0; cases h0
    · rename_i kk i h0
      cases h0
      cases hk
      generalize hvv : a.eval x = vv at hv
      cases hv with
      | t x v h1 => cases h1; exact .inr ⟨x, kk, rfl, hvv⟩
    · cases hk

theorem run_bounds {isS : Bool} {len cap : Nat} {lo hi : Option Operand} {l h : Int} (hl : (lo = none ∧ l = 0) ∨ ∃ x kk, lo = some x ∧ a.eval x = .int kk l) (hh : (hi = none ∧ h = len) ∨ ∃ x kk, hi = some x ∧ a.eval x = .int kk h) (h0 : 0 ≤ l) (h1 : l ≤ h) (h2 : h ≤ len) (hlc : len ≤ cap) :
    (Instr.sliceBounds isS len cap (lo.map a.eval) (hi.map a.eval) none).run P w = .ok (l.toNat, h.toNat, cap) w := by
  have hb : ∀ (x : Operand) (kk : IntKind) (i : Int) (y : Nat) (code : BoundsCode), a.eval x = .int kk i → 0 ≤ i → i ≤ y → (Instr.sliceBound (a.eval x) y code).run P w = .ok i.toNat w := by
    intro x kk i y code hx h0 h1
    rw [hx]
    simp [Instr.sliceBound, asIntOf, h0, h1]
  rcases hl with ⟨rfl, rfl⟩ | ⟨x, kk, rfl, hx⟩ <;> rcases hh with ⟨rfl, rfl⟩ | ⟨y, ky, rfl, hy⟩
  · simp [Instr.sliceBounds]
  · simp [Instr.sliceBounds, hb y ky h cap _ hy (by omega) (by omega)]
  · simp [Instr.sliceBounds, hb x kk l len _ hx h0 (by omega)]
  · simp [Instr.sliceBounds, hb x kk l h.toNat _ hx h0 (by omega), hb y ky h cap _ hy (by omega) (by omega)]

theorem Rd.cut {F : Nat → Prop} {sz : Nat} {rows : List (List T)} {ad : Option Addr} {c l h : Nat} (hr : Rd w F (.sl sz rows) (.slice ad rows.length c)) (h1 : l ≤ h) (h2 : h ≤ rows.length) (hc : rows.length ≤ c) :
    Rd w F (.sl sz ((rows.take h).drop l)) (.slice (if c = l then ad else ad.map (·.add (l * sz))) (h - l) (c - l)) := by
  have hlen : ((rows.take h).drop l).length = h - l := by simp; omega
  by_cases he : h - l = 0
  · have : (rows.take h).drop l = [] := List.eq_nil_of_length_eq_zero (by omega)
    rw [this, he]
    refine .sl0 _ _ _ fun hn => ?_
    have had : ad = none := by
      split at hn
      · exact hn
      · cases ad with
        | none => rfl
        | some a => cases hn
    cases hr with
    | sl0 _ _ _ ha => have := ha had; omega
    | sl => cases had
  · cases hr with
    | sl0 => simp at h2; omega
    | sl sz rows b off c u hc' hF hs hx hr =>
      rw [if_neg (by omega)]
      simp only [Option.map_some, add_lit]
      have hget : ∀ (i : Nat) (row : List T), ((rows.take h).drop l)[i]? = some row → rows[l + i]? = some row := fun i row hi => by
        rw [List.getElem?_drop, List.getElem?_take] at hi
        split at hi
        · exact hi
        · cases hi
      have := Rd.sl (w := w) (F := F) sz ((rows.take h).drop l) b (off + l * sz) (c - l) (fun i j => u (l + i) j) (by omega) hF (fun i row hi => hs _ row (hget i row hi))
        (fun i row j x hi hj => by
          rw [show off + l * sz + i * sz + j = off + (l + i) * sz + j by rw [Nat.add_mul]; omega]
          exact hx _ row j x (hget i row hi) hj) (fun i row j x hi hj => hr _ row j x (hget i row hi) hj)
      rw [hlen] at this
      exact this

theorem did_slice {o : Oper} {t : TypeId} {xs : Operand} {lo hi : Option Operand} {vx : A} {l h' : Option A} {x : A} {n : Nat} (hS : Sim E g n st a w) (ho : o.op = .slice t xs lo hi none) (hvx : VR w g st.O st.R vx (a.eval xs))
    (hl : evO st.eval lo = some l) (hh : evO st.eval hi = some h')
    (h : (maSlice P t vx l h').run st = some (x, st')) : ∃ u g' w', Did P o a w u w' ∧ Aft E g st w x st' u g' w' := by
  have hM := hS.mem
  have hev : ∀ x y, st.eval x = some y → VR w g st.O st.R y (a.eval x) := fun x y h => eval_VR hS h
  unfold maSlice at h
  split at h
  · rename_i s hu
    split at h
    rotate_left
    · exact (fail_inv h).elim
    rename_i lk hk hlk hhk
    split at h
    rotate_left
    · exact (fail_inv h).elim
    rename_i hc
    obtain ⟨hc1, hc2, hc3⟩ := hc
    generalize hvv : a.eval xs = vv at hvx
    cases hvx with
    | t x v h1 =>
      cases h1
      have hrun := run_bounds (P := P) (w := w) (isS := false) (len := s.size) (cap := s.size) (optN_run hl hlk hev) (optN_run hh hhk hev) hc1 hc2 hc3 (Nat.le_refl _)
      refine pureDid hM ?_ (.t _ _ (.str _)) h
      simp [execOp, ho, Instr.sliceAt, run_underlying hu, Instr.slice, hvv, hrun]
  · rename_i e hu
    split at h
    rotate_left
    · exact (fail_inv h).elim
    rename_i m hm
    obtain ⟨i, hi1, hi2⟩ := tsize_run hm
    obtain ⟨tt, st1, g1, hM1, hE1, ht1, h, hr, _⟩ := toT_run hM hvx h
    split at h
    rotate_left
    · exact (fail_inv h).elim
    rename_i sz rows
    split at h
    rotate_left
    · exact (fail_inv h).elim
    rename_i lk hk hlk hhk
    split at h
    rotate_left
    · exact (fail_inv h).elim
    rename_i hsz
    split at h
    rotate_left
    · exact (fail_inv h).elim
    rename_i hc
    obtain ⟨hc1, hc2, hc3⟩ := hc
    obtain ⟨ad, c, hv, hR⟩ := hr.rds
    have hcap : rows.length ≤ c ∨ rows = [] := by
      rw [hv] at hr
      generalize hq : rows.length = q at hr
      cases hr with
      | sl0 => exact .inr rfl
      | sl => rename_i hc0 _ _ _ _ ; exact .inl (by omega)
    have hrun : ∀ (_ : rows.length ≤ c), (Instr.sliceBounds true rows.length c (lo.map a.eval) (hi.map a.eval) none).run P w = .ok (lk.toNat, hk.toNat, c) w := fun hcc =>
      run_bounds (P := P) (w := w) (isS := true) (optN_run hl hlk hev) (optN_run hh hhk hev) hc1 hc2 hc3 hcc
    have hfin : ∀ (_ : rows.length ≤ c) (hszm : sz = m ∨ rows = []), ∃ u g' w', Did P o a w u w' ∧ Aft E g st w x st' u g' w' := by
      intro hcc hszm
      obtain ⟨rfl, rfl⟩ := ret_inv h
      have hx : (execOp a.eval o).run P w = .ok (.value (.slice (if c = lk.toNat then ad else ad.map (·.add (lk.toNat * m))) (hk.toNat - lk.toNat) (c - lk.toNat))) w := by
        simp [execOp, ho, Instr.sliceAt, run_underlying hu, Instr.slice, hv, hrun hcc, sizeOf, typeInfo, hi1, hi2]
      refine ⟨_, g1, w, .inl hx, hM1, ?_, hE1, ht1.tm⟩
      rw [hv] at hr
      rcases hszm with rfl | rfl
      · exact .t _ _ (hr.cut (by omega) (by omega) hcc)
      · have h0 : hk.toNat - lk.toNat = 0 := by simp at hc3; omega
        rw [h0]
        simp only [List.take_nil, List.drop_nil]
        refine .t _ _ (.sl0 _ _ _ fun hn => ?_)
        have had : ad = none := by
          split at hn
          · exact hn
          · cases ad with
            | none => rfl
            | some a => cases hn
        generalize hq : ([] : List (List T)).length = q at hr
        cases hr with
        | sl0 _ _ _ ha => have := ha had; omega
        | sl => cases had
    by_cases hcc : rows.length ≤ c
    · exact hfin hcc hsz
    · rcases hcap with h9 | h9
      · exact absurd h9 hcc
      · subst h9; simp at hcc
  · exact (fail_inv h).elim

/-- What lies behind a place of a row of one's own. -/
theorem did_sub {o : Oper} {t : TypeId} {xs : Operand} {lo : Option Operand} {vx : A} {l : Option A} {x : A} {n : Nat} (hS : Sim E g n st a w) (ho : o.op = .slice t xs lo none none) (hvx : VR w g st.O st.R vx (a.eval xs))
    (hl : evO st.eval lo = some l) (h : (maSub P t vx l).run st = some (x, st')) : ∃ u g' w', Did P o a w u w' ∧ Aft E g st w x st' u g' w' := by
  have hM := hS.mem
  have hev : ∀ x y, st.eval x = some y → VR w g st.O st.R y (a.eval x) := fun x y h => eval_VR hS h
  unfold maSub at h
  split at h
  rotate_left
  · exact (fail_inv h).elim
  rename_i e r lk hu hlk
  split at h
  rotate_left
  · exact (fail_inv h).elim
  rename_i m hm
  obtain ⟨i, hi1, hi2⟩ := tsize_run hm
  simp only [MA.run] at h
  cases hx : st.rw r with
  | none => simp [hx, MA.run] at h
  | some xx =>
    cases xx with
    | gone => simp [hx, MA.run] at h
    | frz sz' rows => simp [hx, MA.run] at h
    | live e' sz' rows =>
      simp only [hx] at h
      split at h
      rotate_left
      · exact (fail_inv h).elim
      rename_i hc
      obtain ⟨rfl, hc1, hc2⟩ := hc
      obtain ⟨hxe, hse⟩ := ret_inv h
      subst hxe
      have hse := hse.symm
      subst hse
      have hR : st.R r := by simp [St.R, hx]
      have hv : a.eval xs = g.rw r := by
        generalize hvv : a.eval xs = vv at hvx
        cases hvx
        rfl
      obtain ⟨inner, hown, _⟩ := hM.row r _ hx
      have hfin : ∀ (ad : Option Addr) (c : Nat), g.rw r = .slice ad rows.length c → rows.length ≤ c → (lk.toNat < rows.length → ∃ b, ad = some ⟨b, 0, none⟩) → ∃ u g' w', Did P o a w u w' ∧ Aft E g st w (.sub r sz' lk.toNat) st u g' w' := by
        intro ad c hg hcc had
        have hrun : (Instr.sliceBounds true rows.length c (lo.map a.eval) ((none : Option Operand).map a.eval) none).run P w = .ok (lk.toNat, (rows.length : Int).toNat, c) w :=
          run_bounds (P := P) (w := w) (isS := true) (hi := none) (optN_run hl hlk hev) (.inl ⟨rfl, rfl⟩) hc1 hc2 (by omega) hcc
        have hx : (execOp a.eval o).run P w = .ok (.value (.slice (if c = lk.toNat then ad else ad.map (·.add (lk.toNat * sz'))) (rows.length - lk.toNat) (c - lk.toNat))) w := by
          simp only [Option.map_none, Int.toNat_natCast] at hrun
          simp [execOp, ho, Instr.sliceAt, run_underlying hu, Instr.slice, hv, hg, hrun, sizeOf, typeInfo, hi1, hi2]
        refine ⟨_, g, w, .inl hx, hM, .sub r sz' lk.toNat rows.length c _ ad _ hR hg (fun hlt => ?_), Ext.refl _ _ _ _, rfl⟩
        obtain ⟨b, rfl⟩ := had hlt
        refine ⟨b, rfl, ?_⟩
        rw [if_neg (by omega)]
        simp only [Option.map_some, add_lit, Nat.zero_add]
      rcases hown.2 with ⟨hv0, hn0⟩ | ⟨b, cap, cur, hv0, _, hh, hnc, _⟩
      · have : rows.length = 0 := hn0
        exact hfin none 0 (by rw [hv0, this]) (by omega) (fun hlt => by omega)
      · exact hfin (some ⟨b, 0, none⟩) cap hv0 hnc (fun _ => ⟨b, rfl⟩)

/-- The first elements of a row of one's own, as one's own. -/
theorem did_trunc {o : Oper} {t : TypeId} {xs : Operand} {hi : Option Operand} {vx : A} {h' : Option A} {x : A} {n : Nat} (hS : Sim E g n st a w) (ho : o.op = .slice t xs none hi none) (hvx : VR w g st.O st.R vx (a.eval xs))
    (hh : evO st.eval hi = some h') (h : (maTrunc P o.dst t vx h').run st = some (x, st')) : ∃ u g' w', Did P o a w u w' ∧ Aft E g st w x st' u g' w' := by
  have hM := hS.mem
  have hev : ∀ x y, st.eval x = some y → VR w g st.O st.R y (a.eval x) := fun x y h => eval_VR hS h
  unfold maTrunc at h
  split at h
  rotate_left
  · exact (fail_inv h).elim
  rename_i e r kk hk d hu hd
  split at h
  rotate_left
  · exact (fail_inv h).elim
  rename_i m hm
  obtain ⟨i, hi1, hi2⟩ := tsize_run hm
  simp only [MA.run] at h
  cases hx : st.rw r with
  | none => simp [hx, MA.run] at h
  | some xx =>
    cases xx with
    | gone => simp [hx, MA.run] at h
    | frz sz' rows => simp [hx, MA.run] at h
    | live e' sz' rows =>
      simp only [hx] at h
      split at h
      rotate_left
      · exact (fail_inv h).elim
      rename_i hc
      obtain ⟨rfl, hc1, hc2⟩ := hc
      simp only [MA.run] at h
      have hL : st.L r := ⟨_, _, _, hx⟩
      have hv : a.eval xs = g.rw r := by
        generalize hvv : a.eval xs = vv at hvx
        cases hvx
        rfl
      obtain ⟨inner, hown, hR, hf⟩ := (hM.row r _ hx).rcs
      obtain ⟨hM1, hE1⟩ := hM.gone_row r _ hx
      have hkl : hk.toNat ≤ rows.length := by omega
      have hfree : ∀ b, (g.rw r).ownBlock = some b → ¬ g.F b ∧ (∀ s, st.O s → g.ob s ≠ b) ∧ (∀ r', ({ st with rw := upd st.rw r (some .gone) } : St).L r' → (g.rw r').ownBlock ≠ some b) := fun b hb =>
        ⟨(hM.row_nf hL hb).1, fun s hs he => hM.rowob r s hL hs (he ▸ hb), fun r' hr' he => by
          rcases L_upd.1 hr' with ⟨rfl, _, _, _, hx⟩ | ⟨h3, h4⟩
          · cases hx
          · exact h3 (hM.rowne r' r b h4 hL he hb)⟩
      have hRC : RCs w g.F sz' (rows.take hk.toNat) (inner.take (hk.toNat * sz')) := by
        refine ⟨?_, fun i row hi => hR.len i row (by rw [List.getElem?_take] at hi; split at hi <;> first | exact hi | cases hi), fun i row j x hi hj => ?_⟩
        · rw [List.length_take, List.length_take, hR.size, Nat.min_eq_left hkl, Nat.min_eq_left (Nat.mul_le_mul_right _ hkl)]
        · rw [List.getElem?_take] at hi
          split at hi
          rotate_left
          · cases hi
          rename_i hlt
          obtain ⟨u, hu, ho1, hr⟩ := hR.rd i row j x hi hj
          refine ⟨u, ?_, ho1, hr⟩
          have hjl : j < sz' := by rw [← hR.len i row hi]; exact (List.getElem?_eq_some_iff.1 hj).1
          have h3 : (i + 1) * sz' ≤ hk.toNat * sz' := Nat.mul_le_mul_right _ hlt
          rw [Nat.succ_mul] at h3
          rw [List.getElem?_take, if_pos (by omega)]
          exact hu
      have hfin : ∀ (ad : Option Addr) (c : Nat), g.rw r = .slice ad rows.length c → rows.length ≤ c → w.ownsRow 0 e' sz' (.slice ad hk.toNat c) (rows.take hk.toNat).length (inner.take (hk.toNat * sz')) → (Value.slice ad hk.toNat c).ownBlock = (g.rw r).ownBlock →
          ∃ u g' w', Did P o a w u w' ∧ Aft E g st w x st' u g' w' := by
        intro ad c hg hcc hown' hob
        have hrun : (Instr.sliceBounds true rows.length c ((none : Option Operand).map a.eval) (hi.map a.eval) none).run P w = .ok ((0 : Int).toNat, hk.toNat, c) w :=
          run_bounds (P := P) (w := w) (lo := none) (isS := true) (.inl ⟨rfl, rfl⟩) (optN_run hh rfl hev) (by omega) (by omega) (by omega) hcc
        have hx2 : (execOp a.eval o).run P w = .ok (.value (.slice ad hk.toNat c)) w := by
          have h0 : (0 : Int).toNat = 0 := rfl
          rw [h0] at hrun
          simp only [Option.map_none] at hrun
          simp [execOp, ho, Instr.sliceAt, run_underlying hu, Instr.slice, hv, hg, hrun, sizeOf, typeInfo, hi1, hi2]
          try (intro hc0; cases ad <;> simp [Addr.add_zero'])
        obtain ⟨g', hA⟩ := mkRow_aft' hM1 h (.slice ad hk.toNat c) (Calm.refl w) (fun b => (g.rw r).ownBlock = some b) (fun _ _ _ => rfl) (fun b hb => by rw [← hob]; exact hb) (fun b h1 hp => (hM.row_nf hL hp).2.elim (fun h2 => by omega) id) hfree
          (hRC.rowAt (E := E) (g := g) hown' (fun b hb => hM.row_nf hL (by rw [← hob]; exact hb)))
        exact ⟨_, g', w, .inl hx2, hA.mem, hA.vr, hE1.trans hA.ext, hA.tm⟩
      rcases hown.2 with ⟨hv0, hn0⟩ | ⟨b, cap, cur, hv0, hb0, hh0, hnc, hcm, hcs, htk⟩
      · have h0 : rows.length = 0 := hn0
        have h1 : hk.toNat = 0 := by omega
        refine hfin none 0 (by rw [hv0, h0]) (by omega) ⟨?_, .inl ⟨by rw [h1], by simp [h1]⟩⟩ (by rw [hv0]; rfl)
        simp [h1]
      · refine hfin (some ⟨b, 0, none⟩) cap hv0 hnc ⟨hRC.size, .inr ⟨b, cap, cur, by rw [List.length_take, Nat.min_eq_left hkl], hb0, hh0, ?_, hcm, hcs, ?_⟩⟩ (by rw [hv0]; rfl)
        · rw [List.length_take, Nat.min_eq_left hkl]; omega
        · rw [List.length_take, Nat.min_eq_left hkl, ← htk, List.take_take, Nat.min_eq_left (Nat.mul_le_mul_right _ hkl)]

theorem did_fieldAddr {o : Oper} {s f off : Nat} {t : TypeId} {y : Operand} {v x : A} {n : Nat} (hS : Sim E g n st a w) (ho : o.op = .fieldAddr s y f) (hv : VR w g st.O st.R v (a.eval y)) (hf : fieldOf P s f = some (off, t))
    (h : (addrTo v off).run st = some (x, st')) : ∃ u g' w', Did P o a w u w' ∧ Aft E g st w x st' u g' w' := by
  have hM := hS.mem
  obtain ⟨fs, fl, m, i, hu, hfl, h1, h2, h3, h4, h5, h6⟩ := fieldOf_run hf
  have run : ∀ (b k : Nat), a.eval y = .pointer (some ⟨b, k, none⟩) → (execOp a.eval o).run P w = .ok (.value (.pointer (some ⟨b, k + off, none⟩))) w := by
    intro b k he
    simp [execOp, ho, Instr.fieldAt, run_underlying hu, hfl, Instr.sureAddr, he, fieldPlace, sizeOf, typeInfo, h2, h5, h6, h4, h1, add_lit]
  generalize hvv : a.eval y = vv at hv run
  unfold addrTo at h
  cases hv with
  | obj s' k hs => exact pureDid hM (run _ _ rfl) (.obj s' (k + off) hs) h
  | elem r sz ix k b nn c hr he => 
    refine pureDid hM (run _ _ rfl) ?_ h
    rw [Nat.add_assoc]
    exact .elem r sz ix (k + off) b nn c hr he
  | fadr cells b k u hF hx hr =>
    refine pureDid hM (run _ _ rfl) (.fadr _ b (k + off) (fun j => u (off + j)) hF (fun j z hz => ?_) (fun j z hz => ?_)) h
    · rw [List.getElem?_drop] at hz
      rw [Nat.add_assoc]
      exact hx _ z hz
    · rw [List.getElem?_drop] at hz
      exact hr _ z hz
  | exa s cells b k u hs hD hx hr =>
    refine pureDid hM (run _ _ rfl) (.exa s _ b (k + off) (fun j => u (off + j)) hs hD (fun j z hz => ?_) (fun j z hz => ?_)) h
    · rw [List.getElem?_drop] at hz
      rw [Nat.add_assoc]
      exact hx _ z hz
    · rw [List.getElem?_drop] at hz
      exact hr _ z hz
  | _ => exact (fail_inv h).elim

theorem did_indexAddr {o : Oper} {t : TypeId} {y z : Operand} {v vi x : A} {n : Nat} (hS : Sim E g n st a w) (ho : o.op = .indexAddr t y z) (hv : VR w g st.O st.R v (a.eval y)) (hvi : VR w g st.O st.R vi (a.eval z))
    (h : (maIndexAddr P t v vi).run st = some (x, st')) : ∃ u g' w', Did P o a w u w' ∧ Aft E g st w x st' u g' w' := by
  have hM := hS.mem
  unfold maIndexAddr at h
  split at h
  rotate_left
  · exact (fail_inv h).elim
  rename_i e kk ix hu
  split at h
  rotate_left
  · exact (fail_inv h).elim
  rename_i m hm
  obtain ⟨i, hi1, hi2⟩ := tsize_run hm
  have hz : a.eval z = .int kk ix := by
    generalize hvv : a.eval z = vv at hvi
    cases hvi with
    | t x v h1 => cases h1; rfl
  have run : ∀ (b off len c : Nat), a.eval y = .slice (some ⟨b, off, none⟩) len c → 0 ≤ ix → ix.toNat < len → (execOp a.eval o).run P w = .ok (.value (.pointer (some ⟨b, off + ix.toNat * m, none⟩))) w := by
    intro b off len c he h0 h1
    have h2 : ix < (len : Int) := by omega
    simp [execOp, ho, Instr.indexAt, hz, asIntOf, run_underlying hu, he, h0, h2, sizeOf, typeInfo, hi1, hi2, add_lit]
  have frz : ∀ (sz : Nat) (rows : List (List T)) (vv : Value), a.eval y = vv → Rd w g.F (.sl sz rows) vv → (rowAddr m ix sz rows).run st = some (x, st') → ∃ u g' w', Did P o a w u w' ∧ Aft E g st w x st' u g' w' := by
    intro sz rows vv hvv hr hq
    unfold rowAddr at hq
    split at hq
    rotate_left
    · exact (fail_inv hq).elim
    rename_i hc
    obtain ⟨hsz, h0⟩ := hc
    subst hsz
    split at hq
    rotate_left
    · exact (fail_inv hq).elim
    rename_i row hrow
    have hlt : ix.toNat < rows.length := (List.getElem?_eq_some_iff.1 hrow).1
    cases hr with
    | sl0 => simp at hlt
    | sl sz rows b off c u hc hF hs hx hr =>
      exact pureDid hM (run b off rows.length c hvv h0 hlt) (.fadr row b (off + ix.toNat * sz) (fun j => u ix.toNat j) hF (fun j z hz => hx _ row j z hrow hz) (fun j z hz => hr _ row j z hrow hz)) hq
  generalize hvv : a.eval y = vv at hv run frz
  split at h
  · rename_i sz rows
    cases hv with
    | t x v h1 => exact frz sz rows _ rfl h1 h
  · rename_i s sz rows
    cases hv with
    | ext _ _ _ hs h1 =>
    unfold rowAddrX at h
    split at h
    rotate_left
    · exact (fail_inv h).elim
    rename_i hc
    obtain ⟨hsz, h0⟩ := hc
    subst hsz
    split at h
    rotate_left
    · exact (fail_inv h).elim
    rename_i row hrow
    have hlt : ix.toNat < rows.length := (List.getElem?_eq_some_iff.1 hrow).1
    cases h1 with
    | sl0 => simp at hlt
    | sl sz rows b off c u hc hF hs' hx hr =>
      exact pureDid hM (run b off rows.length c rfl h0 hlt) (.exa s row b (off + ix.toNat * sz) (fun j => u ix.toNat j) hs hF (fun j z hz => hx _ row j z hrow hz) (fun j z hz => hr _ row j z hrow hz)) h
  · rename_i r
    simp only [MA.run] at h
    cases hx : st.rw r with
    | none => simp [hx, MA.run] at h
    | some xx =>
      have hRr : st.R r := by simp [St.R, hx]
      have hgv : g.rw r = vv := by cases hv; rfl
      cases xx with
      | live e' sz rows =>
        simp only [hx] at h
        split at h
        rotate_left
        · exact (fail_inv h).elim
        rename_i hc
        obtain ⟨hsz, h0, hlt⟩ := hc
        subst hsz
        obtain ⟨inner, hown, _⟩ := hM.row r _ hx
        rw [hgv] at hown
        rcases hown.2 with ⟨h9, h8⟩ | ⟨b', cap, cur, h9, _⟩
        · omega
        · have hr9 := run b' 0 rows.length cap h9 h0 hlt
          rw [Nat.zero_add] at hr9
          exact pureDid hM hr9 (.elem r sz ix.toNat 0 b' rows.length cap hRr (hgv.trans h9)) h
      | frz sz rows =>
        simp only [hx] at h
        exact frz sz rows vv rfl (hgv ▸ hM.row r _ hx) h
      | gone => simp [hx, MA.run] at h
  · exact (fail_inv h).elim
end
end Go.Tm
