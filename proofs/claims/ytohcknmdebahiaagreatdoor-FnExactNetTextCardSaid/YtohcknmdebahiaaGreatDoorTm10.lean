/- All operations that call no Go function. -/
import Derived.Test.YtohcknmdebahiaaGreatDoorTm9
import Derived.Laws.StructEq
import Derived.Laws.Small
import Derived.Laws.CopyRow
import Derived.Laws.IdiomCopy
set_option linter.unusedVariables false
set_option linter.unusedSimpArgs false
namespace Go.Tm
open Go.RowKit

section
variable {P : Program} {E : En} {g : Gh} {st st' : St} {a : Act} {w : World}

theorem VR.int {k : IntKind} {n : Int} {v : Value} {O R : Nat → Prop} (h : VR w g O R (.t (.int k n)) v) : v = .int k n := by cases h with | t x v h => cases h; rfl
theorem VR.bool {b : Bool} {v : Value} {O R : Nat → Prop} (h : VR w g O R (.t (.bool b)) v) : v = .bool b := by cases h with | t x v h => cases h; rfl
theorem VR.str {s : ByteArray} {v : Value} {O R : Nat → Prop} (h : VR w g O R (.t (.str s)) v) : v = .string s := by cases h with | t x v h => cases h; rfl
theorem VR.tnum {x : T} {v : Value} {O R : Nat → Prop} (h : VR w g O R (.t x) v) : Rd w g.F x v := by cases h with | t x v h => exact h

theorem bin_run {op : BinOp} {t : TypeId} {x y z : T} {vx vy : Value} {ox oy : Operand} (h : bin (isB P t) op x y = some z) (hx : Rd w g.F x vx) (hy : Rd w g.F y vy) :
    ∃ v, ((do eqGuard op t ox oy vx vy; binOp op t vx vy) : Sem Value).run P w = .ok v w ∧ Rd w g.F z v := by
  cases hx with
  | int k n =>
    cases hy with
    | int k' m =>
      have hg : (eqGuard op t ox oy (.int k n) (.int k' m)).run P w = .ok () w := by cases op <;> simp [eqGuard]
      simp only [Sem.run_bind, hg, Result.andThen_ok]
      cases op with
      | shl =>
        simp only [bin] at h
        split at h
        · rename_i h0; cases h
          exact ⟨_, by simp [binOp, Op.shift, show ¬ m < 0 by omega], .int _ _⟩
        · cases h
      | shr =>
        simp only [bin] at h
        split at h
        · rename_i h0; cases h
          exact ⟨_, by simp [binOp, Op.shift, show ¬ m < 0 by omega], .int _ _⟩
        · cases h
      | quo =>
        simp only [bin] at h
        split at h
        rotate_left
        · cases h
        rename_i hk; subst hk
        split at h
        · cases h
        rename_i h0; cases h
        exact ⟨_, by simp [binOp, Op.intDiv, h0], .int _ _⟩
      | rem =>
        simp only [bin] at h
        split at h
        rotate_left
        · cases h
        rename_i hk; subst hk
        split at h
        · cases h
        rename_i h0; cases h
        exact ⟨_, by simp [binOp, Op.intDiv, h0], .int _ _⟩
      | add => simp only [bin] at h; split at h; (rename_i hk; subst hk; cases h; exact ⟨_, by simp [binOp, Op.intArith], .int _ _⟩); cases h
      | sub => simp only [bin] at h; split at h; (rename_i hk; subst hk; cases h; exact ⟨_, by simp [binOp, Op.intArith], .int _ _⟩); cases h
      | mul => simp only [bin] at h; split at h; (rename_i hk; subst hk; cases h; exact ⟨_, by simp [binOp, Op.intArith], .int _ _⟩); cases h
      | and => simp only [bin] at h; split at h; (rename_i hk; subst hk; cases h; exact ⟨_, by simp [binOp, Op.intBits], .int _ _⟩); cases h
      | or => simp only [bin] at h; split at h; (rename_i hk; subst hk; cases h; exact ⟨_, by simp [binOp, Op.intBits], .int _ _⟩); cases h
      | xor => simp only [bin] at h; split at h; (rename_i hk; subst hk; cases h; exact ⟨_, by simp [binOp, Op.intBits], .int _ _⟩); cases h
      | andNot => simp only [bin] at h; split at h; (rename_i hk; subst hk; cases h; exact ⟨_, by simp [binOp, Op.intBits], .int _ _⟩); cases h
      | eql => simp only [bin] at h; split at h; (rename_i hk; subst hk; cases h; exact ⟨_, by simp [binOp, Op.intCmp], .bool _⟩); cases h
      | neq => simp only [bin] at h; split at h; (rename_i hk; subst hk; cases h; exact ⟨_, by simp [binOp, Op.intCmp], .bool _⟩); cases h
      | lss => simp only [bin] at h; split at h; (rename_i hk; subst hk; cases h; exact ⟨_, by simp [binOp, Op.intCmp], .bool _⟩); cases h
      | leq => simp only [bin] at h; split at h; (rename_i hk; subst hk; cases h; exact ⟨_, by simp [binOp, Op.intCmp], .bool _⟩); cases h
      | gtr => simp only [bin] at h; split at h; (rename_i hk; subst hk; cases h; exact ⟨_, by simp [binOp, Op.intCmp], .bool _⟩); cases h
      | geq => simp only [bin] at h; split at h; (rename_i hk; subst hk; cases h; exact ⟨_, by simp [binOp, Op.intCmp], .bool _⟩); cases h
    | _ => simp [bin] at h
  | str s =>
    cases hy with
    | str s' =>
      have hg : (eqGuard op t ox oy (.string s) (.string s')).run P w = .ok () w := by cases op <;> simp [eqGuard]
      simp only [Sem.run_bind, hg, Result.andThen_ok]
      cases op with
      | add =>
        simp only [bin] at h
        split at h
        · rename_i h0; cases h
          refine ⟨_, ?_, .str _⟩
          have : ¬ ((s.size + s'.size : Nat) : Int) > IntKind.i64.max := by
            have : IntKind.i64.max = 9223372036854775807 := by decide
            omega
          simp only [binOp, Op.stringOp, this, if_false]
          rfl
        · cases h
      | eql => simp only [bin, Option.some.injEq] at h; subst h; exact ⟨_, by simp [binOp, Op.stringOp], .bool _⟩
      | neq => simp only [bin, Option.some.injEq] at h; subst h; exact ⟨_, by simp [binOp, Op.stringOp], .bool _⟩
      | _ => simp [bin] at h
    | _ => simp [bin] at h
  | bool b =>
    cases hy with
    | bool b' =>
      have hg : (eqGuard op t ox oy (.bool b) (.bool b')).run P w = .ok () w := by cases op <;> simp [eqGuard]
      simp only [Sem.run_bind, hg, Result.andThen_ok]
      simp only [bin] at h
      split at h
      rotate_left
      · cases h
      rename_i htb
      have hu : P.underlying t = some .bool := by
        unfold isB at htb
        split at htb
        · rename_i h; exact h
        · cases htb
      cases op with
      | eql => simp only [Option.some.injEq] at h; subst h; exact ⟨_, run_eql_bool w t b b' hu, .bool _⟩
      | neq => simp only [Option.some.injEq] at h; subst h; exact ⟨_, run_neq_bool w t b b' hu, .bool _⟩
      | _ => simp at h
    | _ => simp [bin] at h
  | _ => simp [bin] at h

theorem ints_run {xs : List A} {ns : List Int} {vs : List Value} (h : ints xs = some ns) (hl : xs.length = vs.length) (hv : ∀ (i : Nat) (x : A) (v : Value), xs[i]? = some x → vs[i]? = some v → VR w g st.O st.R x v) : vs = ns.map (.int .i64) := by
  induction xs generalizing ns vs with
  | nil => simp [ints] at h; subst h; exact List.eq_nil_of_length_eq_zero hl.symm
  | cons x xs ih =>
    obtain ⟨v, vs, rfl⟩ : ∃ v vs', vs = v :: vs' := by
      cases vs with
      | nil => simp at hl
      | cons v vs => exact ⟨v, vs, rfl⟩
    unfold ints at h
    split at h
    · rename_i heq; cases heq
    · rename_i n r heq
      injection heq with h1 h2
      subst h1 h2
      split at h
      · rename_i l hl'
        cases h
        have := (hv 0 _ v rfl rfl).int
        subst this
        rw [ih (vs := vs) hl' (by simpa using hl) (fun i x v h1 h2 => hv (i + 1) x v (by simpa using h1) (by simpa using h2))]
        rfl
      · cases h
    · cases h

theorem eqFs_run (d : Nat) (xs ys : List Int) : ∀ (fs : List Field) (k : Nat), eqFs P k fs = true → xs.length = k + fs.length → ys.length = k + fs.length →
    (Op.eqFields (d + 1) (xs.map (Value.int .i64)).toArray (ys.map (Value.int .i64)).toArray fs).run P w = .ok (xs.drop k == ys.drop k) w
  | [], k, _, hx, hy => by
    rw [List.drop_of_length_le (by simp at hx; omega), List.drop_of_length_le (by simp at hy; omega)]
    simp [Op.eqFields]
  | f :: fs, k, h, hx, hy => by
    simp only [eqFs, Bool.and_eq_true, bne_iff_ne, beq_iff_eq] at h
    obtain ⟨⟨⟨h1, h2⟩, h3⟩, h4⟩ := h
    have hu : P.underlying f.type = some (.int .i64) := by
      split at h3
      · assumption
      · cases h3
    simp only [List.length_cons] at hx hy
    have hkx : k < xs.length := by omega
    have hky : k < ys.length := by omega
    have px : (Go.part f.type (xs.map (Value.int .i64)).toArray f.offset).run P w = .ok (.int .i64 xs[k]) w := by simp [Go.part, isAgg, run_underlying hu, h2, hkx]
    have py : (Go.part f.type (ys.map (Value.int .i64)).toArray f.offset).run P w = .ok (.int .i64 ys[k]) w := by simp [Go.part, isAgg, run_underlying hu, h2, hky]
    have he := run_equalIn_int (P := P) w d f.type .i64 .i64 xs[k] ys[k] hu
    have ih := eqFs_run d xs ys fs (k + 1) h4 (by omega) (by omega)
    have ex : (xs.drop k == ys.drop k) = ((xs[k] == ys[k]) && (xs.drop (k + 1) == ys.drop (k + 1))) := by
      rw [List.drop_eq_getElem_cons hkx, List.drop_eq_getElem_cons hky]; rfl
    rw [ex]
    simp only [Op.eqFields, if_pos h1, Sem.run_bind, px, py, he, Result.andThen_ok]
    generalize (xs[k] == ys[k]) = q
    cases q
    · simp
    · simpa using ih

theorem eqTy_run {t : TypeId} {n : Nat} {xs ys : List Int} (h : eqTy P t = some n) (hx : xs.length = n) (hy : ys.length = n) (op : BinOp) (ox oy : Operand) :
    (eqGuard op t ox oy (.agg (xs.map (Value.int .i64)).toArray) (.agg (ys.map (Value.int .i64)).toArray)).run P w = .ok () w ∧
    (Op.equalIn 10000 t (.agg (xs.map (Value.int .i64)).toArray) (.agg (ys.map (Value.int .i64)).toArray)).run P w = .ok (xs == ys) w := by
  unfold eqTy at h
  split at h
  rotate_left
  · cases h
  rename_i fs hu
  split at h
  rotate_left
  · cases h
  rename_i hc
  simp only [Option.some.injEq] at h
  simp only [Bool.and_eq_true, Bool.not_eq_true'] at hc
  obtain ⟨⟨h1, h2⟩, h3⟩ := hc
  have hf : P.fieldsOf t = fs := by simp [Program.fieldsOf, hu]
  refine ⟨run_eqGuard_agg w op t ox oy _ _ h2, ?_⟩
  have := run_equalIn_struct (P := P) w 9999 t (xs.map (Value.int .i64)).toArray (ys.map (Value.int .i64)).toArray (by rw [hf]; exact hu) h1
  rw [this, hf]
  have h5 := eqFs_run (P := P) (w := w) 9998 xs ys fs.toList 0 h3 (by simp; omega) (by simp; omega)
  simpa using h5

theorem agg_ints {xs : List A} {ns : List Int} {v : Value} (h : ints xs = some ns) (hv : VR w g st.O st.R (.agg xs) v) : v = .agg (ns.map (Value.int .i64)).toArray := by
  cases hv with
  | agg l vs hl hx => rw [ints_run h hl hx]

theorem bytesT_run : ∀ {rows : List (List T)} {l : List Int}, bytesT rows = some l → l.length = rows.length ∧ ∀ (i : Nat) (row : List T), rows[i]? = some row → row = [.int .u8 (l.getD i 0)]
  | [], l, h => by simp [bytesT] at h; subst h; simp
  | r :: rows, l, h => by
    unfold bytesT at h
    split at h
    · rename_i heq; cases heq
    · rename_i n rs heq
      injection heq with h1 h2
      subst h1 h2
      split at h
      · rename_i l' hl'
        cases h
        obtain ⟨h3, h4⟩ := bytesT_run hl'
        refine ⟨by simp [h3], fun i row hr => ?_⟩
        cases i with
        | zero => simp at hr; simpa using hr.symm
        | succ i => simpa using h4 i row (by simpa using hr)
      · cases h
    · cases h
/-! ### writing over a part of a row of one's own -/
theorem RCs.take1 {F : Nat → Prop} {rows : List (List T)} {cs : List Value} (h : RCs w F 1 rows cs) (k : Nat) : RCs w F 1 (rows.take k) (cs.take k) := by
  have hs := h.size
  refine ⟨by simp; omega, fun i row hi => h.len i row (by rw [List.getElem?_take] at hi; split at hi <;> simp_all), fun i row j x hi hj => ?_⟩
  rw [List.getElem?_take] at hi
  split at hi
  · rename_i hlt
    have hlen := h.len i row hi
    have hj0 : j < row.length := (List.getElem?_eq_some_iff.1 hj).1
    obtain ⟨u, hu, ho, hr⟩ := h.rd i row j x hi hj
    exact ⟨u, by rw [List.getElem?_take, if_pos (by omega)]; exact hu, ho, hr⟩
  · cases hi
theorem RCs.drop1 {F : Nat → Prop} {rows : List (List T)} {cs : List Value} (h : RCs w F 1 rows cs) (k : Nat) : RCs w F 1 (rows.drop k) (cs.drop k) := by
  have hs := h.size
  refine ⟨by simp; omega, fun i row hi => h.len (k + i) row (by rw [List.getElem?_drop] at hi; exact hi), fun i row j x hi hj => ?_⟩
  rw [List.getElem?_drop] at hi
  obtain ⟨u, hu, ho, hr⟩ := h.rd (k + i) row j x hi hj
  exact ⟨u, by rw [List.getElem?_drop, show k + (i * 1 + j) = (k + i) * 1 + j by omega]; exact hu, ho, hr⟩
theorem row_over {r lo : Nat} {e : TypeId} {rows ys : List (List T)} {cs : List Value} (hM : Mem E g st w) (hx : st.rw r = some (.live e 1 rows)) (hl : cs.length = ys.length) (hfit : lo + ys.length ≤ rows.length) (hpos : 0 < ys.length) (hY : RCs w g.F 1 ys cs) :
    ∃ b c cur, g.rw r = .slice (some ⟨b, 0, none⟩) rows.length c ∧ w.heap[b]? = some (.cells cur e (0, 0)) ∧ lo + cs.length ≤ cur.size ∧
      (Mem E g { st with rw := upd st.rw r (some (.live e 1 (rows.take lo ++ ys ++ rows.drop (lo + ys.length)))) } (w.setRow b (cur.toList.take lo ++ cs ++ cur.toList.drop (lo + cs.length)).toArray) ∧
      Ext w (w.setRow b (cur.toList.take lo ++ cs ++ cur.toList.drop (lo + cs.length)).toArray) g g st.O st.R ({ st with rw := upd st.rw r (some (.live e 1 (rows.take lo ++ ys ++ rows.drop (lo + ys.length)))) } : St).O ({ st with rw := upd st.rw r (some (.live e 1 (rows.take lo ++ ys ++ rows.drop (lo + ys.length)))) } : St).R) := by
  have hL : st.L r := ⟨_, _, _, hx⟩
  obtain ⟨inner, hown, hR, hfree⟩ := (hM.row r _ hx).rcs
  rcases hown.2 with ⟨hv, hn0⟩ | ⟨b, cap, cur, hv, _, hh, hnc, hcm, hcs, htake⟩
  · omega
  · have hil : inner.length = rows.length := by have := hown.1; omega
    have hcur : rows.length ≤ cur.size := by omega
    refine ⟨b, cap, cur, hv, hh, by omega, ?_⟩
    have hn' : (rows.take lo ++ ys ++ rows.drop (lo + ys.length)).length = rows.length := by simp; omega
    have hrow : RowAt E.w0 (w.setRow b (cur.toList.take lo ++ cs ++ cur.toList.drop (lo + cs.length)).toArray) E.X g.F (g.rw r) (.live e 1 (rows.take lo ++ ys ++ rows.drop (lo + ys.length))) := by
      have hS1 : Same g.F w (w.setRow b (cur.toList.take lo ++ cs ++ cur.toList.drop (lo + cs.length)).toArray) := fun k hk => setRow_other w b k _ (fun e => (hfree b (by rw [hv]; rfl)).1 (e ▸ hk))
      refine ((((hR.take1 lo).app hY).app (hR.drop1 (lo + ys.length))).mono hS1 (fun _ h => h)).rowAt ?_ hfree
      refine ⟨by simp; omega, .inr ⟨b, cap, _, by rw [hn']; exact hv, Nat.zero_le _, setRow_heap w _ cur _ e _ hh, by rw [hn']; exact hnc, hcm, by simp; omega, ?_⟩⟩
      rw [hn', ← htake]
      have e1 : (cur.toList.take (rows.length * 1)).take lo = cur.toList.take lo := by rw [List.take_take]; congr 1; omega
      have e2 : (cur.toList.take (rows.length * 1)).drop (lo + ys.length) = (cur.toList.drop (lo + cs.length)).take (rows.length * 1 - (lo + cs.length)) := by rw [List.drop_take, hl]
      rw [e1, e2]
      simp only [List.append_assoc]
      rw [List.take_append, List.take_append]
      have h1 : (cur.toList.take lo).length = lo := by simp; omega
      rw [h1, List.take_of_length_le (show (cur.toList.take lo).length ≤ _ by rw [h1]; omega), List.take_of_length_le (show cs.length ≤ _ by omega)]
      congr 3
      omega
    refine hM.set_row (w' := w.setRow b (cur.toList.take lo ++ cs ++ cur.toList.drop (lo + cs.length)).toArray) ⟨rfl, rfl, rfl, by simp [World.setRow]⟩ r _ e 1 _ hx hL (fun k hk hne => setRow_other w b k _ (fun he => hne (by rw [hv]; simp [Value.ownBlock, he]))) hrow
theorem rw_same {r : Nat} {x : Row} (h : st.rw r = some x) : ({ st with rw := upd st.rw r (some x) } : St) = st := by
  have : upd st.rw r (some x) = st.rw := by
    funext i
    unfold upd
    split
    · rename_i h0; rw [h0, h]
    · rfl
  rw [this]
theorem did_copy {o : Oper} {xs ys : Operand} {x vx vy : A} {ts : Array TypeId} {n : Nat} (hS : Sim E g n st a w) (ho : o.op = .call { callee := .builtin .copy, args := #[xs, ys], argTypes := ts }) (hvx : VR w g st.O st.R vx (a.eval xs)) (hvy : VR w g st.O st.R vy (a.eval ys))
    (h : (maCopy P ts.toList vx vy).run st = some (x, st')) : ∃ u g' w', Did P o a w u w' ∧ Aft E g st w x st' u g' w' := by
  have hM := hS.mem
  unfold maCopy at h
  split at h
  rotate_left
  · exact (fail_inv h).elim
  rename_i t t' r nn lo hts
  have hts' : ts = #[t, t'] := by rw [← Array.toArray_toList (xs := ts), hts]
  subst hts'
  split at h
  rotate_left
  · exact (fail_inv h).elim
  rename_i e hu
  split at h
  rotate_left
  · exact (fail_inv h).elim
  rename_i hk
  obtain ⟨hk1, rfl⟩ := hk
  obtain ⟨i, hi1, hi2⟩ := tsize_run hk1
  have hsz1 : (P.info? e).map (·.size) = some 1 := by rw [hi1]; simp [hi2]
  obtain ⟨rows2, sz, ad, c, h, hyv, hY⟩ := rows_run hM hvy h
  split at h
  rotate_left
  · exact (fail_inv h).elim
  rename_i hsz
  simp only [MA.run] at h
  cases hx : st.rw r with
  | none => simp [hx, MA.run] at h
  | some xx =>
    cases xx with
    | gone => simp [hx, MA.run] at h
    | frz sz' rows => simp [hx, MA.run] at h
    | live e' sz' rows =>
      simp only [hx] at h
      split at h
      rotate_left
      · exact (fail_inv h).elim
      rename_i hc
      obtain ⟨rfl, hlo⟩ := hc
      simp only [MA.run, Option.some.injEq, Prod.mk.injEq] at h
      obtain ⟨rfl, rfl⟩ := h
      have fin : ∀ {v' : Value} {w' : World}, (Builtin.copy_ #[t, t'] o.type #[a.eval xs, a.eval ys]).run P w = .ok v' w' → Did P o a w v' w' := by
        intro v' w' hr
        refine .inl ?_
        simp only [execOp, ho, resolve, invoke, builtin, Sem.run_bind, Sem.run_pure, Result.andThen_ok, List.map_toArray, List.map_cons, List.map_nil, hr]
      generalize hvv : a.eval xs = vv at hvx
      cases hvx with
      | sub _ _ _ n0 c0 c' ad0 a' hr he hp =>
        have hn0 : n0 = rows.length := by
          obtain ⟨inner, hown, _⟩ := hM.row r _ hx
          rcases hown.2 with ⟨hv0, h0⟩ | ⟨b, cap, cur, hv0, _⟩
          · rw [hv0] at he; injection he with _ h1; omega
          · rw [hv0] at he; injection he with _ h1; exact h1.symm
        subst hn0
        have hvx' : a.eval xs = .slice a' (rows.length - lo) c' := hvv
        by_cases h0 : min rows2.length (rows.length - lo) = 0
        · have hov : overR rows rows2 lo = rows := by
            unfold overR
            rw [h0, Nat.add_zero]
            have : rows2.take (rows.length - lo) = [] := by
              rcases Nat.eq_zero_or_pos rows2.length with h1 | h1
              · rw [List.eq_nil_of_length_eq_zero h1]; simp
              · rw [show rows.length - lo = 0 by omega]; simp
            rw [this, List.append_nil, List.take_append_drop]
          rw [hov, rw_same hx, h0]
          have hrun := run_copy_none (P := P) w t t' o.type e a' ad (rows.length - lo) c' rows2.length c hu hsz1 (by exact h0)
          rw [← hvx', ← hyv] at hrun
          exact ⟨_, g, w, fin hrun, hM, .t _ _ (.int _ _), Ext.refl _ _ _ _, rfl⟩
        · have hne : rows2 ≠ [] := fun h1 => h0 (by rw [h1]; simp)
          have hs1 := hsz.resolve_right hne
          subst hs1
          obtain ⟨bs, off, rfl, news, hnl, hnc, hn1, hnr⟩ := hY.flat hne
          have hR2 : RCs w g.F 1 rows2 news := ⟨hnl, hY.len, fun i row j x h1 h2 => let ⟨u, hu, hr⟩ := hnr i row j x h1 h2; ⟨u, hu, hr.one.1, hr⟩⟩
          have hk : (rows2.take (rows.length - lo)).length = min rows2.length (rows.length - lo) := by rw [List.length_take, Nat.min_comm]
          have hnl' : (news.take (rows.length - lo)).length = min rows2.length (rows.length - lo) := by rw [List.length_take, hnl, Nat.mul_one, Nat.min_comm]
          obtain ⟨b, c1, cur, hgr, hh, hfit, hM2, hE2⟩ := row_over (lo := lo) (ys := rows2.take (rows.length - lo)) (cs := news.take (rows.length - lo)) hM hx (by rw [hk, hnl']) (by rw [hk]; omega) (by rw [hk]; omega) (hR2.take1 _)
          obtain ⟨b', hb1, hb2⟩ := hp (by omega)
          have hbb : b' = b := by
            rw [he] at hgr
            injection hgr with h1 _ _
            rw [hb1] at h1
            injection h1 with h1
            injection h1 with h1
          subst hbb
          have hrun := run_copy_row (P := P) w t t' o.type e b' lo (rows.length - lo) c' ⟨bs, off, none⟩ rows2.length c cur e' (news.take (rows.length - lo)) hu hsz1 hh (by rw [hnl'])
            (fun j v hj => hnc j v (by rw [List.getElem?_take] at hj; split at hj; exact hj; cases hj)) hfit (fun v hv => hn1 v (List.mem_of_mem_take hv))
          have hb3 : a' = some ⟨b', lo, none⟩ := by rw [hb2]; simp
          rw [← hb3, ← hvx', ← hyv] at hrun
          rw [hk] at hM2 hE2
          exact ⟨_, g, _, fin hrun, hM2, by rw [hnl']; exact .t _ _ (.int _ _), hE2, rfl⟩
theorem zeroCells_one (v : Value) (n : Nat) : (Builtin.zeroCells #[v] n).toList = List.replicate n v := by
  apply List.ext_getElem?
  intro i
  simp only [Builtin.zeroCells, Array.toList_map, List.getElem?_map, Array.toList_range, List.getElem?_replicate]
  simp only [List.size_toArray, List.length_cons, List.length_nil, Nat.mul_one, Nat.zero_add, Nat.mod_one]
  by_cases h : i < n
  · rw [List.getElem?_range h, if_pos h]; rfl
  · rw [List.getElem?_eq_none (by simpa using h), if_neg h]; rfl
theorem did_clear {o : Oper} {xs : Operand} {x vx : A} {ts : Array TypeId} {n : Nat} (hS : Sim E g n st a w) (ho : o.op = .call { callee := .builtin .clear, args := #[xs], argTypes := ts }) (hvx : VR w g st.O st.R vx (a.eval xs))
    (h : (maClear P ts.toList vx).run st = some (x, st')) : ∃ u g' w', Did P o a w u w' ∧ Aft E g st w x st' u g' w' := by
  have hM := hS.mem
  unfold maClear at h
  split at h
  rotate_left
  · exact (fail_inv h).elim
  rename_i t r nn lo hts
  have hts' : ts = #[t] := by rw [← Array.toArray_toList (xs := ts), hts]
  subst hts'
  split at h
  rotate_left
  · exact (fail_inv h).elim
  rename_i e hu
  split at h
  rotate_left
  · exact (fail_inv h).elim
  rename_i z hz
  split at h
  rotate_left
  · exact (fail_inv h).elim
  rename_i hk
  obtain ⟨hk1, rfl⟩ := hk
  obtain ⟨i, zv, hi1, hzv, hC⟩ := tzero_cs hz
  have hCs := hC w g st.O st.R
  have hzs : zv.cells.size = 1 := hCs.1
  obtain ⟨u0, hu0⟩ : ∃ u0, zv.cells = #[u0] := by
    match hq : zv.cells, hzs with
    | ⟨[u0]⟩, _ => exact ⟨u0, rfl⟩
  have hrd : Rd w g.F z u0 := by
    obtain ⟨_, u, hu1, hu2⟩ := hCs.2 0 (.t z) rfl
    rw [hu0] at hu1
    have : u0 = u := by simpa using hu1
    subst this
    cases hu2 with
    | t _ _ h => exact h
  simp only [MA.run] at h
  cases hx : st.rw r with
  | none => simp [hx, MA.run] at h
  | some xx =>
    cases xx with
    | gone => simp [hx, MA.run] at h
    | frz sz' rows => simp [hx, MA.run] at h
    | live e' sz' rows =>
      simp only [hx] at h
      split at h
      rotate_left
      · exact (fail_inv h).elim
      rename_i hc
      obtain ⟨rfl, hlo⟩ := hc
      simp only [MA.run, Option.some.injEq, Prod.mk.injEq] at h
      obtain ⟨rfl, rfl⟩ := h
      have fin : ∀ {v' : Value} {w' : World}, (Builtin.clear_ #[t] o.type #[a.eval xs]).run P w = .ok v' w' → Did P o a w v' w' := by
        intro v' w' hr
        refine .inl ?_
        simp only [execOp, ho, resolve, invoke, builtin, Sem.run_bind, Sem.run_pure, Result.andThen_ok, List.map_toArray, List.map_cons, List.map_nil, hr]
      generalize hvv : a.eval xs = vv at hvx
      cases hvx with
      | sub _ _ _ n0 c0 c' ad0 a' hr he hp =>
        have hn0 : n0 = rows.length := by
          obtain ⟨inner, hown, _⟩ := hM.row r _ hx
          rcases hown.2 with ⟨hv0, h0⟩ | ⟨b, cap, cur, hv0, _⟩
          · rw [hv0] at he; injection he with _ h1; omega
          · rw [hv0] at he; injection he with _ h1; exact h1.symm
        subst hn0
        have hvx' : a.eval xs = .slice a' (rows.length - lo) c' := hvv
        have htup : VR w g st.O st.R (.tup []) (.tuple #[]) := .tup [] [] rfl (by simp)
        by_cases h0 : rows.length - lo = 0
        · have hov : rows.take lo ++ List.replicate (rows.length - lo) [z] = rows := by
            rw [h0, List.replicate_zero, List.append_nil, List.take_of_length_le (by omega)]
          rw [hov, rw_same hx]
          have hrun : (Builtin.clear_ #[t] o.type #[.slice a' 0 c']).run P w = .ok (.tuple #[]) w := by
            cases a' <;> simp [Builtin.clear_, run_underlying hu]
          rw [h0] at hvx'
          rw [← hvx'] at hrun
          exact ⟨_, g, w, fin hrun, hM, htup, Ext.refl _ _ _ _, rfl⟩
        · have hRz : RCs w g.F 1 (List.replicate (rows.length - lo) [z]) (List.replicate (rows.length - lo) u0) := by
            refine ⟨by simp, fun i row hi => ?_, fun i row j x hi hj => ?_⟩
            · rw [List.getElem?_replicate] at hi; split at hi <;> simp_all
              subst hi; rfl
            · rw [List.getElem?_replicate] at hi
              split at hi
              · rename_i hlt
                cases hi
                cases j with
                | zero =>
                  simp only [List.getElem?_cons_zero, Option.some.injEq] at hj
                  subst hj
                  exact ⟨u0, by rw [List.getElem?_replicate, if_pos (by omega)], hrd.one.1, hrd⟩
                | succ j => simp at hj
              · cases hi
          obtain ⟨b, c1, cur, hgr, hh, hfit, hM2, hE2⟩ := row_over (lo := lo) hM hx (by simp) (by simp; omega) (by simp; omega) hRz
          obtain ⟨b', hb1, hb2⟩ := hp (by omega)
          have hbb : b' = b := by
            rw [he] at hgr
            injection hgr with h1 _ _
            rw [hb1] at h1
            injection h1 with h1
            injection h1 with h1
          subst hbb
          have hb3 : a' = some ⟨b', lo, none⟩ := by rw [hb2]; simp
          have hst := run_storeCells_at P b' lo e' (List.replicate (rows.length - lo) u0) 0 cur w hh (by simpa using hfit) (fun v hv => by rw [(List.mem_replicate.1 hv).2]; exact hrd.one.1)
          obtain ⟨m, hm⟩ : ∃ m, rows.length - lo = m + 1 := ⟨rows.length - lo - 1, by omega⟩
          have hrun : (Builtin.clear_ #[t] o.type #[.slice (some ⟨b', lo, none⟩) (rows.length - lo) c']).run P w = .ok (.tuple #[]) (w.setRow b' (cur.toList.take lo ++ List.replicate (rows.length - lo) u0 ++ cur.toList.drop (lo + (List.replicate (rows.length - lo) u0).length)).toArray) := by
            rw [hm] at hst ⊢
            simp only [Nat.add_zero] at hst
            simp [Builtin.clear_, run_underlying hu, zeroValue, typeInfo, hi1, hzv, hu0, zeroCells_one, hst]
          rw [← hb3, ← hvx'] at hrun
          have hdrop : rows.drop (lo + (List.replicate (rows.length - lo) [z]).length) = [] := List.drop_of_length_le (by simp; omega)
          rw [hdrop, List.append_nil] at hM2 hE2
          exact ⟨_, g, _, fin hrun, hM2, htup.mono hE2, hE2, rfl⟩
end
end Go.Tm
