/- All operations that call no Go function. -/
import Derived.Test.YtpjnojikkfoekaaTm9
import Derived.Laws.StructEq
import Derived.Laws.Small
set_option linter.unusedVariables false
set_option linter.unusedSimpArgs false
namespace Go.Tm
open Go.RowKit

section
variable {P : Program} {E : En} {g : Gh} {st st' : St} {a : Act} {w : World}

theorem VR.int {k : IntKind} {n : Int} {v : Value} {O R : Nat → Prop} (h : VR w g O R (.t (.int k n)) v) : v = .int k n := by cases h with | t x v h => cases h; rfl
theorem VR.bool {b : Bool} {v : Value} {O R : Nat → Prop} (h : VR w g O R (.t (.bool b)) v) : v = .bool b := by cases h with | t x v h => cases h; rfl
theorem VR.str {s : ByteArray} {v : Value} {O R : Nat → Prop} (h : VR w g O R (.t (.str s)) v) : v = .string s := by cases h with | t x v h => cases h; rfl
theorem VR.tnum {x : T} {v : Value} {O R : Nat → Prop} (h : VR w g O R (.t x) v) : Rd w g.F x v := by cases h with | t x v h => exact h

theorem bin_run {op : BinOp} {t : TypeId} {x y z : T} {vx vy : Value} {ox oy : Operand} (h : bin (isB P t) op x y = some z) (hx : Rd w g.F x vx) (hy : Rd w g.F y vy) :
    ∃ v, ((do eqGuard op t ox oy vx vy; binOp op t vx vy) : Sem Value).run P w = .ok v w ∧ Rd w g.F z v := by
  cases hx with
  | int k n =>
    cases hy with
    | int k' m =>
      have hg : (eqGuard op t ox oy (.int k n) (.int k' m)).run P w = .ok () w := by cases op <;> simp [eqGuard]
      simp only [Sem.run_bind, hg, Result.andThen_ok]
      cases op with
      | shl =>
        simp only [bin] at h
        split at h
        · rename_i h0; cases h
          exact ⟨_, by simp [binOp, Op.shift, show ¬ m < 0 by omega], .int _ _⟩
        · cases h
      | shr =>
        simp only [bin] at h
        split at h
        · rename_i h0; cases h
          exact ⟨_, by simp [binOp, Op.shift, show ¬ m < 0 by omega], .int _ _⟩
        · cases h
      | quo =>
        simp only [bin] at h
        split at h
        rotate_left
        · cases h
        rename_i hk; subst hk
        split at h
        · cases h
        rename_i h0; cases h
        exact ⟨_, by simp [binOp, Op.intDiv, h0], .int _ _⟩
      | rem =>
        simp only [bin] at h
        split at h
        rotate_left
        · cases h
        rename_i hk; subst hk
        split at h
        · cases h
        rename_i h0; cases h
        exact ⟨_, by simp [binOp, Op.intDiv, h0], .int _ _⟩
      | add => simp only [bin] at h; split at h; (rename_i hk; subst hk; cases h; exact ⟨_, by simp [binOp, Op.intArith], .int _ _⟩); cases h
      | sub => simp only [bin] at h; split at h; (rename_i hk; subst hk; cases h; exact ⟨_, by simp [binOp, Op.intArith], .int _ _⟩); cases h
      | mul => simp only [bin] at h; split at h; (rename_i hk; subst hk; cases h; exact ⟨_, by simp [binOp, Op.intArith], .int _ _⟩); cases h
      | and => simp only [bin] at h; split at h; (rename_i hk; subst hk; cases h; exact ⟨_, by simp [binOp, Op.intBits], .int _ _⟩); cases h
      | or => simp only [bin] at h; split at h; (rename_i hk; subst hk; cases h; exact ⟨_, by simp [binOp, Op.intBits], .int _ _⟩); cases h
      | xor => simp only [bin] at h; split at h; (rename_i hk; subst hk; cases h; exact ⟨_, by simp [binOp, Op.intBits], .int _ _⟩); cases h
      | andNot => simp only [bin] at h; split at h; (rename_i hk; subst hk; cases h; exact ⟨_, by simp [binOp, Op.intBits], .int _ _⟩); cases h
      | eql => simp only [bin] at h; split at h; (rename_i hk; subst hk; cases h; exact ⟨_, by simp [binOp, Op.intCmp], .bool _⟩); cases h
      | neq => simp only [bin] at h; split at h; (rename_i hk; subst hk; cases h; exact ⟨_, by simp [binOp, Op.intCmp], .bool _⟩); cases h
      | lss => simp only [bin] at h; split at h; (rename_i hk; subst hk; cases h; exact ⟨_, by simp [binOp, Op.intCmp], .bool _⟩); cases h
      | leq => simp only [bin] at h; split at h; (rename_i hk; subst hk; cases h; exact ⟨_, by simp [binOp, Op.intCmp], .bool _⟩); cases h
      | gtr => simp only [bin] at h; split at h; (rename_i hk; subst hk; cases h; exact ⟨_, by simp [binOp, Op.intCmp], .bool _⟩); cases h
      | geq => simp only [bin] at h; split at h; (rename_i hk; subst hk; cases h; exact ⟨_, by simp [binOp, Op.intCmp], .bool _⟩); cases h
    | _ => simp [bin] at h
  | str s =>
    cases hy with
    | str s' =>
      have hg : (eqGuard op t ox oy (.string s) (.string s')).run P w = .ok () w := by cases op <;> simp [eqGuard]
      simp only [Sem.run_bind, hg, Result.andThen_ok]
      cases op with
      | add =>
        simp only [bin] at h
        split at h
        · rename_i h0; cases h
          refine ⟨_, ?_, .str _⟩
          have : ¬ ((s.size + s'.size : Nat) : Int) > IntKind.i64.max := by
            have : IntKind.i64.max = 9223372036854775807 := by decide
            omega
          simp only [binOp, Op.stringOp, this, if_false]
          rfl
        · cases h
      | eql => simp only [bin, Option.some.injEq] at h; subst h; exact ⟨_, by simp [binOp, Op.stringOp], .bool _⟩
      | neq => simp only [bin, Option.some.injEq] at h; subst h; exact ⟨_, by simp [binOp, Op.stringOp], .bool _⟩
      | _ => simp [bin] at h
    | _ => simp [bin] at h
  | bool b =>
    cases hy with
    | bool b' =>
      have hg : (eqGuard op t ox oy (.bool b) (.bool b')).run P w = .ok () w := by cases op <;> simp [eqGuard]
      simp only [Sem.run_bind, hg, Result.andThen_ok]
      simp only [bin] at h
      split at h
      rotate_left
      · cases h
      rename_i htb
      have hu : P.underlying t = some .bool := by
        unfold isB at htb
        split at htb
        · rename_i h; exact h
        · cases htb
      cases op with
      | eql => simp only [Option.some.injEq] at h; subst h; exact ⟨_, run_eql_bool w t b b' hu, .bool _⟩
      | neq => simp only [Option.some.injEq] at h; subst h; exact ⟨_, run_neq_bool w t b b' hu, .bool _⟩
      | _ => simp at h
    | _ => simp [bin] at h
  | _ => simp [bin] at h

theorem ints_run {xs : List A} {ns : List Int} {vs : List Value} (h : ints xs = some ns) (hl : xs.length = vs.length) (hv : ∀ (i : Nat) (x : A) (v : Value), xs[i]? = some x → vs[i]? = some v → VR w g st.O st.R x v) : vs = ns.map (.int .i64) := by
  induction xs generalizing ns vs with
  | nil => simp [ints] at h; subst h; exact List.eq_nil_of_length_eq_zero hl.symm
  | cons x xs ih =>
    obtain ⟨v, vs, rfl⟩ : ∃ v vs', vs = v :: vs' := by
      cases vs with
      | nil => simp at hl
      | cons v vs => exact ⟨v, vs, rfl⟩
    unfold ints at h
    split at h
    · rename_i heq; cases heq
    · rename_i n r heq
      injection heq with h1 h2
      subst h1 h2
      split at h
      · rename_i l hl'
        cases h
        have := (hv 0 _ v rfl rfl).int
        subst this
        rw [ih (vs := vs) hl' (by simpa using hl) (fun i x v h1 h2 => hv (i + 1) x v (by simpa using h1) (by simpa using h2))]
        rfl
      · cases h
    · cases h

theorem eqFs_run (d : Nat) (xs ys : List Int) : ∀ (fs : List Field) (k : Nat), eqFs P k fs = true → xs.length = k + fs.length → ys.length = k + fs.length →
    (Op.eqFields (d + 1) (xs.map (Value.int .i64)).toArray (ys.map (Value.int .i64)).toArray fs).run P w = .ok (xs.drop k == ys.drop k) w
  | [], k, _, hx, hy => by
    rw [List.drop_of_length_le (by simp at hx; omega), List.drop_of_length_le (by simp at hy; omega)]
    simp [Op.eqFields]
  | f :: fs, k, h, hx, hy => by
    simp only [eqFs, Bool.and_eq_true, bne_iff_ne, beq_iff_eq] at h
    obtain ⟨⟨⟨h1, h2⟩, h3⟩, h4⟩ := h
    have hu : P.underlying f.type = some (.int .i64) := by
      split at h3
      · assumption
      · cases h3
    simp only [List.length_cons] at hx hy
    have hkx : k < xs.length := by omega
    have hky : k < ys.length := by omega
    have px : (Go.part f.type (xs.map (Value.int .i64)).toArray f.offset).run P w = .ok (.int .i64 xs[k]) w := by simp [Go.part, isAgg, run_underlying hu, h2, hkx]
    have py : (Go.part f.type (ys.map (Value.int .i64)).toArray f.offset).run P w = .ok (.int .i64 ys[k]) w := by simp [Go.part, isAgg, run_underlying hu, h2, hky]
    have he := run_equalIn_int (P := P) w d f.type .i64 .i64 xs[k] ys[k] hu
    have ih := eqFs_run d xs ys fs (k + 1) h4 (by omega) (by omega)
    have ex : (xs.drop k == ys.drop k) = ((xs[k] == ys[k]) && (xs.drop (k + 1) == ys.drop (k + 1))) := by
      rw [List.drop_eq_getElem_cons hkx, List.drop_eq_getElem_cons hky]; rfl
    rw [ex]
    simp only [Op.eqFields, if_pos h1, Sem.run_bind, px, py, he, Result.andThen_ok]
    generalize (xs[k] == ys[k]) = q
    cases q
    · simp
    · simpa using ih

theorem eqTy_run {t : TypeId} {n : Nat} {xs ys : List Int} (h : eqTy P t = some n) (hx : xs.length = n) (hy : ys.length = n) (op : BinOp) (ox oy : Operand) :
    (eqGuard op t ox oy (.agg (xs.map (Value.int .i64)).toArray) (.agg (ys.map (Value.int .i64)).toArray)).run P w = .ok () w ∧
    (Op.equalIn 10000 t (.agg (xs.map (Value.int .i64)).toArray) (.agg (ys.map (Value.int .i64)).toArray)).run P w = .ok (xs == ys) w := by
  unfold eqTy at h
  split at h
  rotate_left
  · cases h
  rename_i fs hu
  split at h
  rotate_left
  · cases h
  rename_i hc
  simp only [Option.some.injEq] at h
  simp only [Bool.and_eq_true, Bool.not_eq_true'] at hc
  obtain ⟨⟨h1, h2⟩, h3⟩ := hc
  have hf : P.fieldsOf t = fs := by simp [Program.fieldsOf, hu]
  refine ⟨run_eqGuard_agg w op t ox oy _ _ h2, ?_⟩
  have := run_equalIn_struct (P := P) w 9999 t (xs.map (Value.int .i64)).toArray (ys.map (Value.int .i64)).toArray (by rw [hf]; exact hu) h1
  rw [this, hf]
  have h5 := eqFs_run (P := P) (w := w) 9998 xs ys fs.toList 0 h3 (by simp; omega) (by simp; omega)
  simpa using h5

theorem agg_ints {xs : List A} {ns : List Int} {v : Value} (h : ints xs = some ns) (hv : VR w g st.O st.R (.agg xs) v) : v = .agg (ns.map (Value.int .i64)).toArray := by
  cases hv with
  | agg l vs hl hx => rw [ints_run h hl hx]

theorem bytesT_run : ∀ {rows : List (List T)} {l : List Int}, bytesT rows = some l → l.length = rows.length ∧ ∀ (i : Nat) (row : List T), rows[i]? = some row → row = [.int .u8 (l.getD i 0)]
  | [], l, h => by simp [bytesT] at h; subst h; simp
  | r :: rows, l, h => by
    unfold bytesT at h
    split at h
    · rename_i heq; cases heq
    · rename_i n rs heq
      injection heq with h1 h2
      subst h1 h2
      split at h
      · rename_i l' hl'
        cases h
        obtain ⟨h3, h4⟩ := bytesT_run hl'
        refine ⟨by simp [h3], fun i row hr => ?_⟩
        cases i with
        | zero => simp at hr; simpa using hr.symm
        | succ i => simpa using h4 i row (by simpa using hr)
      · cases h
    · cases h
end
end Go.Tm
