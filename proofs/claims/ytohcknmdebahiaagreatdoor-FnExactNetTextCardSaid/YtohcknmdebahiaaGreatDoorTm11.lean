/- All operations that call no Go function, together. -/
import Derived.Test.YtohcknmdebahiaaGreatDoorTm10
import Derived.Laws.Cover3
set_option linter.unusedVariables false
set_option linter.unusedSimpArgs false
namespace Go.Tm
open Go.RowKit

section
variable {P : Program} {E : En} {g : Gh} {st st' : St} {a : Act} {w : World}

theorem did_convert {o : Oper} {s t : TypeId} {y : Operand} {v x : A} {n : Nat} (hS : Sim E g n st a w) (ho : o.op = .convert s t y) (hv : VR w g st.O st.R v (a.eval y))
    (h : (match P.underlying s, P.underlying t, some v with
    | some _, some (.int k), some (.t (.int _ n)) => MA.ret (.t (.int k (k.wrap n)))
    | some _, some .string, some (.t (.str s)) => .ret (.t (.str s))
    | some (.slice e), some .string, some x => match P.underlying e with
      | some (.int .u8) => x.rows fun _ rows => match bytesT rows with | some l => .ret (.t (.str (strOfNums l))) | none => .fail
      | _ => .fail
    | _, _, _ => .fail : MA A).run st = some (x, st')) : ∃ u g' w', Did P o a w u w' ∧ Aft E g st w x st' u g' w' := by
  have hM := hS.mem
  split at h
  · rename_i d k kk nn h1 h2 h3
    cases h3
    have he := hv.int
    refine pureDid hM ?_ (.t _ _ (.int _ _)) h
    cases d <;> simp [execOp, ho, he, convert, run_underlying h1, run_underlying h2, Conv.intToInt]
  · rename_i d s' h1 h2 h3
    cases h3
    have he := hv.str
    refine pureDid hM ?_ (.t _ _ (.str _)) h
    cases d <;> simp [execOp, ho, he, convert, run_underlying h1, run_underlying h2]
  · rename_i e v' hneg h1 h2 h3
    injection h3 with h3
    subst h3
    split at h
    · rename_i he
      obtain ⟨rows, sz, ad, c, h, hvv, hR⟩ := rows_run hM hv h
      split at h
      · rename_i l hl
        obtain ⟨h4, h5⟩ := bytesT_run hl
        refine pureDid hM ?_ (.t _ _ (.str _)) h
        have hrun : (convert s t (a.eval y)).run P w = .ok (.string (strOfNums l)) w := by
          rw [hvv]
          by_cases hne : rows = []
          · subst hne
            have : l = [] := List.eq_nil_of_length_eq_zero h4
            subst this
            cases ad with
            | none => exact run_convert_bytes_nil w s e h1 he 0 c t h2
            | some ad =>
              simp [convert, run_underlying h1, run_underlying h2, run_underlying he, Conv.bytesToString, loadCells, loadCellsFrom]
              rfl
          · obtain ⟨b, off, rfl, hx⟩ := hR.at_.resolve_left hne
            refine run_convert_bytes_arg w s e h1 he b off rows.length c l h4 (fun i hi => ?_) t h2
            have hrow := h5 i _ (List.getElem?_eq_getElem hi)
            have hsz : sz = 1 := by have := hR.len i _ (List.getElem?_eq_getElem hi); rw [hrow] at this; exact this.symm
            subst hsz
            obtain ⟨u, hu, hr⟩ := hx i _ 0 (.int .u8 (l.getD i 0)) (List.getElem?_eq_getElem hi) (by rw [hrow]; rfl)
            cases hr
            rw [Nat.mul_one, Nat.add_zero] at hu
            exact hu
        simp [execOp, ho, hrun]
      · exact (fail_inv h).elim
    · exact (fail_inv h).elim
  · exact (fail_inv h).elim

/-- The cells of a value that are trees, each. -/
theorem toTs_one {α : Type} {st' : St} {y : α} : ∀ (l : List A) (st : St) (k : List T → MA α), (A.toTs l k).run st = some (y, st') → l.all A.one = true := by
  intro l
  induction l with
  | nil => intro _ _ _; rfl
  | cons q l ih =>
    intro st k h
    simp only [A.toTs] at h
    cases q with
    | t x => exact (by show (A.one _ && l.all A.one) = true; rw [ih _ _ h]; rfl)
    | nil => exact (by show (A.one _ && l.all A.one) = true; rw [ih _ _ h]; rfl)
    | own r =>
      simp only [A.toT, MA.run] at h
      split at h
      · show (A.one _ && l.all A.one) = true; rw [ih _ _ h]; rfl
      · show (A.one _ && l.all A.one) = true; rw [ih _ _ h]; rfl
      · exact (fail_inv h).elim
    | _ => exact (fail_inv h).elim

/-- A parameter that is only read. -/
theorem did_boxf {o : Oper} {e : TypeId} {y : Operand} {x v : A} {n : Nat} (hS : Sim E g n st a w) (ho : o.op = .box e y) (hv : VR w g st.O st.R v (a.eval y)) (h : (A.toTs v.cells fun ts => MA.ret (A.fadr ts)).run st = some (x, st')) :
    ∃ v g' w', Did P o a w v w' ∧ Aft E g st w x st' v g' w' := by
  obtain ⟨h1, h2, h3⟩ := hv.cells hS.mem (toTs_one _ _ _ h)
  obtain ⟨ts, st1, g1, hM1, hE1, ht1, h4, htl, hts⟩ := toTs_run hS.mem (vs := (a.eval y).cells.toList) (by rw [Array.length_toList]; exact h1) (fun j x hj => by
    obtain ⟨_, q, hq, hr⟩ := h3 j x hj
    exact ⟨q, by simpa using hq, hr⟩) h
  obtain ⟨rfl, rfl⟩ := ret_inv h4
  have hnf := new_free hM1 (Nat.le_refl w.heap.size)
  obtain ⟨hM2, hE2⟩ := hM1.step (w' := w.alloc (.cells (a.eval y).cells e)) (g' := { g1 with F := fun b => g1.F b ∨ b = w.heap.size }) (st' := st') (alloc_calm w _) (fun _ => False) (fun b h1 _ => heap_alloc_old w _ b h1) (fun _ h => h.elim) (fun _ _ h => h.elim) (fun _ h => .inl h)
    (fun b h1 h2 => by
      have := h1.resolve_left h2
      subst this
      exact ⟨by simp, fun hlt => by (have := hM1.sizes; omega), .inr ⟨_, _, heap_alloc_new w _⟩⟩) (fun _ h => ⟨h, rfl⟩) (fun _ h => ⟨h, rfl⟩)
    (fun s cells hs => .inl ⟨hs, id, fun hf => hf.elim (hM1.ob_nf (by simp [St.O, hs])).1 (fun he => hnf.2.1 s (by simp [St.O, hs]) he)⟩) hM1.obne
    (fun r x hr => .inl ⟨hr, fun hL b hb' => ⟨id, fun hf => hf.elim (hM1.row_nf hL hb').1 (fun he => hnf.2.2 r hL (he ▸ hb'))⟩⟩) hM1.rowne hM1.rowob
  refine ⟨.pointer (some ⟨w.heap.size, 0, none⟩), _, _, .inl ?_, hM2, ?_, hE1.trans hE2, ht1.tm⟩
  · simp [execOp, ho, Instr.box, newVar, newRow, newObj, Sem.run]
  · refine .fadr ts w.heap.size 0 (fun j => (a.eval y).cells.toList.getD j undef) (.inr rfl) (fun j t hj => ?_) (fun j t hj => ?_)
    · obtain ⟨u, hu, _, hr⟩ := hts j t hj
      rw [List.getD_eq_getElem?_getD, hu]
      have hh := heap_alloc_new w (.cells (a.eval y).cells e)
      simp only [World.cell?, hh, Nat.zero_add]
      simpa using hu
    · obtain ⟨u, hu, _, hr⟩ := hts j t hj
      rw [List.getD_eq_getElem?_getD, hu]
      exact hr.mono hE2.same hE2.F

theorem evs_VR {n : Nat} (hS : Sim E g n st a w) {xs : List Operand} {l : List A} (h : allSome (xs.map st.eval) = some l) : l.length = (xs.map a.eval).length ∧ ∀ (i : Nat) (x : A) (v : Value), l[i]? = some x → (xs.map a.eval)[i]? = some v → VR w g st.O st.R x v := by
  obtain ⟨h1, h2⟩ := allSome_get h
  refine ⟨by simp [h1], fun i x v hx hv => ?_⟩
  obtain ⟨y, hy, hf⟩ := h2 i x hx
  rw [List.getElem?_map, hy] at hv
  cases hv
  exact eval_VR hS hf

theorem maOf_sound {n : Nat} {o : Oper} {x : A} (hS : Sim E g n st a w) {ρ : Nat → Root} (h : (maOf P ρ st.eval o).run st = some (x, st')) : ∃ u g' w', Did P o a w u w' ∧ Aft E g st w x st' u g' w' := by
  have hM := hS.mem
  unfold maOf at h
  split at h
  · -- move
    rename_i y ho
    split at h
    · rename_i v hv
      exact pureDid hM (by simp [execOp, ho]) (eval_VR hS hv) h
    · exact (fail_inv h).elim
  · -- assign
    rename_i y ho
    split at h
    · rename_i v hv
      exact pureDid hM (by simp [execOp, ho]) (eval_VR hS hv) h
    · exact (fail_inv h).elim
  · -- pick
    rename_i c y z ho
    split at h
    · rename_i cb va vb hc ha hb
      have he := (eval_VR hS hc).bool
      cases cb with
      | true => exact pureDid hM (v := a.eval y) (by simp [execOp, ho, he, asBool]) (by simpa using eval_VR hS ha) h
      | false => exact pureDid hM (v := a.eval z) (by simp [execOp, ho, he, asBool]) (by simpa using eval_VR hS hb) h
    · exact (fail_inv h).elim
  · -- alloc
    rename_i e ho
    split at h
    · rename_i d z hd hz
      exact did_alloc hS ho hz h
    · exact (fail_inv h).elim
  · -- box
    rename_i e y ho
    split at h
    · rename_i d v hd hv
      split at h
      · exact did_boxf hS ho (eval_VR hS hv) h
      · exact did_box hS ho (eval_VR hS hv) h
    · exact (fail_inv h).elim
  · -- build
    rename_i t parts ho
    split at h
    · rename_i z pl ps hz hp hps
      split at h
      · rename_i cs hcs
        exact did_build hS ho hz hp hps hcs h
      · exact (fail_inv h).elim
    · exact (fail_inv h).elim
  · -- buildSlice
    rename_i t m parts ho
    split at h
    · rename_i e d ps hu hd hps
      split at h
      · rename_i sz z hsz hz
        split at h
        · rename_i hk
          exact did_buildSlice hS ho hu hsz hz hps hk h
        · exact (fail_inv h).elim
      · exact (fail_inv h).elim
    · exact (fail_inv h).elim
  · -- load
    rename_i t y ho
    split at h
    · rename_i v hv
      exact did_load hS ho (eval_VR hS hv) h
    · exact (fail_inv h).elim
  · -- store
    rename_i t y z ho
    split at h
    · rename_i v u hv hu
      exact did_store hS ho (eval_VR hS hv) (eval_VR hS hu) h
    · exact (fail_inv h).elim
  · -- nilCheck
    rename_i y ho
    have hvr : ∀ {v : A}, st.eval y = some v → VR w g st.O st.R v (a.eval y) := fun h => eval_VR hS h
    split at h
    · rename_i s k hv
      have := hvr hv
      generalize hvv : a.eval y = vv at this
      cases this with
      | obj s off hs => exact pureDid hM (by simp [execOp, ho, hvv]) (.obj s k hs) h
    · rename_i r sz ix k hv
      have := hvr hv
      generalize hvv : a.eval y = vv at this
      cases this with
      | elem r sz i off b n c hr he => exact pureDid hM (by simp [execOp, ho, hvv]) (.elem r sz ix k b _ _ hr he) h
    · rename_i cs hv
      have := hvr hv
      generalize hvv : a.eval y = vv at this
      cases this with
      | fadr cells b off u hF hx hr => exact pureDid hM (by simp [execOp, ho, hvv]) (.fadr cs b _ u hF hx hr) h
    · rename_i s cs hv
      have := hvr hv
      generalize hvv : a.eval y = vv at this
      cases this with
      | exa _ cells b off u hs hD hx hr => exact pureDid hM (by simp [execOp, ho, hvv]) (.exa s cs b _ u hs hD hx hr) h
    · rename_i f cs hv
      have := hvr hv
      generalize hvv : a.eval y = vv at this
      cases this with
      | clo f caps vs hl hx => exact pureDid hM (by simp [execOp, ho, hvv]) (.clo f cs vs hl hx) h
    · exact (fail_inv h).elim
  · -- binOp
    rename_i op t y z yt ho
    split at h
    · rename_i vx vy hx hy
      split at h
      · rename_i r hr
        obtain ⟨v, hrun, hrd⟩ := bin_run (P := P) (ox := y) (oy := z) hr (eval_VR hS hx).tnum (eval_VR hS hy).tnum
        refine pureDid hM ?_ (.t _ _ hrd) h
        simp only [Sem.run_bind] at hrun
        simp only [execOp, ho, Sem.run_bind, hrun, Result.andThen_ok, Sem.run_pure]
      · exact (fail_inv h).elim
    · rename_i vx vy hx hy
      split at h
      · rename_i m xs ys he hxs hys
        split at h
        · rename_i hk
          obtain ⟨hg, heq⟩ := eqTy_run (w := w) he hk.1 hk.2 .eql y z
          refine pureDid hM ?_ (.t _ _ (.bool _)) h
          simp only [execOp, ho, agg_ints hxs (eval_VR hS hx), agg_ints hys (eval_VR hS hy), Sem.run_bind, hg, run_eql_struct, heq, Result.andThen_ok, Sem.run_pure]
        · exact (fail_inv h).elim
      · rename_i m xs ys he hxs hys
        split at h
        · rename_i hk
          obtain ⟨hg, heq⟩ := eqTy_run (w := w) he hk.1 hk.2 .neq y z
          refine pureDid hM ?_ (.t _ _ (.bool _)) h
          simp only [execOp, ho, agg_ints hxs (eval_VR hS hx), agg_ints hys (eval_VR hS hy), Sem.run_bind, hg, run_neq_struct, heq, Result.andThen_ok, Sem.run_pure]
        · exact (fail_inv h).elim
      · exact (fail_inv h).elim
    · rename_i sz rows hx hy
      split at h
      · rename_i e hu
        have h1 := eval_VR hS hx
        have h2 := eval_VR hS hy
        generalize hvx : a.eval y = vx at h1
        generalize hvy : a.eval z = vy at h2
        cases h1 with
        | nn _ _ _ hr hv =>
          obtain ⟨ad, m, c, rfl⟩ := hv
          cases h2
          refine pureDid hM ?_ (.t _ _ (.bool _)) h
          simp [execOp, ho, hvx, hvy, eqGuard, binOp, run_equal_slice_nil w t e (some ad) m c hu]
      · exact (fail_inv h).elim
    · rename_i hx hy
      split at h
      · rename_i e hu
        have h1 := eval_VR hS hx
        have h2 := eval_VR hS hy
        generalize hvx : a.eval y = vx at h1
        generalize hvy : a.eval z = vy at h2
        cases h1
        cases h2
        refine pureDid hM ?_ (.t _ _ (.bool _)) h
        simp [execOp, ho, hvx, hvy, eqGuard, binOp, run_equal_slice_nil w t e none 0 0 hu]
      · exact (fail_inv h).elim
    · exact (fail_inv h).elim
  · -- unOp
    rename_i op t y ho
    split at h
    · rename_i b hv
      exact pureDid hM (by simp [execOp, ho, (eval_VR hS hv).bool, Op.unary]) (.t _ _ (.bool _)) h
    · rename_i k m hv
      exact pureDid hM (by simp [execOp, ho, (eval_VR hS hv).int, Op.unary, Op.intArith]) (.t _ _ (.int _ _)) h
    · exact (fail_inv h).elim
  · -- convert
    rename_i s t y ho
    cases hv : st.eval y with
    | none =>
      rw [hv] at h
      exfalso
      split at h
      · rename_i h3; cases h3
      · rename_i h3; cases h3
      · rename_i h3; cases h3
      · exact fail_inv h
    | some v =>
      rw [hv] at h
      exact did_convert hS ho (eval_VR hS hv) h
  · -- makeFunc
    rename_i f first caps ho
    split at h
    · rename_i l hf hl
      obtain ⟨h1, h2⟩ := evs_VR hS hl
      have hf' : first = #[] := by rw [← Array.toArray_toList (xs := first), hf]
      subst hf'
      refine pureDid hM (v := .func (.func f) #[] (caps.toList.map a.eval).toArray) ?_ (.clo f l _ h1 h2) h
      simp [execOp, ho, Instr.makeFunc, List.map_toArray]
      rw [← Array.toList_map]
    · exact (fail_inv h).elim
  · -- makeSlice
    rename_i t yl yc ho
    split at h
    · rename_i vl vc hl hc
      unfold maMake at h
      split at h
      · rename_i e l c d hu hd1
        split at h
        · rename_i zz m by_ z hi hz
          split at h
          · rename_i hk
            exact did_make hS ho (eval_VR hS hl).int (eval_VR hS hc).int hu hi hz hk h
          · exact (fail_inv h).elim
        · exact (fail_inv h).elim
      · exact (fail_inv h).elim
    · exact (fail_inv h).elim
  · -- slice
    rename_i t y lo hi ho
    split at h
    · rename_i v l k hv hl hk
      split at h
      · rename_i hcw
        split at h
        · rename_i hw
          simp only [Bool.and_eq_true, Option.isNone_iff_eq_none] at hw
          obtain ⟨_, hk0⟩ := hw
          subst hk0
          have : hi = none := by
            cases hi with
            | none => rfl
            | some z => simp only [evO, Option.map_eq_some_iff] at hk; obtain ⟨_, _, hk⟩ := hk; cases hk
          subst this
          exact did_sub hS ho (eval_VR hS hv) hl h
        · rename_i hw
          simp only [cutW, hw, Bool.false_or, Bool.and_eq_true, Option.isNone_iff_eq_none] at hcw
          obtain ⟨_, hl0⟩ := hcw
          subst hl0
          have : lo = none := by
            cases lo with
            | none => rfl
            | some z => simp only [evO, Option.map_eq_some_iff] at hl; obtain ⟨_, _, hl⟩ := hl; cases hl
          subst this
          exact did_trunc hS ho (eval_VR hS hv) hk h
      · exact did_slice hS ho (eval_VR hS hv) hl hk h
    · exact (fail_inv h).elim
  · -- fieldAddr
    rename_i s y f ho
    split at h
    · rename_i v off t hv hf
      exact did_fieldAddr hS ho (eval_VR hS hv) hf h
    · exact (fail_inv h).elim
  · -- field
    rename_i s y f ho
    split at h
    · rename_i l off t hv hf
      split at h
      · rename_i gg m hg hm
        split at h
        · rename_i x' hx'
          obtain ⟨fs, fl, m', i, hu, hfl, h1, h2, h3, h4, h5, h6⟩ := fieldOf_run hf
          have hvr := eval_VR hS hv
          generalize hvv : a.eval y = vv at hvr
          cases hvr with
          | agg l vs hl hx =>
            rw [h3] at hm
            cases hm
            unfold cutA at hx'
            split at hx'
            · rename_i hle
              cases gg with
              | true =>
                simp only [if_true, Option.some.injEq] at hx'
                subst hx'
                refine pureDid hM (v := .agg ((vs.drop off).take m).toArray) ?_ (.agg _ _ (by simp [hl]) (fun i x v hx1 hv1 => ?_)) h
                · simp [execOp, ho, hvv, Instr.field, run_underlying hu, hfl, h1, h2, asAgg, Go.part, tagg_run hg, sizeOf, typeInfo, h5, h6, List.take_drop]
                · rw [List.getElem?_take] at hx1 hv1
                  split at hx1
                  · rename_i hlt
                    rw [if_pos hlt] at hv1
                    rw [List.getElem?_drop] at hx1 hv1
                    exact hx _ x v hx1 hv1
                  · cases hx1
              | false =>
                simp only [Bool.false_eq_true, if_false] at hx'
                split at hx'
                · have hlt : off < vs.length := by rw [← hl]; exact (List.getElem?_eq_some_iff.1 hx').1
                  refine pureDid hM (v := vs[off]) ?_ (hx off x' _ hx' (List.getElem?_eq_getElem hlt)) h
                  simp [execOp, ho, hvv, Instr.field, run_underlying hu, hfl, h1, h2, asAgg, Go.part, tagg_run hg, hlt]
                · cases hx'
            · cases hx'
        · exact (fail_inv h).elim
      · exact (fail_inv h).elim
    · exact (fail_inv h).elim
  · -- indexAddr
    rename_i t y z ho
    split at h
    · rename_i v i hv hi
      exact did_indexAddr hS ho (eval_VR hS hv) (eval_VR hS hi) h
    · exact (fail_inv h).elim
  · -- index
    rename_i t y z ho
    split at h
    · rename_i s k i hu hv hi
      split at h
      · rename_i h0
        split at h
        · rename_i b hb
          refine pureDid hM ?_ (.t _ _ (.int _ _)) h
          simp [execOp, ho, (eval_VR hS hv).str, (eval_VR hS hi).int, Instr.index, asIntOf, run_underlying hu, h0, hb]
        · exact (fail_inv h).elim
      · exact (fail_inv h).elim
    · exact (fail_inv h).elim
  · -- extract
    rename_i y i ho
    split at h
    · rename_i l hv
      split at h
      · rename_i v hvi
        have hvr := eval_VR hS hv
        generalize hvv : a.eval y = vv at hvr
        cases hvr with
        | tup l vs hl hx =>
          have hlt : i < vs.length := by rw [← hl]; exact (List.getElem?_eq_some_iff.1 hvi).1
          refine pureDid hM (v := vs[i]) ?_ (hx i v _ hvi (List.getElem?_eq_getElem hlt)) h
          simp [execOp, ho, hvv, Instr.extract, hlt]
      · exact (fail_inv h).elim
    · exact (fail_inv h).elim
  · -- len
    rename_i args ts ho
    split at h
    · rename_i y t ha ht
      have ha' : args = #[y] := by rw [← Array.toArray_toList (xs := args), ha]
      have ht' : ts = #[t] := by rw [← Array.toArray_toList (xs := ts), ht]
      subst ha' ht'
      split at h
      · rename_i v hv
        exact did_len hS ho (eval_VR hS hv) h
      · exact (fail_inv h).elim
    · exact (fail_inv h).elim
  · -- append
    rename_i args ts ho
    split at h
    · rename_i y z ha
      have ha' : args = #[y, z] := by rw [← Array.toArray_toList (xs := args), ha]
      subst ha'
      split at h
      · rename_i vx vy hx hy
        exact did_append hS ho (eval_VR hS hx) (eval_VR hS hy) h
      · exact (fail_inv h).elim
    · exact (fail_inv h).elim
  · -- copy
    rename_i args ts ho
    split at h
    · rename_i y z ha
      have ha' : args = #[y, z] := by rw [← Array.toArray_toList (xs := args), ha]
      subst ha'
      split at h
      · rename_i vx vy hx hy
        exact did_copy hS ho (eval_VR hS hx) (eval_VR hS hy) h
      · exact (fail_inv h).elim
    · exact (fail_inv h).elim
  · -- clear
    rename_i args ts ho
    split at h
    · rename_i y ha
      have ha' : args = #[y] := by rw [← Array.toArray_toList (xs := args), ha]
      subst ha'
      split at h
      · rename_i vx hx
        exact did_clear hS ho (eval_VR hS hx) h
      · exact (fail_inv h).elim
    · exact (fail_inv h).elim
  · -- min
    rename_i args ts ho
    split at h
    · rename_i y z ha
      have ha' : args = #[y, z] := by rw [← Array.toArray_toList (xs := args), ha]
      subst ha'
      split at h
      · rename_i k m k' m' hx hy
        refine pureDid hM ?_ (.t _ _ (.int _ _)) h
        simp [execOp, ho, resolve, invoke, builtin, Builtin.min_, Builtin.min2, (eval_VR hS hx).int, (eval_VR hS hy).int]
      · exact (fail_inv h).elim
    · exact (fail_inv h).elim
  · -- max
    rename_i args ts ho
    split at h
    · rename_i y z ha
      have ha' : args = #[y, z] := by rw [← Array.toArray_toList (xs := args), ha]
      subst ha'
      split at h
      · rename_i k m k' m' hx hy
        refine pureDid hM ?_ (.t _ _ (.int _ _)) h
        simp [execOp, ho, resolve, invoke, builtin, Builtin.max_, Builtin.max2, (eval_VR hS hx).int, (eval_VR hS hy).int]
      · exact (fail_inv h).elim
    · exact (fail_inv h).elim
  · exact (fail_inv h).elim
end
end Go.Tm
