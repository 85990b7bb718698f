/- A call, at the caller's. -/
import Derived.Test.YtohcknmdebahiaaGreatDoorTm14
set_option linter.unusedVariables false
set_option linter.unusedSimpArgs false
namespace Go.Tm
open Go.RowKit

/-- The variables that come back. -/
def recvOuts {α : Type} (d : Nat) : List Nat → List (List C) → MA α → MA α
  | [], [], k => k
  | s :: ss, c :: cs, k => C.toAs d (tokO d s 0) c fun as => .getOb s fun
    | some _ => .setOb s as (recvOuts d ss cs k)
    | none => .fail
  | _, _, _ => .fail

/-- A value is come by from here: what the operation's own step is, whatever follows. -/
def Goes (P : Program) (o : Oper) (a : Act) (w : World) (R : Value → World → Prop) : Prop :=
  ∀ (next : Act → World → Prop) (Q : Exit → Act → World → Prop), (∀ v w', R v w' → next (a.put o.dst v) w') → o.wp P a w next Q

section
variable {P : Program} {E : En} {g : Gh} {st st' : St} {a : Act} {w : World}

theorem Goes.of_did {o : Oper} {R : Value → World → Prop} (h : ∃ v w', Did P o a w v w' ∧ R v w') : Goes P o a w R := by
  obtain ⟨v, w', h1, h2⟩ := h
  intro next Q hn
  unfold Oper.wp
  rcases h1 with h1 | ⟨h1, rfl⟩
  · rw [h1]; exact hn v w' h2
  · rw [h1]; exact hn _ w' h2

theorem Goes.of_calls {o : Oper} {R : Value → World → Prop} {f : FuncId} {xf : Operand} {args : Array Operand} {ts : Array TypeId} {caps : List Value} (ho : o.op = .call { callee := .value xf, args, argTypes := ts }) (hf : a.eval xf = .func (.func f) #[] caps.toArray) (hc : Callable P f)
    (h : Calls P f (args.toList.map a.eval ++ caps).toArray w fun e w' => ∃ v, e = .returned v ∧ R v w') : Goes P o a w R := by
  obtain ⟨fn, hfn, hb, hnm⟩ := hc
  intro next Q hn
  have he : (execOp a.eval o).run P w = .ok (.enter f (args.toList.map a.eval ++ caps).toArray) w := by
    have : args.map a.eval ++ caps.toArray = (args.toList.map a.eval ++ caps).toArray := by
      apply Array.ext'
      simp
    have hb' : fn.body ≠ none := fun h => by simp [h] at hb
    have hn' : fn.name ≠ "runtime.NumGoroutine" := by simpa using hnm
    simp [execOp, ho, resolve, Deferred.ofValue, hf, invoke, callFunc, hfn, hb', hn', this]
  unfold Oper.wp
  rw [he]
  exact h.mono fun e w' ⟨v, hv, hR⟩ => by subst hv; exact hn v w' hR

/-- The blocks that a lent variable's cells, or a result, bring along. -/
structure Inv (E : En) (g : Gh) (st : St) (ss : List Nat) (bs : List Nat) : Prop where
  nodup : bs.Nodup
  F : ∀ b ∈ bs, ¬ g.F b
  X : ∀ b ∈ bs, E.w0.heap.size ≤ b ∨ E.X b
  row : ∀ b ∈ bs, ∀ r, st.L r → (g.rw r).ownBlock ≠ some b
  ob : ∀ b ∈ bs, ∀ s, st.O s → g.ob s = b → s ∈ ss

theorem Outs.mem {F : Nat → Prop} : ∀ {as : List A} {vs : List V} {us : List Value} {os : List (List C)} {bo : List Nat}, ArgsR g as vs us → Outs w F vs us os bo → ∀ s ∈ slots as, g.ob s ∈ bo := by
  intro as vs us os bo hA
  induction hA generalizing os bo with
  | nil => intro _ s hs; simp [slots] at hs
  | oth a x u as vs us ha hx hA ih =>
    intro hO s hs
    rw [slots_oth ha] at hs
    cases hO with
    | ptr c c' v bs l vs' os bo h1 h2 => exact absurd rfl (hx c)
    | skip x v l vs' os bo hx' h2 => exact ih h2 s hs
  | obj s' cs as vs us hA ih =>
    intro hO s hs
    cases hO with
    | skip x v l vs' os bo hx' h2 => exact absurd rfl (hx' cs)
    | ptr c c' v bs l vs' os bo h1 h2 =>
      simp only [slots, List.mem_cons] at hs
      rcases hs with rfl | hs
      · cases h1 with
        | ptr => simp
      · exact List.mem_append.2 (.inr (ih h2 s hs))

theorem recvOuts_run {α : Type} {st' : St} {d : Nat} : ∀ {as : List A} {vs : List V} {us : List Value} {os : List (List C)} {bo bv : List Nat} {g : Gh} {st : St} {k : MA α} {y : α}, Mem E g st w → ArgsR g as vs us → Outs w g.F vs us os bo → Inv E g st (slots as) (bo ++ bv) →
    (recvOuts d (slots as) os k).run st = some (y, st') → ∃ st1 g1, Mem E g1 st1 w ∧ Ext w w g g1 st.O st.R st1.O st1.R ∧ g1.F = g.F ∧ st1.tm = st.tm ∧ k.run st1 = some (y, st') ∧ Inv E g1 st1 [] bv
  | [], vs, us, os, bo, bv, g, st, k, y, hM, hA, hO, hI, h => by
    cases hA
    cases hO
    simp only [slots, recvOuts] at h
    exact ⟨st, g, hM, Ext.refl _ _ _ _, rfl, rfl, h, hI⟩
  | a :: as, vs, us, os, bo, bv, g, st, k, y, hM, hA, hO, hI, h => by
    cases hA with
    | oth a x u as vs us ha hx hA =>
      rw [slots_oth ha] at h hI
      cases hO with
      | ptr c c' v bs l vs' os bo h1 h2 => exact absurd rfl (hx c)
      | skip x v l vs' os bo hx' h2 => exact recvOuts_run hM hA h2 hI h
    | obj s cs as vs us hA =>
      cases hO with
      | skip x v l vs' os bo hx' h2 => exact absurd rfl (hx' cs)
      | ptr c c' v bs l vs' os bo h1 h2 =>
        have hmem := Outs.mem hA h2
        cases h1 with
        | ptr cells b arr e vals b1 hb hl hle hc =>
          simp only [slots, recvOuts] at h
          have hnd := hI.nodup
          simp only [List.cons_append, List.nodup_cons, List.append_assoc, List.mem_append, List.nodup_append] at hnd
          obtain ⟨hn1, hn2, ⟨hn3, hn4, hn5⟩, hn6⟩ := hnd
          have hb1 : ∀ x ∈ b1, Fresh E g st x := fun x hx => by
            have hxm : x ∈ g.ob s :: b1 ++ bo ++ bv := by simp [hx]
            refine ⟨hI.F x hxm, fun s' hs' he => ?_, hI.row x hxm, hI.X x hxm⟩
            have := hI.ob x hxm s' hs' he
            simp only [slots, List.mem_cons] at this
            rcases this with rfl | h9
            · exact hn1 (.inl (he ▸ hx))
            · exact hn6 x hx x (.inl (he ▸ hmem s' h9)) rfl
          obtain ⟨as', st1, g1, hG, hC, h3, hll, hx⟩ := C_toAs_run hM hc hn2 hb1 h
          simp only [MA.run] at h3
          rw [hC.eob] at h3
          cases hso : st.ob s with
          | none => simp [hso, MA.run] at h3
          | some c0 =>
            simp only [hso, MA.run] at h3
            have hOs : st.O s := by simp [St.O, hso]
            obtain ⟨hM2, hE2⟩ := hG.mem.set_ob (w' := w) (Calm.refl w) s c0 as' arr e (by rw [hC.eob, hso]) (by rw [hC.ob]; exact hb) (fun _ _ _ => rfl) (by omega) (fun j x hj => by
              obtain ⟨h4, u, hu, hr⟩ := hx j x hj
              refine ⟨h4, u, ?_, hr⟩
              rw [hl, List.getElem?_take] at hu
              split at hu
              · simpa using hu
              · cases hu)
            have hO2 : ∀ s', ({ st1 with ob := upd st1.ob s (some as') } : St).O s' → st.O s' := fun s' h4 => by
              rcases O_upd.1 h4 with rfl | h4
              · exact hOs
              · unfold St.O at h4 ⊢; rw [hC.eob] at h4; exact h4
            have hI2 : Inv E g1 { st1 with ob := upd st1.ob s (some as') } (slots as) (bo ++ bv) := by
              have up : ∀ x, x ∈ bo ++ bv → x ∈ g.ob s :: b1 ++ bo ++ bv := fun x hx => by
                simp only [List.mem_append] at hx
                simp only [List.cons_append, List.append_assoc, List.mem_cons, List.mem_append]
                exact .inr (.inr hx)
              refine ⟨List.nodup_append.2 ⟨hn3, hn4, hn5⟩, fun x hx => by rw [hG.F]; exact hI.F x (up x hx), fun x hx => hI.X x (up x hx), fun x hx r hr he => ?_, fun x hx s' hs' he => ?_⟩
              · rcases hC.rows r x hr he with h9 | ⟨h9, h10⟩
                · exact hn6 x h9 x (List.mem_append.1 hx) rfl
                · exact hI.row x (up x hx) r h9 h10
              · have he' : g.ob s' = x := by rw [← hC.ob]; exact he
                have := hI.ob x (up x hx) s' (hO2 s' hs') he'
                simp only [slots, List.mem_cons] at this
                rcases this with rfl | h9
                · exact absurd (by simp only [List.mem_append] at hx; rw [he']; exact .inr hx) hn1
                · exact h9
            obtain ⟨st3, g3, hM3, hE3, hF3, ht3, h5, hI3⟩ := recvOuts_run hM2 (hA.congr' hC.ob) (hG.F ▸ h2) hI2 h3
            exact ⟨st3, g3, hM3, (hG.ext.trans hE2).trans hE3, hF3.trans hG.F, ht3.trans hG.tm, h5, hI3⟩
end
end Go.Tm
