/- Calls: sound. -/
import Derived.Test.YtohcknmdebahiaaGreatDoorTm15
set_option linter.unusedVariables false
set_option linter.unusedSimpArgs false
namespace Go.Tm
open Go.RowKit

section
variable {P : Program} {E : En} [Tb P E] {g : Gh} {st st' : St} {a : Act} {w : World}

theorem Outs.head {w' : World} {F : Nat → Prop} : ∀ {as : List A} {vs : List V} {us : List Value} {os : List (List C)} {bo : List Nat}, ArgsR g as vs us → Outs w' F vs us os bo → ∀ s ∈ slots as, ∃ arr e, w'.heap[g.ob s]? = some (.cells arr e (0, 0)) := by
  intro as vs us os bo hA
  induction hA generalizing os bo with
  | nil => intro _ s hs; simp [slots] at hs
  | oth a x u as vs us ha hx hA ih =>
    intro hO s hs
    rw [slots_oth ha] at hs
    cases hO with
    | ptr c c' v bs l vs' os bo h1 h2 => exact absurd rfl (hx c)
    | skip x v l vs' os bo hx' h2 => exact ih h2 s hs
  | obj s' cs as vs us hA ih =>
    intro hO s hs
    cases hO with
    | skip x v l vs' os bo hx' h2 => exact absurd rfl (hx' cs)
    | ptr c c' v bs l vs' os bo h1 h2 =>
      simp only [slots, List.mem_cons] at hs
      rcases hs with rfl | hs
      · cases h1 with
        | ptr cells b arr e vals b1 hb => exact ⟨arr, e, hb⟩
      · exact ih h2 s hs

theorem call_sound {n d f : Nat} {m : Bool} {p : Nat → Bool} {o : Oper} {xf : Operand} {args : Array Operand} {ts : Array TypeId} {caps as : List A} {vs : List V} {st1 : St} {res : V} {outs : List (List C)} {x : A}
    (hS : Sim E g n st a w) (ho : o.op = .call { callee := .value xf, args, argTypes := ts }) (hf : st.eval xf = some (.clo f caps)) (has : allSome (args.toList.map st.eval) = some as)
    (hp : (passA m p (as ++ caps) MA.ret).run st = some (vs, st1)) (hc : CallOK P f vs res outs) (hr : (recvOuts d (slots (as ++ caps)) outs (V.toA d (tokR d 0) res MA.ret)).run st1 = some (x, st')) :
    Goes P o a w fun v w' => ∃ g', Aft E g st w x st' v g' w' := by
  have hM := hS.mem
  obtain ⟨hcl, hcc⟩ := hc
  have hvf := eval_VR hS hf
  generalize hvv : a.eval xf = vf at hvf
  cases hvf with
  | clo f caps vcaps hl hx =>
    refine Goes.of_calls ho hvv hcl ?_
    obtain ⟨ha1, ha2⟩ := evs_VR hS has
    obtain ⟨cs, st1', g1, bs, hM1, hE1, hL1, h1, hVV, hT, hA, hsl⟩ := passA_run (vs := args.toList.map a.eval ++ vcaps) (as ++ caps) hM (by simp [← ha1, hl]) (fun j y hj => by
      rw [List.getElem?_append] at hj
      split at hj
      · rename_i hlt
        have hlt' : j < (args.toList.map a.eval).length := by rw [← ha1]; exact hlt
        exact ⟨_, by rw [List.getElem?_append_left hlt']; exact List.getElem?_eq_getElem hlt', ha2 j y _ hj (List.getElem?_eq_getElem hlt')⟩
      · rename_i hge
        have hlt : j - as.length < vcaps.length := by rw [← hl]; exact (List.getElem?_eq_some_iff.1 hj).1
        exact ⟨_, by rw [List.getElem?_append_right (by rw [← ha1]; omega), ← ha1]; exact List.getElem?_eq_getElem hlt, hx _ y _ hj (List.getElem?_eq_getElem hlt)⟩) hp
    obtain ⟨rfl, rfl⟩ := ret_inv h1
    have hbsX : ∀ b ∈ bs, b < E.w0.heap.size → E.X b := fun b hb hlt => by
      rcases hT.of b hb with ⟨r, h2, _, h4⟩ | ⟨s, ⟨c, cs, h2⟩, _, h4⟩
      · rcases (hM.row_nf h2 h4).2 with h5 | h5
        · omega
        · exact h5
      · rcases (hM.ob_nf (s := s) (by simp [St.O, h2])).2 with h5 | h5
        · omega
        · exact h4 ▸ h5
    refine (hcc w g1.F _ bs (fun b hb => (hM1.F b hb).1) hVV hT.nodup hT.nf (hM.tbW fun b h1 h2 _ h3 => h2 (hbsX b h3 h1))).mono fun e w' ⟨v, F', bv, bo, he, hcalm, hsame, hFF, hF', hvr, hO, hnd, hex⟩ => ⟨v, he, ?_⟩
    -- the caller's memory behind the call
    have hbsrow : ∀ b ∈ bs, ∀ r, st1.L r → (g1.rw r).ownBlock ≠ some b := fun b hb r hr he => by
      rw [hL1.rw] at he
      rcases hT.of b hb with ⟨r', h2, h3, h4⟩ | ⟨s, ⟨c, cs, h2⟩, _, h4⟩
      · exact h3 (hM.rowne r r' b (hL1.L r hr) h2 he h4 ▸ hr)
      · exact hM.rowob r s (hL1.L r hr) (by simp [St.O, h2]) (h4 ▸ he)
    have hbsob : ∀ b ∈ bs, ∀ s, st1.O s → g1.ob s = b → st1.ob s = some [] ∧ s ∈ slots (as ++ caps) := fun b hb s hs he => by
      rw [hL1.ob] at he
      have hs' : st.O s := (hL1.O s).1 hs
      rcases hT.of b hb with ⟨r', h2, h3, h4⟩ | ⟨s', ⟨c, cs, h2⟩, h3, h4⟩
      · exact absurd (he ▸ h4) (hM.rowob r' s h2 hs')
      · have := hM.obne s s' hs' (by simp [St.O, h2]) (he.trans h4.symm)
        subst this
        exact ⟨h3, hsl s (by rw [h3, h2]; simp)⟩
    have hF0 : ∀ b, b < w.heap.size → F' b → g1.F b ∨ b ∈ bs := fun b h2 h3 => (hF' b h3).2.1 h2
    have hA1 : ArgsR g1 (as ++ caps) vs (args.toList.map a.eval ++ vcaps) := hA.congr' hL1.ob
    have hexF : ∀ b ∈ bs, F' b → False ∨ True := fun _ _ _ => .inr trivial
    have hlentF : ∀ s, s ∈ slots (as ++ caps) → g1.ob s ∈ bo := Outs.mem hA1 hO
    obtain ⟨hM2, hE2⟩ := hM1.step (w' := w') (g' := { g1 with F := F' }) (st' := st1) hcalm (fun b => b ∈ bs) (fun b h2 h3 => hsame b h2 h3) (fun b hb => hT.nf b hb) (fun b h2 h3 => hbsX b h3 h2) hFF
      (fun b h2 h3 => ⟨(hF' b h2).1, fun hlt => (hF0 b (Nat.lt_of_lt_of_le hlt hM1.sizes) h2).elim (fun h4 => absurd h4 h3) (fun h4 => .inr (hbsX b h4 hlt)), .inr ((hF' b h2).2.2.resolve_left h3)⟩) (fun _ h => ⟨h, rfl⟩) (fun _ h => ⟨h, rfl⟩)
      (fun s cells hs => by
        have hOs : st1.O s := by simp [St.O, hs]
        by_cases hb : g1.ob s ∈ bs
        · obtain ⟨h5, h6⟩ := hbsob _ hb s hOs rfl
          rw [hs] at h5
          cases h5
          obtain ⟨arr, e, hh⟩ := Outs.head hA1 hO s h6
          refine .inr ⟨arr, e, hh, by simp, by simp, ?_, (hM1.ob_nf hOs).2⟩
          exact (hex _ (List.mem_append.2 (.inr (hlentF s h6)))).1
        · refine .inl ⟨hs, hb, fun hf => ?_⟩
          rcases hF0 _ (hM1.ob_lt hOs) hf with h5 | h5
          · exact (hM1.ob_nf hOs).1 h5
          · exact hb h5) hM1.obne
      (fun r x hr => .inl ⟨hr, fun hL b hb => ⟨fun hm => hbsrow b hm r hL hb, fun hf => by
        rcases hF0 b (hM1.row_lt hL hb) hf with h5 | h5
        · exact (hM1.row_nf hL hb).1 h5
        · exact hbsrow b h5 r hL hb⟩⟩) hM1.rowne hM1.rowob
    have hI : Inv E { g1 with F := F' } st1 (slots (as ++ caps)) (bo ++ bv) := by
      have hm : ∀ x, x ∈ bo ++ bv → x ∈ bv ++ bo := fun x hx => by
        rcases List.mem_append.1 hx with h | h <;> simp [h]
      refine ⟨?_, fun b hb => (hex b (hm b hb)).1, fun b hb => ?_, fun b hb r hr he => ?_, fun b hb s hs he => ?_⟩
      · rw [List.nodup_append] at hnd ⊢
        exact ⟨hnd.2.1, hnd.1, fun x hx y hy h => hnd.2.2 y hy x hx h.symm⟩
      · rcases (hex b (hm b hb)).2 with h5 | h5
        · exact .inl (Nat.le_trans hM1.sizes h5)
        · by_cases hlt : b < E.w0.heap.size
          · exact .inr (hbsX b h5 hlt)
          · exact .inl (by omega)
      · rcases (hex b (hm b hb)).2 with h5 | h5
        · exact absurd (hM1.row_lt hr he) (by omega)
        · exact hbsrow b h5 r hr he
      · rcases (hex b (hm b hb)).2 with h5 | h5
        · exact absurd (hM1.ob_lt hs) (by have : g1.ob s = b := he; omega)
        · exact (hbsob b h5 s hs he).2
    have hA2 : ArgsR { g1 with F := F' } (as ++ caps) vs (args.toList.map a.eval ++ vcaps) := hA1.congr' (g := g1) (g1 := { g1 with F := F' }) rfl
    obtain ⟨st2, g2, hM3, hE3, hF3, ht3, h6, hI3⟩ := recvOuts_run (w := w') hM2 hA2 hO hI hr
    obtain ⟨x', st3, g3, hG, h7, hvx⟩ := V_toA_run (w := w') res hM3 (by rw [hF3]; exact hvr) hI3.nodup (fun b hb => ⟨hI3.F b hb, fun s hs he => by have := hI3.ob b hb s hs he; simp at this, hI3.row b hb, hI3.X b hb⟩) h6
    obtain ⟨rfl, rfl⟩ := ret_inv h7
    exact ⟨g3, hG.mem, hvx, ((hE1.trans hE2).trans hE3).trans hG.ext, hG.tm.trans (ht3.trans hL1.tm)⟩
end
end Go.Tm
