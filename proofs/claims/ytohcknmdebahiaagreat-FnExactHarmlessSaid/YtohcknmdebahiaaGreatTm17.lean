/- Calls whose arguments are only lent for reading: the caller keeps its rows. -/
import Derived.Test.YtohcknmdebahiaaGreatTm16
set_option linter.unusedVariables false
set_option linter.unusedSimpArgs false
namespace Go.Tm
open Go.RowKit

section
variable {P : Program} {E : En} {g : Gh} {st st' : St} {a : Act} {w : World}

/-- All that is only read, and the rows of one's own besides. -/
def Gh.all (g : Gh) (st : St) (b : Nat) : Prop := g.F b ∨ ∃ r, st.L r ∧ (g.rw r).ownBlock = some b

theorem peekT_run {α : Type} {x : A} {k : T → MA α} {y : α} {v : Value} (hM : Mem E g st w) (hv : VR w g st.O st.R x v) (h : (x.peekT k).run st = some (y, st')) : ∃ t, (k t).run st = some (y, st') ∧ Rd w (g.all st) t v := by
  cases hv with
  | t x v h1 => exact ⟨x, h, h1.mono (fun _ _ => rfl) (fun _ h => .inl h)⟩
  | nil => exact ⟨_, h, .sl0 _ _ _⟩
  | own r hr =>
    simp only [A.peekT, MA.run] at h
    cases hx : st.rw r with
    | none => simp [hx, MA.run] at h
    | some x =>
      cases x with
      | live e sz rows =>
        simp only [hx] at h
        exact ⟨_, h, (hM.row r _ hx).rd _ (fun _ h => .inl h) (fun b hb => .inr ⟨r, ⟨e, sz, rows, hx⟩, hb⟩)⟩
      | frz sz rows =>
        simp only [hx] at h
        exact ⟨_, h, Rd.mono (hM.row r _ hx) (fun _ _ => rfl) (fun _ h => .inl h)⟩
      | gone => simp [hx, MA.run] at h
  | _ => simp [A.peekT, MA.run] at h

theorem peekTs_run {α : Type} : ∀ {l : List A} {k : List T → MA α} {y : α} {vs : List Value}, Mem E g st w → vs.length = l.length → (∀ (j : Nat) (x : A), l[j]? = some x → ∃ u, vs[j]? = some u ∧ VR w g st.O st.R x u) → (A.peekTs l k).run st = some (y, st') →
    ∃ ts, (k ts).run st = some (y, st') ∧ CVs w (g.all st) (ts.map .t) vs []
  | [], k, y, vs, hM, hl, hv, h => by
    have : vs = [] := List.eq_nil_of_length_eq_zero hl
    subst this
    exact ⟨[], h, .nil⟩
  | x :: l, k, y, vs, hM, hl, hv, h => by
    obtain ⟨v, vs, rfl⟩ : ∃ v vs', vs = v :: vs' := by
      cases vs with
      | nil => simp at hl
      | cons v vs => exact ⟨v, vs, rfl⟩
    obtain ⟨u, hu, hx⟩ := hv 0 x rfl
    simp at hu
    subst hu
    obtain ⟨t, h1, hr⟩ := peekT_run hM hx h
    obtain ⟨ts, h2, hc⟩ := peekTs_run hM (by simpa using hl) (fun j y hy => by
      obtain ⟨u, hu, hx⟩ := hv (j + 1) y (by simpa using hy)
      exact ⟨u, by simpa using hu, hx⟩) h1
    exact ⟨t :: ts, h2, .cons _ _ [] _ _ [] (.t _ _ hr) hc⟩

mutual
theorem peekV_run {α : Type} : ∀ (x : A) {k : V → MA α} {y : α} {v : Value}, Mem E g st w → VR w g st.O st.R x v → (A.peekV x k).run st = some (y, st') → ∃ c, (k c).run st = some (y, st') ∧ VV w (g.all st) c v [] := by
  intro x k y v hM hv h
  unfold A.peekV at h
  split at h
  · rename_i l
    cases hv with
    | agg l vs hl hx =>
      obtain ⟨ts, h1, hc⟩ := peekTs_run hM hl.symm (fun j x hj => ⟨_, List.getElem?_eq_getElem (by rw [← hl]; exact (List.getElem?_eq_some_iff.1 hj).1), hx j x _ hj (List.getElem?_eq_getElem (by rw [← hl]; exact (List.getElem?_eq_some_iff.1 hj).1))⟩) h
      exact ⟨_, h1, .agg _ vs [] hc⟩
  · rename_i ts
    cases hv with
    | fadr cells b off u hF hx hr => exact ⟨_, h, .fptr ts b off u (.inl hF) hx (fun j x hj => (hr j x hj).mono (fun _ _ => rfl) (fun _ h => .inl h))⟩
  · rename_i f caps
    cases hv with
    | clo f caps vs hl hx =>
      obtain ⟨cs, h1, hc⟩ := peekVs_run caps hM hl.symm (fun j x hj => ⟨_, List.getElem?_eq_getElem (by rw [← hl]; exact (List.getElem?_eq_some_iff.1 hj).1), hx j x _ hj (List.getElem?_eq_getElem (by rw [← hl]; exact (List.getElem?_eq_some_iff.1 hj).1))⟩) h
      exact ⟨_, h1, .clo f cs vs [] hc⟩
  · obtain ⟨t, h1, hr⟩ := peekT_run hM hv h
    exact ⟨_, h1, .one _ v [] (.t _ _ hr)⟩
theorem peekVs_run {α : Type} : ∀ (l : List A) {k : List V → MA α} {y : α} {vs : List Value}, Mem E g st w → vs.length = l.length → (∀ (j : Nat) (x : A), l[j]? = some x → ∃ u, vs[j]? = some u ∧ VR w g st.O st.R x u) → (A.peekVs l k).run st = some (y, st') → ∃ cs, (k cs).run st = some (y, st') ∧ VVs w (g.all st) cs vs []
  | [], k, y, vs, hM, hl, hv, h => by
    have : vs = [] := List.eq_nil_of_length_eq_zero hl
    subst this
    unfold A.peekVs at h
    exact ⟨[], h, .nil⟩
  | x :: l, k, y, vs, hM, hl, hv, h => by
    obtain ⟨v, vs, rfl⟩ : ∃ v vs', vs = v :: vs' := by
      cases vs with
      | nil => simp at hl
      | cons v vs => exact ⟨v, vs, rfl⟩
    obtain ⟨u, hu, hx⟩ := hv 0 x rfl
    simp at hu
    subst hu
    unfold A.peekVs at h
    obtain ⟨c, h1, hc⟩ := peekV_run x hM hx h
    obtain ⟨cs, h2, hcs⟩ := peekVs_run l hM (by simpa using hl) (fun j y hy => by
      obtain ⟨u, hu, hx⟩ := hv (j + 1) y (by simpa using hy)
      exact ⟨u, by simpa using hu, hx⟩) h1
    exact ⟨c :: cs, h2, .cons _ _ [] _ _ [] hc hcs⟩
end

theorem Rd.sc {F F' : Nat → Prop} {x : T} {v : Value} (h : Rd w F x v) (hx : x.sc = true) : Rd w F' x v := by
  cases h with
  | int k n => exact .int k n
  | bool b => exact .bool b
  | str s => exact .str s
  | nilf => exact .nilf
  | sl0 | sl => cases hx
theorem CV.plain {F F' : Nat → Prop} {c : C} {v : Value} {bs : List Nat} (h : CV w F c v bs) (hc : c.plain) : CV w F' c v bs := by
  cases h with
  | t x v h => exact .t x v (h.sc hc)
  | nil => exact .nil
  | ow e sz rows v inner ho hr =>
    exact .ow e sz rows v inner ho ⟨hr.size, hr.len, fun i row j x hi hj => by
      obtain ⟨u, hu, h1, h2⟩ := hr.rd i row j x hi hj
      exact ⟨u, hu, h1, h2.sc (hc row (List.mem_of_getElem? hi) x (List.mem_of_getElem? hj))⟩⟩
theorem CVs.plain {F F' : Nat → Prop} {cs : List C} {vs : List Value} {bs : List Nat} (h : CVs w F cs vs bs) (hc : ∀ c ∈ cs, c.plain) : CVs w F' cs vs bs := by
  induction h with
  | nil => exact .nil
  | cons c v b cs vs bs h hs ih => exact .cons c v b cs vs bs (h.plain (hc c (by simp))) (ih (fun c h => hc c (by simp [h])))
mutual
theorem VV.plain {F F' : Nat → Prop} : ∀ {x : V} {v : Value} {bs : List Nat}, VV w F x v bs → x.plain → VV w F' x v bs
  | _, _, _, .one c v bs h, hp => .one c v bs (h.plain (by unfold V.plain at hp; exact hp))
  | _, _, _, .agg l vs bs h, hp => .agg l vs bs (h.plain (by unfold V.plain at hp; exact hp))
  | _, _, _, .tup l vs bs h, hp => .tup l vs bs (h.plain (by unfold V.plain at hp; exact hp))
  | _, _, _, .ptr cells b arr e vs bs h1 h2 h3 h, hp => by unfold V.plain at hp; exact hp.elim
  | _, _, _, .fptr cells b off u h1 h2 h3, hp => by unfold V.plain at hp; exact hp.elim
  | _, _, _, .clo f caps vs bs h, hp => by unfold V.plain at hp; exact hp.elim
theorem VVs.plain {F F' : Nat → Prop} : ∀ {l : List V} {vs : List Value} {bs : List Nat}, VVs w F l vs bs → V.plains l → VVs w F' l vs bs
  | _, _, _, .nil, hp => .nil
  | _, _, _, .cons x v b l vs bs h hs, hp => .cons x v b l vs bs (h.plain (by unfold V.plains at hp; exact hp.1)) (hs.plain (by unfold V.plains at hp; exact hp.2))
end

theorem callB_sound {n d f : Nat} {o : Oper} {xf : Operand} {args : Array Operand} {ts : Array TypeId} {caps as : List A} {vs : List V} {res : V} {x : A}
    (hS : Sim E g n st a w) (ho : o.op = .call { callee := .value xf, args, argTypes := ts }) (hf : st.eval xf = some (.clo f caps)) (has : allSome (args.toList.map st.eval) = some as)
    (hp : (A.peekVs (as ++ caps) MA.ret).run st = some (vs, st)) (hc : CallOK P f vs res []) (hpl : res.plain) (hr : (V.toA d (tokR d 0) res MA.ret).run st = some (x, st')) :
    Goes P o a w fun v w' => ∃ g', Aft E g st w x st' v g' w' := by
  have hM := hS.mem
  obtain ⟨hcl, hcc⟩ := hc
  have hvf := eval_VR hS hf
  generalize hvv : a.eval xf = vf at hvf
  cases hvf with
  | clo f caps vcaps hl hx =>
    refine Goes.of_calls ho hvv hcl ?_
    obtain ⟨ha1, ha2⟩ := evs_VR hS has
    obtain ⟨cs, h1, hVV⟩ := peekVs_run (vs := args.toList.map a.eval ++ vcaps) (as ++ caps) hM (by simp [← ha1, hl]) (fun j y hj => by
      rw [List.getElem?_append] at hj
      split at hj
      · rename_i hlt
        have hlt' : j < (args.toList.map a.eval).length := by rw [← ha1]; exact hlt
        exact ⟨_, by rw [List.getElem?_append_left hlt']; exact List.getElem?_eq_getElem hlt', ha2 j y _ hj (List.getElem?_eq_getElem hlt')⟩
      · rename_i hge
        have hlt : j - as.length < vcaps.length := by rw [← hl]; exact (List.getElem?_eq_some_iff.1 hj).1
        exact ⟨_, by rw [List.getElem?_append_right (by rw [← ha1]; omega), ← ha1]; exact List.getElem?_eq_getElem hlt, hx _ y _ hj (List.getElem?_eq_getElem hlt)⟩) hp
    obtain ⟨rfl, _⟩ := ret_inv h1
    refine (hcc w (g.all st) _ [] (fun b hb => ?_) hVV List.nodup_nil (by simp)).mono fun e w' ⟨v, F', bv, bo, he, hcalm, hsame, hFF, hF', hvr, hO, hnd, hex⟩ => ⟨v, he, ?_⟩
    · rcases hb with hb | ⟨r, hL, hb⟩
      · exact (hM.F b hb).1
      · exact hM.row_lt hL hb
    obtain ⟨hM2, hE2⟩ := hM.grow hcalm (fun b hb => hsame b hb (by simp))
    have hbv : ∀ b ∈ bv, w.heap.size ≤ b := fun b hb => ((hex b (by simp [hb])).2).resolve_right (by simp)
    obtain ⟨x', st3, g3, hG, h7, hvx⟩ := V_toA_run (w := w') res hM2 (hvr.plain (F' := g.F) hpl) (List.nodup_append.1 hnd).1 (fun b hb => by
      obtain ⟨h8, h9, h10⟩ := new_free hM (hbv b hb)
      exact ⟨h8, h9, h10, .inl (Nat.le_trans hM.sizes (hbv b hb))⟩) hr
    obtain ⟨rfl, rfl⟩ := ret_inv h7
    exact ⟨g3, hG.mem, hvx, hE2.trans hG.ext, hG.tm⟩
/-- THE CONTRACT of a function that gives an address within the variable that it is lent first. -/
def IntoOK (P : Program) (f : FuncId) (args : List V) (off : Nat) (outs : List (List C)) : Prop :=
  Callable P f ∧ ∀ (w : World) (F : Nat → Prop) (vs : List Value) (bs : List Nat), (∀ b, F b → b < w.heap.size) → VVs w F args vs bs → bs.Nodup → (∀ b ∈ bs, ¬ F b) →
    Calls P f vs.toArray w fun e w' => ∃ v F' bo b0, e = .returned v ∧ vs.head? = some (.pointer (some ⟨b0, 0, none⟩)) ∧ v = .pointer (some ⟨b0, off, none⟩) ∧ Calm w w' ∧ (∀ b, b < w.heap.size → b ∉ bs → w'.heap[b]? = w.heap[b]?) ∧ (∀ b, F b → F' b) ∧
      (∀ b, F' b → b < w'.heap.size ∧ (b < w.heap.size → F b ∨ b ∈ bs)) ∧ Outs w' F' args vs outs bo ∧ bo.Nodup ∧ ∀ b ∈ bo, ¬ F' b ∧ (w.heap.size ≤ b ∨ b ∈ bs)
theorem callI_sound {n d f : Nat} {m : Bool} {p : Nat → Bool} {o : Oper} {xf : Operand} {args : Array Operand} {ts : Array TypeId} {caps as : List A} {vs : List V} {st1 : St} {outs : List (List C)} {x : A} {s off : Nat}
    (hS : Sim E g n st a w) (ho : o.op = .call { callee := .value xf, args, argTypes := ts }) (hf : st.eval xf = some (.clo f caps)) (has : allSome (args.toList.map st.eval) = some as)
    (hp : (passA m p (as ++ caps) MA.ret).run st = some (vs, st1)) (hc : IntoOK P f vs off outs) (hhd : (as ++ caps).head? = some (.obj s 0)) (hr : (recvOuts d (slots (as ++ caps)) outs (MA.ret (.obj s off))).run st1 = some (x, st')) :
    Goes P o a w fun v w' => ∃ g', Aft E g st w x st' v g' w' := by
  have hM := hS.mem
  obtain ⟨hcl, hcc⟩ := hc
  have hvf := eval_VR hS hf
  generalize hvv : a.eval xf = vf at hvf
  cases hvf with
  | clo f caps vcaps hl hx =>
    refine Goes.of_calls ho hvv hcl ?_
    obtain ⟨ha1, ha2⟩ := evs_VR hS has
    have hus : ∀ (j : Nat) (y : A), (as ++ caps)[j]? = some y → ∃ v, (args.toList.map a.eval ++ vcaps)[j]? = some v ∧ VR w g st.O st.R y v := by
      intro j y hj
      rw [List.getElem?_append] at hj
      split at hj
      · rename_i hlt
        have hlt' : j < (args.toList.map a.eval).length := by rw [← ha1]; exact hlt
        exact ⟨_, by rw [List.getElem?_append_left hlt']; exact List.getElem?_eq_getElem hlt', ha2 j y _ hj (List.getElem?_eq_getElem hlt')⟩
      · rename_i hge
        have hlt : j - as.length < vcaps.length := by rw [← hl]; exact (List.getElem?_eq_some_iff.1 hj).1
        exact ⟨_, by rw [List.getElem?_append_right (by rw [← ha1]; omega), ← ha1]; exact List.getElem?_eq_getElem hlt, hx _ y _ hj (List.getElem?_eq_getElem hlt)⟩
    obtain ⟨cs, st1', g1, bs, hM1, hE1, hL1, h1, hVV, hT, hA, hsl⟩ := passA_run (vs := args.toList.map a.eval ++ vcaps) (as ++ caps) hM (by simp [← ha1, hl]) hus hp
    obtain ⟨rfl, rfl⟩ := ret_inv h1
    refine (hcc w g1.F _ bs (fun b hb => (hM1.F b hb).1) hVV hT.nodup hT.nf).mono fun e w' ⟨v, F', bo, b0, he, hhead, hveq, hcalm, hsame, hFF, hF', hO, hnd0, hex0⟩ => ⟨v, he, ?_⟩
    obtain ⟨bv, hbv⟩ : ∃ bv : List Nat, bv = [] := ⟨[], rfl⟩
    have hnd : (bv ++ bo).Nodup := by rw [hbv]; exact hnd0
    have hex : ∀ b ∈ bv ++ bo, ¬ F' b ∧ (w.heap.size ≤ b ∨ b ∈ bs) := by rw [hbv]; exact hex0
    -- the caller's memory behind the call
    have hbsX : ∀ b ∈ bs, b < E.w0.heap.size → E.X b := fun b hb hlt => by
      rcases hT.of b hb with ⟨r, h2, _, h4⟩ | ⟨s, ⟨c, cs, h2⟩, _, h4⟩
      · rcases (hM.row_nf h2 h4).2 with h5 | h5
        · omega
        · exact h5
      · rcases (hM.ob_nf (s := s) (by simp [St.O, h2])).2 with h5 | h5
        · omega
        · exact h4 ▸ h5
    have hbsrow : ∀ b ∈ bs, ∀ r, st1.L r → (g1.rw r).ownBlock ≠ some b := fun b hb r hr he => by
      rw [hL1.rw] at he
      rcases hT.of b hb with ⟨r', h2, h3, h4⟩ | ⟨s, ⟨c, cs, h2⟩, _, h4⟩
      · exact h3 (hM.rowne r r' b (hL1.L r hr) h2 he h4 ▸ hr)
      · exact hM.rowob r s (hL1.L r hr) (by simp [St.O, h2]) (h4 ▸ he)
    have hbsob : ∀ b ∈ bs, ∀ s, st1.O s → g1.ob s = b → st1.ob s = some [] ∧ s ∈ slots (as ++ caps) := fun b hb s hs he => by
      rw [hL1.ob] at he
      have hs' : st.O s := (hL1.O s).1 hs
      rcases hT.of b hb with ⟨r', h2, h3, h4⟩ | ⟨s', ⟨c, cs, h2⟩, h3, h4⟩
      · exact absurd (he ▸ h4) (hM.rowob r' s h2 hs')
      · have := hM.obne s s' hs' (by simp [St.O, h2]) (he.trans h4.symm)
        subst this
        exact ⟨h3, hsl s (by rw [h3, h2]; simp)⟩
    have hF0 : ∀ b, b < w.heap.size → F' b → g1.F b ∨ b ∈ bs := fun b h2 h3 => (hF' b h3).2 h2
    have hA1 : ArgsR g1 (as ++ caps) vs (args.toList.map a.eval ++ vcaps) := hA.congr' hL1.ob
    have hexF : ∀ b ∈ bs, F' b → False ∨ True := fun _ _ _ => .inr trivial
    have hlentF : ∀ s, s ∈ slots (as ++ caps) → g1.ob s ∈ bo := Outs.mem hA1 hO
    obtain ⟨hM2, hE2⟩ := hM1.step (w' := w') (g' := { g1 with F := F' }) (st' := st1) hcalm (fun b => b ∈ bs) (fun b h2 h3 => hsame b h2 h3) (fun b hb => hT.nf b hb) (fun b h2 h3 => hbsX b h3 h2) hFF
      (fun b h2 h3 => ⟨(hF' b h2).1, fun hlt => by
        have hlt' : b < w.heap.size := Nat.lt_of_lt_of_le hlt hM1.sizes
        rcases hF0 b hlt' h2 with h4 | h4
        · exact absurd h4 h3
        · exact .inr (hbsX b h4 hlt)⟩) (fun _ h => ⟨h, rfl⟩) (fun _ h => ⟨h, rfl⟩)
      (fun s cells hs => by
        have hOs : st1.O s := by simp [St.O, hs]
        by_cases hb : g1.ob s ∈ bs
        · obtain ⟨h5, h6⟩ := hbsob _ hb s hOs rfl
          rw [hs] at h5
          cases h5
          obtain ⟨arr, e, hh⟩ := Outs.head hA1 hO s h6
          refine .inr ⟨arr, e, hh, by simp, by simp, ?_, (hM1.ob_nf hOs).2⟩
          exact (hex _ (List.mem_append.2 (.inr (hlentF s h6)))).1
        · refine .inl ⟨hs, hb, fun hf => ?_⟩
          rcases hF0 _ (hM1.ob_lt hOs) hf with h5 | h5
          · exact (hM1.ob_nf hOs).1 h5
          · exact hb h5) hM1.obne
      (fun r x hr => .inl ⟨hr, fun hL b hb => ⟨fun hm => hbsrow b hm r hL hb, fun hf => by
        rcases hF0 b (hM1.row_lt hL hb) hf with h5 | h5
        · exact (hM1.row_nf hL hb).1 h5
        · exact hbsrow b h5 r hL hb⟩⟩) hM1.rowne hM1.rowob
    have hI : Inv E { g1 with F := F' } st1 (slots (as ++ caps)) (bo ++ bv) := by
      have hm : ∀ x, x ∈ bo ++ bv → x ∈ bv ++ bo := fun x hx => by
        rcases List.mem_append.1 hx with h | h <;> simp [h]
      refine ⟨?_, fun b hb => (hex b (hm b hb)).1, fun b hb => ?_, fun b hb r hr he => ?_, fun b hb s hs he => ?_⟩
      · rw [List.nodup_append] at hnd ⊢
        exact ⟨hnd.2.1, hnd.1, fun x hx y hy h => hnd.2.2 y hy x hx h.symm⟩
      · rcases (hex b (hm b hb)).2 with h5 | h5
        · exact .inl (Nat.le_trans hM1.sizes h5)
        · by_cases hlt : b < E.w0.heap.size
          · exact .inr (hbsX b h5 hlt)
          · exact .inl (by omega)
      · rcases (hex b (hm b hb)).2 with h5 | h5
        · exact absurd (hM1.row_lt hr he) (by omega)
        · exact hbsrow b h5 r hr he
      · rcases (hex b (hm b hb)).2 with h5 | h5
        · exact absurd (hM1.ob_lt hs) (by have : g1.ob s = b := he; omega)
        · exact (hbsob b h5 s hs he).2
    have hA2 : ArgsR { g1 with F := F' } (as ++ caps) vs (args.toList.map a.eval ++ vcaps) := hA1.congr' (g := g1) (g1 := { g1 with F := F' }) rfl
    obtain ⟨st2, g2, hM3, hE3, hF3, ht3, h6, hI3⟩ := recvOuts_run (w := w') hM2 hA2 hO hI hr
    obtain ⟨rfl, rfl⟩ := ret_inv h6
    have hext := (hE1.trans hE2).trans hE3
    have hobj : st.O s ∧ (args.toList.map a.eval ++ vcaps)[0]? = some (.pointer (some ⟨g.ob s, 0, none⟩)) := by
      obtain ⟨u, hu1, hu2⟩ := hus 0 (.obj s 0) (by rw [← List.head?_eq_getElem?]; exact hhd)
      cases hu2 with
      | obj _ _ hs => exact ⟨hs, hu1⟩
    have hb0 : g.ob s = b0 := by
      rw [List.head?_eq_getElem?, hobj.2] at hhead
      injection hhead with h; injection h with h; injection h with h; injection h
    obtain ⟨hO2, hob2⟩ := hext.O s hobj.1
    refine ⟨g2, hM3, ?_, hext, ht3.trans hL1.tm⟩
    rw [hveq, ← hb0, ← hob2]
    exact .obj s off hO2
end
end Go.Tm
