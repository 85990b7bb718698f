/- Calls whose arguments are only lent for reading: the caller keeps its rows. -/
import Derived.Test.YtohcknmdebahiaaGreatDoorTm16
set_option linter.unusedVariables false
set_option linter.unusedSimpArgs false
namespace Go.Tm
open Go.RowKit

section
variable {P : Program} {E : En} [Tb P E] {g : Gh} {st st' : St} {a : Act} {w : World}

/-- All that is only read, and the rows of one's own besides. -/
def Gh.all (g : Gh) (st : St) (b : Nat) : Prop := g.F b ∨ (∃ r, st.L r ∧ (g.rw r).ownBlock = some b) ∨ (g.sh = false ∧ g.D b)

theorem Mem.all_lt (hM : Mem E g st w) {b : Nat} (hb : g.all st b) : b < w.heap.size := by
  rcases hb with hb | ⟨r, hL, hb⟩ | ⟨_, hb⟩
  · exact (hM.F b hb).1
  · exact hM.row_lt hL hb
  · exact Nat.lt_of_lt_of_le (hM.dep b hb).2.1 hM.sizes
theorem peekT_run {α : Type} {x : A} {k : T → MA α} {y : α} {v : Value} (hM : Mem E g st w) (hv : VR w g st.O st.R x v) (h : (x.peekT k).run st = some (y, st')) : ∃ t, (k t).run st = some (y, st') ∧ Rd w (g.all st) t v := by
  cases hv with
  | t x v h1 => exact ⟨x, h, h1.mono (fun _ _ => rfl) (fun _ h => .inl h)⟩
  | ext s x v hs h1 =>
    cases s with
    | true => simp [A.peekT, MA.run] at h
    | false => exact ⟨x, h, h1.rd (hM.now hs) (fun _ h => .inr (.inr ⟨hs, h⟩))⟩
  | nil => exact ⟨_, h, .sl0 _ _ _ (by first | assumption | exact fun _ => rfl | (intro h; cases h))⟩
  | own r hr =>
    simp only [A.peekT, MA.run] at h
    cases hx : st.rw r with
    | none => simp [hx, MA.run] at h
    | some x =>
      cases x with
      | live e sz rows =>
        simp only [hx] at h
        exact ⟨_, h, (hM.row r _ hx).rd _ (fun _ h => .inl h) (fun b hb => .inr (.inl ⟨r, ⟨e, sz, rows, hx⟩, hb⟩))⟩
      | frz sz rows =>
        simp only [hx] at h
        exact ⟨_, h, Rd.mono (hM.row r _ hx) (fun _ _ => rfl) (fun _ h => .inl h)⟩
      | gone => simp [hx, MA.run] at h
  | _ => simp [A.peekT, MA.run] at h

theorem peekTs_run {α : Type} : ∀ {l : List A} {k : List T → MA α} {y : α} {vs : List Value}, Mem E g st w → vs.length = l.length → (∀ (j : Nat) (x : A), l[j]? = some x → ∃ u, vs[j]? = some u ∧ VR w g st.O st.R x u) → (A.peekTs l k).run st = some (y, st') →
    ∃ ts, (k ts).run st = some (y, st') ∧ CVs w (g.all st) (ts.map .t) vs []
  | [], k, y, vs, hM, hl, hv, h => by
    have : vs = [] := List.eq_nil_of_length_eq_zero hl
    subst this
    exact ⟨[], h, .nil⟩
  | x :: l, k, y, vs, hM, hl, hv, h => by
    obtain ⟨v, vs, rfl⟩ : ∃ v vs', vs = v :: vs' := by
      cases vs with
      | nil => simp at hl
      | cons v vs => exact ⟨v, vs, rfl⟩
    obtain ⟨u, hu, hx⟩ := hv 0 x rfl
    simp at hu
    subst hu
    obtain ⟨t, h1, hr⟩ := peekT_run hM hx h
    obtain ⟨ts, h2, hc⟩ := peekTs_run hM (by simpa using hl) (fun j y hy => by
      obtain ⟨u, hu, hx⟩ := hv (j + 1) y (by simpa using hy)
      exact ⟨u, by simpa using hu, hx⟩) h1
    exact ⟨t :: ts, h2, .cons _ _ [] _ _ [] (.t _ _ hr) hc⟩

mutual
theorem peekV_run {α : Type} : ∀ (x : A) {k : V → MA α} {y : α} {v : Value}, Mem E g st w → VR w g st.O st.R x v → (A.peekV x k).run st = some (y, st') → ∃ c, (k c).run st = some (y, st') ∧ VV w (g.all st) c v [] := by
  intro x k y v hM hv h
  unfold A.peekV at h
  split at h
  · rename_i l
    cases hv with
    | agg l vs hl hx =>
      obtain ⟨ts, h1, hc⟩ := peekTs_run hM hl.symm (fun j x hj => ⟨_, List.getElem?_eq_getElem (by rw [← hl]; exact (List.getElem?_eq_some_iff.1 hj).1), hx j x _ hj (List.getElem?_eq_getElem (by rw [← hl]; exact (List.getElem?_eq_some_iff.1 hj).1))⟩) h
      exact ⟨_, h1, .agg _ vs [] hc⟩
  · rename_i ts
    cases hv with
    | fadr cells b off u hF hx hr => exact ⟨_, h, .fptr ts b off u (.inl hF) hx (fun j x hj => (hr j x hj).mono (fun _ _ => rfl) (fun _ h => .inl h))⟩
  · rename_i f caps
    cases hv with
    | clo f caps vs hl hx =>
      obtain ⟨cs, h1, hc⟩ := peekVs_run caps hM hl.symm (fun j x hj => ⟨_, List.getElem?_eq_getElem (by rw [← hl]; exact (List.getElem?_eq_some_iff.1 hj).1), hx j x _ hj (List.getElem?_eq_getElem (by rw [← hl]; exact (List.getElem?_eq_some_iff.1 hj).1))⟩) h
      exact ⟨_, h1, .clo f cs vs [] hc⟩
  · obtain ⟨t, h1, hr⟩ := peekT_run hM hv h
    exact ⟨_, h1, .one _ v [] (.t _ _ hr)⟩
theorem peekVs_run {α : Type} : ∀ (l : List A) {k : List V → MA α} {y : α} {vs : List Value}, Mem E g st w → vs.length = l.length → (∀ (j : Nat) (x : A), l[j]? = some x → ∃ u, vs[j]? = some u ∧ VR w g st.O st.R x u) → (A.peekVs l k).run st = some (y, st') → ∃ cs, (k cs).run st = some (y, st') ∧ VVs w (g.all st) cs vs []
  | [], k, y, vs, hM, hl, hv, h => by
    have : vs = [] := List.eq_nil_of_length_eq_zero hl
    subst this
    unfold A.peekVs at h
    exact ⟨[], h, .nil⟩
  | x :: l, k, y, vs, hM, hl, hv, h => by
    obtain ⟨v, vs, rfl⟩ : ∃ v vs', vs = v :: vs' := by
      cases vs with
      | nil => simp at hl
      | cons v vs => exact ⟨v, vs, rfl⟩
    obtain ⟨u, hu, hx⟩ := hv 0 x rfl
    simp at hu
    subst hu
    unfold A.peekVs at h
    obtain ⟨c, h1, hc⟩ := peekV_run x hM hx h
    obtain ⟨cs, h2, hcs⟩ := peekVs_run l hM (by simpa using hl) (fun j y hy => by
      obtain ⟨u, hu, hx⟩ := hv (j + 1) y (by simpa using hy)
      exact ⟨u, by simpa using hu, hx⟩) h1
    exact ⟨c :: cs, h2, .cons _ _ [] _ _ [] hc hcs⟩
end

theorem Rd.sc {F F' : Nat → Prop} {x : T} {v : Value} (h : Rd w F x v) (hx : x.sc = true) : Rd w F' x v := by
  cases h with
  | int k n => exact .int k n
  | bool b => exact .bool b
  | str s => exact .str s
  | nilf => exact .nilf
  | sl0 | sl => cases hx
theorem CV.plain {F F' : Nat → Prop} {c : C} {v : Value} {bs : List Nat} (h : CV w F c v bs) (hc : c.plain) : CV w F' c v bs := by
  cases h with
  | t x v h => exact .t x v (h.sc hc)
  | nil => exact .nil
  | ow e sz rows v inner ho hr =>
    exact .ow e sz rows v inner ho ⟨hr.size, hr.len, fun i row j x hi hj => by
      obtain ⟨u, hu, h1, h2⟩ := hr.rd i row j x hi hj
      exact ⟨u, hu, h1, h2.sc (hc row (List.mem_of_getElem? hi) x (List.mem_of_getElem? hj))⟩⟩
theorem CVs.plain {F F' : Nat → Prop} {cs : List C} {vs : List Value} {bs : List Nat} (h : CVs w F cs vs bs) (hc : ∀ c ∈ cs, c.plain) : CVs w F' cs vs bs := by
  induction h with
  | nil => exact .nil
  | cons c v b cs vs bs h hs ih => exact .cons c v b cs vs bs (h.plain (hc c (by simp))) (ih (fun c h => hc c (by simp [h])))
mutual
theorem VV.plain {F F' : Nat → Prop} : ∀ {x : V} {v : Value} {bs : List Nat}, VV w F x v bs → x.plain → VV w F' x v bs
  | _, _, _, .one c v bs h, hp => .one c v bs (h.plain (by unfold V.plain at hp; exact hp))
  | _, _, _, .agg l vs bs h, hp => .agg l vs bs (h.plain (by unfold V.plain at hp; exact hp))
  | _, _, _, .tup l vs bs h, hp => .tup l vs bs (h.plain (by unfold V.plain at hp; exact hp))
  | _, _, _, .ptr cells b arr e vs bs h1 h2 h3 h, hp => by unfold V.plain at hp; exact hp.elim
  | _, _, _, .fptr cells b off u h1 h2 h3, hp => by unfold V.plain at hp; exact hp.elim
  | _, _, _, .clo f caps vs bs h, hp => by unfold V.plain at hp; exact hp.elim
theorem VVs.plain {F F' : Nat → Prop} : ∀ {l : List V} {vs : List Value} {bs : List Nat}, VVs w F l vs bs → V.plains l → VVs w F' l vs bs
  | _, _, _, .nil, hp => .nil
  | _, _, _, .cons x v b l vs bs h hs, hp => .cons x v b l vs bs (h.plain (by unfold V.plains at hp; exact hp.1)) (hs.plain (by unfold V.plains at hp; exact hp.2))
end

theorem callB_sound {n d f : Nat} {o : Oper} {xf : Operand} {args : Array Operand} {ts : Array TypeId} {caps as : List A} {vs : List V} {res : V} {x : A}
    (hS : Sim E g n st a w) (ho : o.op = .call { callee := .value xf, args, argTypes := ts }) (hf : st.eval xf = some (.clo f caps)) (has : allSome (args.toList.map st.eval) = some as)
    (hp : (A.peekVs (as ++ caps) MA.ret).run st = some (vs, st)) (hc : CallOK P f vs res []) (hpl : res.plain) (hr : (V.toA d (tokR d 0) res MA.ret).run st = some (x, st')) :
    Goes P o a w fun v w' => ∃ g', Aft E g st w x st' v g' w' := by
  have hM := hS.mem
  obtain ⟨hcl, hcc⟩ := hc
  have hvf := eval_VR hS hf
  generalize hvv : a.eval xf = vf at hvf
  cases hvf with
  | clo f caps vcaps hl hx =>
    refine Goes.of_calls ho hvv hcl ?_
    obtain ⟨ha1, ha2⟩ := evs_VR hS has
    obtain ⟨cs, h1, hVV⟩ := peekVs_run (vs := args.toList.map a.eval ++ vcaps) (as ++ caps) hM (by simp [← ha1, hl]) (fun j y hj => by
      rw [List.getElem?_append] at hj
      split at hj
      · rename_i hlt
        have hlt' : j < (args.toList.map a.eval).length := by rw [← ha1]; exact hlt
        exact ⟨_, by rw [List.getElem?_append_left hlt']; exact List.getElem?_eq_getElem hlt', ha2 j y _ hj (List.getElem?_eq_getElem hlt')⟩
      · rename_i hge
        have hlt : j - as.length < vcaps.length := by rw [← hl]; exact (List.getElem?_eq_some_iff.1 hj).1
        exact ⟨_, by rw [List.getElem?_append_right (by rw [← ha1]; omega), ← ha1]; exact List.getElem?_eq_getElem hlt, hx _ y _ hj (List.getElem?_eq_getElem hlt)⟩) hp
    obtain ⟨rfl, _⟩ := ret_inv h1
    refine (hcc w (g.all st) _ [] (fun b hb => ?_) hVV List.nodup_nil (by simp) (hM.tbW fun b _ _ _ h => by cases h)).mono fun e w' ⟨v, F', bv, bo, he, hcalm, hsame, hFF, hF', hvr, hO, hnd, hex⟩ => ⟨v, he, ?_⟩
    · exact hM.all_lt hb
    obtain ⟨hM2, hE2⟩ := hM.grow hcalm (fun b hb => hsame b hb (by simp))
    have hbv : ∀ b ∈ bv, w.heap.size ≤ b := fun b hb => ((hex b (by simp [hb])).2).resolve_right (by simp)
    obtain ⟨x', st3, g3, hG, h7, hvx⟩ := V_toA_run (w := w') res hM2 (hvr.plain (F' := g.F) hpl) (List.nodup_append.1 hnd).1 (fun b hb => by
      obtain ⟨h8, h9, h10⟩ := new_free hM (hbv b hb)
      exact ⟨h8, h9, h10, .inl (Nat.le_trans hM.sizes (hbv b hb))⟩) hr
    obtain ⟨rfl, rfl⟩ := ret_inv h7
    exact ⟨g3, hG.mem, hvx, hE2.trans hG.ext, hG.tm⟩
/-- THE CONTRACT of a function that gives an address within the variable that it is lent first. -/
def IntoOK (P : Program) (f : FuncId) (args : List V) (off : Nat) (outs : List (List C)) : Prop :=
  Callable P f ∧ ∀ (w : World) (F : Nat → Prop) (vs : List Value) (bs : List Nat), (∀ b, F b → b < w.heap.size) → VVs w F args vs bs → bs.Nodup → (∀ b ∈ bs, ¬ F b) → TbW P w (fun b => b ∈ bs) →
    Calls P f vs.toArray w fun e w' => ∃ v F' bo b0, e = .returned v ∧ vs.head? = some (.pointer (some ⟨b0, 0, none⟩)) ∧ v = .pointer (some ⟨b0, off, none⟩) ∧ Calm w w' ∧ (∀ b, b < w.heap.size → b ∉ bs → w'.heap[b]? = w.heap[b]?) ∧ (∀ b, F b → F' b) ∧
      (∀ b, F' b → b < w'.heap.size ∧ (b < w.heap.size → F b ∨ b ∈ bs) ∧ (F b ∨ Wr w' b)) ∧ Outs w' F' args vs outs bo ∧ bo.Nodup ∧ ∀ b ∈ bo, ¬ F' b ∧ (w.heap.size ≤ b ∨ b ∈ bs)
theorem callI_sound {n d f : Nat} {m : Bool} {p : Nat → Bool} {o : Oper} {xf : Operand} {args : Array Operand} {ts : Array TypeId} {caps as : List A} {vs : List V} {st1 : St} {outs : List (List C)} {x : A} {s off : Nat}
    (hS : Sim E g n st a w) (ho : o.op = .call { callee := .value xf, args, argTypes := ts }) (hf : st.eval xf = some (.clo f caps)) (has : allSome (args.toList.map st.eval) = some as)
    (hp : (passA m p (as ++ caps) MA.ret).run st = some (vs, st1)) (hc : IntoOK P f vs off outs) (hhd : (as ++ caps).head? = some (.obj s 0)) (hr : (recvOuts d (slots (as ++ caps)) outs (MA.ret (.obj s off))).run st1 = some (x, st')) :
    Goes P o a w fun v w' => ∃ g', Aft E g st w x st' v g' w' := by
  have hM := hS.mem
  obtain ⟨hcl, hcc⟩ := hc
  have hvf := eval_VR hS hf
  generalize hvv : a.eval xf = vf at hvf
  cases hvf with
  | clo f caps vcaps hl hx =>
    refine Goes.of_calls ho hvv hcl ?_
    obtain ⟨ha1, ha2⟩ := evs_VR hS has
    have hus : ∀ (j : Nat) (y : A), (as ++ caps)[j]? = some y → ∃ v, (args.toList.map a.eval ++ vcaps)[j]? = some v ∧ VR w g st.O st.R y v := by
      intro j y hj
      rw [List.getElem?_append] at hj
      split at hj
      · rename_i hlt
        have hlt' : j < (args.toList.map a.eval).length := by rw [← ha1]; exact hlt
        exact ⟨_, by rw [List.getElem?_append_left hlt']; exact List.getElem?_eq_getElem hlt', ha2 j y _ hj (List.getElem?_eq_getElem hlt')⟩
      · rename_i hge
        have hlt : j - as.length < vcaps.length := by rw [← hl]; exact (List.getElem?_eq_some_iff.1 hj).1
        exact ⟨_, by rw [List.getElem?_append_right (by rw [← ha1]; omega), ← ha1]; exact List.getElem?_eq_getElem hlt, hx _ y _ hj (List.getElem?_eq_getElem hlt)⟩
    obtain ⟨cs, st1', g1, bs, hM1, hE1, hL1, h1, hVV, hT, hA, hsl⟩ := passA_run (vs := args.toList.map a.eval ++ vcaps) (as ++ caps) hM (by simp [← ha1, hl]) hus hp
    obtain ⟨rfl, rfl⟩ := ret_inv h1
    have hbsX : ∀ b ∈ bs, b < E.w0.heap.size → E.X b := fun b hb hlt => by
      rcases hT.of b hb with ⟨r, h2, _, h4⟩ | ⟨s, ⟨c, cs, h2⟩, _, h4⟩
      · rcases (hM.row_nf h2 h4).2 with h5 | h5
        · omega
        · exact h5
      · rcases (hM.ob_nf (s := s) (by simp [St.O, h2])).2 with h5 | h5
        · omega
        · exact h4 ▸ h5
    refine (hcc w g1.F _ bs (fun b hb => (hM1.F b hb).1) hVV hT.nodup hT.nf (hM.tbW fun b h1 h2 _ h3 => h2 (hbsX b h3 h1))).mono fun e w' ⟨v, F', bo, b0, he, hhead, hveq, hcalm, hsame, hFF, hF', hO, hnd0, hex0⟩ => ⟨v, he, ?_⟩
    obtain ⟨bv, hbv⟩ : ∃ bv : List Nat, bv = [] := ⟨[], rfl⟩
    have hnd : (bv ++ bo).Nodup := by rw [hbv]; exact hnd0
    have hex : ∀ b ∈ bv ++ bo, ¬ F' b ∧ (w.heap.size ≤ b ∨ b ∈ bs) := by rw [hbv]; exact hex0
    -- the caller's memory behind the call
    have hbsrow : ∀ b ∈ bs, ∀ r, st1.L r → (g1.rw r).ownBlock ≠ some b := fun b hb r hr he => by
      rw [hL1.rw] at he
      rcases hT.of b hb with ⟨r', h2, h3, h4⟩ | ⟨s, ⟨c, cs, h2⟩, _, h4⟩
      · exact h3 (hM.rowne r r' b (hL1.L r hr) h2 he h4 ▸ hr)
      · exact hM.rowob r s (hL1.L r hr) (by simp [St.O, h2]) (h4 ▸ he)
    have hbsob : ∀ b ∈ bs, ∀ s, st1.O s → g1.ob s = b → st1.ob s = some [] ∧ s ∈ slots (as ++ caps) := fun b hb s hs he => by
      rw [hL1.ob] at he
      have hs' : st.O s := (hL1.O s).1 hs
      rcases hT.of b hb with ⟨r', h2, h3, h4⟩ | ⟨s', ⟨c, cs, h2⟩, h3, h4⟩
      · exact absurd (he ▸ h4) (hM.rowob r' s h2 hs')
      · have := hM.obne s s' hs' (by simp [St.O, h2]) (he.trans h4.symm)
        subst this
        exact ⟨h3, hsl s (by rw [h3, h2]; simp)⟩
    have hF0 : ∀ b, b < w.heap.size → F' b → g1.F b ∨ b ∈ bs := fun b h2 h3 => (hF' b h3).2.1 h2
    have hA1 : ArgsR g1 (as ++ caps) vs (args.toList.map a.eval ++ vcaps) := hA.congr' hL1.ob
    have hexF : ∀ b ∈ bs, F' b → False ∨ True := fun _ _ _ => .inr trivial
    have hlentF : ∀ s, s ∈ slots (as ++ caps) → g1.ob s ∈ bo := Outs.mem hA1 hO
    obtain ⟨hM2, hE2⟩ := hM1.step (w' := w') (g' := { g1 with F := F' }) (st' := st1) hcalm (fun b => b ∈ bs) (fun b h2 h3 => hsame b h2 h3) (fun b hb => hT.nf b hb) (fun b h2 h3 => hbsX b h3 h2) hFF
      (fun b h2 h3 => ⟨(hF' b h2).1, fun hlt => (hF0 b (Nat.lt_of_lt_of_le hlt hM1.sizes) h2).elim (fun h4 => absurd h4 h3) (fun h4 => .inr (hbsX b h4 hlt)), .inr ((hF' b h2).2.2.resolve_left h3)⟩) (fun _ h => ⟨h, rfl⟩) (fun _ h => ⟨h, rfl⟩)
      (fun s cells hs => by
        have hOs : st1.O s := by simp [St.O, hs]
        by_cases hb : g1.ob s ∈ bs
        · obtain ⟨h5, h6⟩ := hbsob _ hb s hOs rfl
          rw [hs] at h5
          cases h5
          obtain ⟨arr, e, hh⟩ := Outs.head hA1 hO s h6
          refine .inr ⟨arr, e, hh, by simp, by simp, ?_, (hM1.ob_nf hOs).2⟩
          exact (hex _ (List.mem_append.2 (.inr (hlentF s h6)))).1
        · refine .inl ⟨hs, hb, fun hf => ?_⟩
          rcases hF0 _ (hM1.ob_lt hOs) hf with h5 | h5
          · exact (hM1.ob_nf hOs).1 h5
          · exact hb h5) hM1.obne
      (fun r x hr => .inl ⟨hr, fun hL b hb => ⟨fun hm => hbsrow b hm r hL hb, fun hf => by
        rcases hF0 b (hM1.row_lt hL hb) hf with h5 | h5
        · exact (hM1.row_nf hL hb).1 h5
        · exact hbsrow b h5 r hL hb⟩⟩) hM1.rowne hM1.rowob
    have hI : Inv E { g1 with F := F' } st1 (slots (as ++ caps)) (bo ++ bv) := by
      have hm : ∀ x, x ∈ bo ++ bv → x ∈ bv ++ bo := fun x hx => by
        rcases List.mem_append.1 hx with h | h <;> simp [h]
      refine ⟨?_, fun b hb => (hex b (hm b hb)).1, fun b hb => ?_, fun b hb r hr he => ?_, fun b hb s hs he => ?_⟩
      · rw [List.nodup_append] at hnd ⊢
        exact ⟨hnd.2.1, hnd.1, fun x hx y hy h => hnd.2.2 y hy x hx h.symm⟩
      · rcases (hex b (hm b hb)).2 with h5 | h5
        · exact .inl (Nat.le_trans hM1.sizes h5)
        · by_cases hlt : b < E.w0.heap.size
          · exact .inr (hbsX b h5 hlt)
          · exact .inl (by omega)
      · rcases (hex b (hm b hb)).2 with h5 | h5
        · exact absurd (hM1.row_lt hr he) (by omega)
        · exact hbsrow b h5 r hr he
      · rcases (hex b (hm b hb)).2 with h5 | h5
        · exact absurd (hM1.ob_lt hs) (by have : g1.ob s = b := he; omega)
        · exact (hbsob b h5 s hs he).2
    have hA2 : ArgsR { g1 with F := F' } (as ++ caps) vs (args.toList.map a.eval ++ vcaps) := hA1.congr' (g := g1) (g1 := { g1 with F := F' }) rfl
    obtain ⟨st2, g2, hM3, hE3, hF3, ht3, h6, hI3⟩ := recvOuts_run (w := w') hM2 hA2 hO hI hr
    obtain ⟨rfl, rfl⟩ := ret_inv h6
    have hext := (hE1.trans hE2).trans hE3
    have hobj : st.O s ∧ (args.toList.map a.eval ++ vcaps)[0]? = some (.pointer (some ⟨g.ob s, 0, none⟩)) := by
      obtain ⟨u, hu1, hu2⟩ := hus 0 (.obj s 0) (by rw [← List.head?_eq_getElem?]; exact hhd)
      cases hu2 with
      | obj _ _ hs => exact ⟨hs, hu1⟩
    have hb0 : g.ob s = b0 := by
      rw [List.head?_eq_getElem?, hobj.2] at hhead
      injection hhead with h; injection h with h; injection h with h; injection h
    obtain ⟨hO2, hob2⟩ := hext.O s hobj.1
    refine ⟨g2, hM3, ?_, hext, ht3.trans hL1.tm⟩
    rw [hveq, ← hb0, ← hob2]
    exact .obj s off hO2

/-- THE CONTRACT of a function whose result is made of new blocks alone: it only reads. -/
def DOK (P : Program) (f : FuncId) (args : List V) (res : V) : Prop :=
  Callable P f ∧ ∀ (w : World) (D : Nat → Prop) (vs : List Value), (∀ b, D b → b < w.heap.size) → VVs w D args vs [] → TbW P w (fun _ => False) →
    Calls P f vs.toArray w fun e w' => ∃ v F' bv, e = .returned v ∧ Calm w w' ∧ (∀ b, b < w.heap.size → w'.heap[b]? = w.heap[b]?) ∧
      (∀ b, F' b → b < w'.heap.size ∧ w.heap.size ≤ b ∧ Wr w' b) ∧ VV w' F' res v bv ∧ bv.Nodup ∧ ∀ b ∈ bv, ¬ F' b ∧ w.heap.size ≤ b
theorem callD_sound {n d f : Nat} {o : Oper} {xf : Operand} {args : Array Operand} {ts : Array TypeId} {caps as : List A} {vs : List V} {res : V} {x : A}
    (hS : Sim E g n st a w) (ho : o.op = .call { callee := .value xf, args, argTypes := ts }) (hf : st.eval xf = some (.clo f caps)) (has : allSome (args.toList.map st.eval) = some as)
    (hp : (A.peekVs (as ++ caps) MA.ret).run st = some (vs, st)) (hc : DOK P f vs res) (hr : (V.toA d (tokR d 0) res MA.ret).run st = some (x, st')) :
    Goes P o a w fun v w' => ∃ g', Aft E g st w x st' v g' w' := by
  have hM := hS.mem
  obtain ⟨hcl, hcc⟩ := hc
  have hvf := eval_VR hS hf
  generalize hvv : a.eval xf = vf at hvf
  cases hvf with
  | clo f caps vcaps hl hx =>
    refine Goes.of_calls ho hvv hcl ?_
    obtain ⟨ha1, ha2⟩ := evs_VR hS has
    obtain ⟨cs, h1, hVV⟩ := peekVs_run (vs := args.toList.map a.eval ++ vcaps) (as ++ caps) hM (by simp [← ha1, hl]) (fun j y hj => by
      rw [List.getElem?_append] at hj
      split at hj
      · rename_i hlt
        have hlt' : j < (args.toList.map a.eval).length := by rw [← ha1]; exact hlt
        exact ⟨_, by rw [List.getElem?_append_left hlt']; exact List.getElem?_eq_getElem hlt', ha2 j y _ hj (List.getElem?_eq_getElem hlt')⟩
      · rename_i hge
        have hlt : j - as.length < vcaps.length := by rw [← hl]; exact (List.getElem?_eq_some_iff.1 hj).1
        exact ⟨_, by rw [List.getElem?_append_right (by rw [← ha1]; omega), ← ha1]; exact List.getElem?_eq_getElem hlt, hx _ y _ hj (List.getElem?_eq_getElem hlt)⟩) hp
    obtain ⟨rfl, _⟩ := ret_inv h1
    refine (hcc w (g.all st) _ (fun b hb => hM.all_lt hb) hVV (hM.tbW fun _ _ _ _ h => h)).mono fun e w' ⟨v, F', bv, he, hcalm, hsame, hF', hvr, hnd, hex⟩ => ⟨v, he, ?_⟩
    obtain ⟨hM2, hE2⟩ := hM.step (w' := w') (g' := { g with F := fun b => g.F b ∨ F' b }) (st' := st) hcalm (fun _ => False) (fun b h1 _ => hsame b h1) (fun _ h => h.elim) (fun _ _ h => h.elim) (fun _ h => .inl h)
      (fun b h1 h2 => by
        obtain ⟨h3, h4, h5⟩ := hF' b (h1.resolve_left h2)
        exact ⟨h3, fun hlt => (by have := hM.sizes; omega), .inr h5⟩) (fun _ h => ⟨h, rfl⟩) (fun _ h => ⟨h, rfl⟩)
      (fun s cells hs => .inl ⟨hs, id, fun hf => by
        have hs' : st.O s := by simp [St.O, hs]
        rcases hf with hf | hf
        · exact (hM.ob_nf hs').1 hf
        · have := hM.ob_lt hs'; have := (hF' _ hf).2.1; omega⟩) hM.obne
      (fun r x hr => .inl ⟨hr, fun hL b hb' => ⟨id, fun hf => by
        rcases hf with hf | hf
        · exact (hM.row_nf hL hb').1 hf
        · have := hM.row_lt hL hb'; have := (hF' _ hf).2.1; omega⟩⟩) hM.rowne hM.rowob
    obtain ⟨x', st3, g3, hG, h7, hvx⟩ := V_toA_run (w := w') res hM2 (hvr.mono (fun _ _ => rfl) (fun _ h => .inr h) (fun _ _ => rfl)) hnd (fun b hb => by
      obtain ⟨h8, h9, h10⟩ := new_free hM (hex b hb).2
      exact ⟨fun h => h.elim h8 (hex b hb).1, h9, h10, .inl (Nat.le_trans hM.sizes (hex b hb).2)⟩) hr
    obtain ⟨rfl, rfl⟩ := ret_inv h7
    exact ⟨g3, hG.mem, hvx, hE2.trans hG.ext, hG.tm⟩

/-! ### functions that write foreign cells -/
def noP : Nat → Prop := fun _ => False
def gM (w : World) (D : Nat → Prop) : Gh := { F := noP, ob := fun _ => 0, rw := fun _ => .nilFunc, D := D, dw := w, sh := true }
def A.mk1 : A → Bool
  | .t x => x.sc
  | .ext true _ => true
  | .undef => true
  | _ => false
def A.mk : A → Bool
  | .agg l => l.all A.mk1
  | a => a.mk1
def A.isX : A → Bool
  | .ext true _ => true
  | _ => false
def A.hasX : A → Bool
  | .agg l => l.any A.isX
  | a => a.isX
/-- THE CONTRACT of a function that writes scalars into foreign cells and gives a scalar. -/
def MOK (P : Program) (f : FuncId) (as : List A) (n : T) : Prop :=
  n.sc = true ∧ Callable P f ∧ ∀ (w : World) (D : Nat → Prop) (vs : List Value), (∀ b, D b → b < w.heap.size ∧ Wr w b) → vs.length = as.length →
    (∀ (j : Nat) (x : A), as[j]? = some x → ∃ u, vs[j]? = some u ∧ VR w (gM w D) noP noP x u) → TbW P w D →
    Calls P f vs.toArray w fun e w' => ∃ v, e = .returned v ∧ Rd w' noP n v ∧ Calm w w' ∧ (∀ b, b < w.heap.size → ¬ D b → w'.heap[b]? = w.heap[b]?) ∧ ∀ b, D b → KS w w' b
theorem mk1_VR {O R : Nat → Prop} {x : A} {v : Value} (hM : Mem E g st w) (hs : g.sh = true) (h : VR w g O R x v) (hk : x.mk1 = true) : VR w (gM w g.D) noP noP x v := by
  cases h with
  | t x v h => exact .t x v (h.sc hk)
  | ext s x v hs' h =>
    rw [hs] at hs'
    subst hs'
    exact .ext true x v rfl (h.ks fun b hb => hM.nowK hs hb)
  | undef v => exact .undef v
  | _ => simp [A.mk1] at hk
theorem mk_VR {O R : Nat → Prop} {x : A} {v : Value} (hM : Mem E g st w) (hs : g.sh = true) (h : VR w g O R x v) (hk : x.mk = true) : VR w (gM w g.D) noP noP x v := by
  cases x with
  | agg l =>
    cases h with
    | agg l vs hl h => exact .agg l vs hl fun i x v hi hv => mk1_VR hM hs (h i x v hi hv) (List.all_eq_true.1 hk x (List.mem_of_getElem? hi))
  | _ => exact mk1_VR hM hs h hk
theorem hasX_sh {O R : Nat → Prop} {x : A} {v : Value} (h : VR w g O R x v) (hk : x.hasX = true) : g.sh = true := by
  have key : ∀ {x : A} {v : Value}, VR w g O R x v → x.isX = true → g.sh = true := by
    intro x v h hk
    cases h with
    | ext s x v hs' h => cases s with
      | true => exact hs'
      | false => cases hk
    | _ => cases hk
  cases x with
  | agg l =>
    cases h with
    | agg l vs hl h =>
      obtain ⟨x, hx, hk⟩ := List.any_eq_true.1 hk
      obtain ⟨i, hi⟩ := List.getElem?_of_mem hx
      have hlt : i < vs.length := by rw [← hl]; exact (List.getElem?_eq_some_iff.1 hi).1
      exact key (h i x _ hi (List.getElem?_eq_getElem hlt)) hk
  | _ => exact key h hk
theorem callM_sound {n f : Nat} {o : Oper} {xf : Operand} {args : Array Operand} {ts : Array TypeId} {as : List A} {r : T}
    (hS : Sim E g n st a w) (ho : o.op = .call { callee := .value xf, args, argTypes := ts }) (hf : st.eval xf = some (.clo f [])) (has : allSome (args.toList.map st.eval) = some as)
    (hk : as.all A.mk = true) (hx : as.any A.hasX = true) (hc : MOK P f as r) : Goes P o a w fun v w' => ∃ g', Aft E g st w (.t r) st v g' w' := by
  have hM := hS.mem
  obtain ⟨hsc, hcl, hcc⟩ := hc
  have hvf := eval_VR hS hf
  generalize hvv : a.eval xf = vf at hvf
  obtain ⟨ha1, ha2⟩ := evs_VR hS has
  have hsh : g.sh = true := by
    obtain ⟨x, hxm, hxx⟩ := List.any_eq_true.1 hx
    obtain ⟨i, hi⟩ := List.getElem?_of_mem hxm
    have hlt : i < (args.toList.map a.eval).length := by rw [← ha1]; exact (List.getElem?_eq_some_iff.1 hi).1
    exact hasX_sh (ha2 i x _ hi (List.getElem?_eq_getElem hlt)) hxx
  cases hvf with
  | clo f caps vcaps hl hx' =>
    have : vcaps = [] := List.eq_nil_of_length_eq_zero hl.symm
    subst this
    refine Goes.of_calls ho hvv hcl ?_
    rw [List.append_nil]
    refine (hcc w g.D (args.toList.map a.eval) (fun b hb => ?_) ha1.symm (fun j x hj => ?_) (hM.tbW fun b _ _ h h2 => h (by obtain ⟨h5, _, h6⟩ := hM.dep0.1; exact ⟨h6 ▸ hsh, h5 ▸ h2⟩))).mono fun e w' ⟨v, he, hr, hcalm, hsame, hks⟩ => ⟨v, he, ?_⟩
    · exact ⟨Nat.lt_of_lt_of_le (hM.dep b hb).2.1 hM.sizes, (hM.nowK hsh hb).wr⟩
    · have hlt : j < (args.toList.map a.eval).length := by rw [← ha1]; exact (List.getElem?_eq_some_iff.1 hj).1
      exact ⟨_, List.getElem?_eq_getElem hlt, mk_VR hM hsh (ha2 j x _ hj (List.getElem?_eq_getElem hlt)) (List.all_eq_true.1 hk x (List.mem_of_getElem? hj))⟩
    obtain ⟨hM2, hE2⟩ := hM.stepD hsh hcalm hsame hks
    exact ⟨g, hM2, .t _ _ (hr.sc hsc), hE2, rfl⟩

/-! ### a row that is written in place -/
/-- THE CONTRACT of a function that writes its first parameter's elements, and gives a scalar. -/
def ROK (P : Program) (f : FuncId) (e sz : Nat) (rows : List (List T)) (args : List V) (res : T) (rows' : List (List T)) : Prop :=
  res.sc = true ∧ Callable P f ∧ ∀ (w : World) (F : Nat → Prop) (v : Value) (vs : List Value) (inner : List Value), (∀ b, F b → b < w.heap.size) → w.ownsRow 0 e sz v rows.length inner → RCs w F sz rows inner →
    (∀ b, v.ownBlock = some b → ¬ F b) → VVs w F args vs [] → TbW P w (fun b => v.ownBlock = some b) →
    Calls P f (v :: vs).toArray w fun ex w' => ∃ u inner', ex = .returned u ∧ Rd w' noP res u ∧ Calm w w' ∧ (∀ b, b < w.heap.size → v.ownBlock ≠ some b → w'.heap[b]? = w.heap[b]?) ∧
      w'.ownsRow 0 e sz v rows'.length inner' ∧ RCs w' F sz rows' inner'
theorem callR_sound {n f r e sz : Nat} {rows rows' : List (List T)} {o : Oper} {xf : Operand} {args : Array Operand} {ts : Array TypeId} {as : List A} {vs : List V} {res : T}
    (hS : Sim E g n st a w) (ho : o.op = .call { callee := .value xf, args, argTypes := ts }) (hf : st.eval xf = some (.clo f [])) (has : allSome (args.toList.map st.eval) = some (.own r :: as))
    (hrw : st.rw r = some (.live e sz rows)) (hp : (A.peekVs as MA.ret).run st = some (vs, st)) (hpl : V.plains vs) (hc : ROK P f e sz rows vs res rows') :
    Goes P o a w fun v w' => ∃ g', Aft E g st w (.t res) { st with rw := upd st.rw r (some (.live e sz rows')) } v g' w' := by
  have hM := hS.mem
  obtain ⟨hsc, hcl, hcc⟩ := hc
  have hvf := eval_VR hS hf
  generalize hvv : a.eval xf = vf at hvf
  obtain ⟨ha1, ha2⟩ := evs_VR hS has
  have hL : st.L r := ⟨e, sz, rows, hrw⟩
  cases hvf with
  | clo f caps vcaps hl hx' =>
    have : vcaps = [] := List.eq_nil_of_length_eq_zero hl.symm
    subst this
    refine Goes.of_calls ho hvv hcl ?_
    rw [List.append_nil]
    generalize args.toList.map a.eval = us at ha1 ha2
    match us, ha1 with
    | u0 :: us, ha1 =>
      have h0 := ha2 0 (.own r) u0 rfl rfl
      cases h0 with
      | own _ hR =>
      obtain ⟨cs, h1, hVV⟩ := peekVs_run (vs := us) as hM (by simpa using ha1.symm) (fun j y hj => by
        have hlt : j < us.length := by
          have := (List.getElem?_eq_some_iff.1 hj).1
          simp at ha1; omega
        exact ⟨_, List.getElem?_eq_getElem hlt, ha2 (j + 1) y _ (by simpa using hj) (by simp)⟩) hp
      obtain ⟨rfl, _⟩ := ret_inv h1
      obtain ⟨inner, hown, hRC, _⟩ := (hM.row r _ hrw).rcs
      refine (hcc w g.F (g.rw r) us inner (fun b hb => (hM.F b hb).1) hown hRC (fun b hb => (hM.row_nf hL hb).1) (hVV.plain hpl) (hM.tbW fun b h1 h2 _ h3 => (hM.row_nf hL h3).2.elim (fun h => absurd h1 (Nat.not_lt.2 h)) h2)).mono fun ex w' ⟨u, inner', he, hu, hcalm, hsame, hown', hRC'⟩ => ⟨u, he, ?_⟩
      obtain ⟨hM2, hE2⟩ := hM.set_row hcalm r _ e sz rows' hrw hL hsame (hRC'.rowAt (E := E) (g := g) hown' (fun b hb => hM.row_nf hL hb))
      exact ⟨g, hM2, .t _ _ (hu.sc hsc), hE2, rfl⟩
end
end Go.Tm
