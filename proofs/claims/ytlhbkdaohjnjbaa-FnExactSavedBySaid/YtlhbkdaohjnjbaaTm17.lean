/- Calls whose arguments are only lent for reading: the caller keeps its rows. -/
import Derived.Test.YtlhbkdaohjnjbaaTm16
set_option linter.unusedVariables false
set_option linter.unusedSimpArgs false
namespace Go.Tm
open Go.RowKit

section
variable {P : Program} {E : En} {g : Gh} {st st' : St} {a : Act} {w : World}

/-- All that is only read, and the rows of one's own besides. -/
def Gh.all (g : Gh) (st : St) (b : Nat) : Prop := g.F b ∨ ∃ r, st.L r ∧ (g.rw r).ownBlock = some b

theorem peekT_run {α : Type} {x : A} {k : T → MA α} {y : α} {v : Value} (hM : Mem E g st w) (hv : VR w g st.O st.R x v) (h : (x.peekT k).run st = some (y, st')) : ∃ t, (k t).run st = some (y, st') ∧ Rd w (g.all st) t v := by
  cases hv with
  | t x v h1 => exact ⟨x, h, h1.mono (fun _ _ => rfl) (fun _ h => .inl h)⟩
  | nil => exact ⟨_, h, .sl0 _ _ _⟩
  | own r hr =>
    simp only [A.peekT, MA.run] at h
    cases hx : st.rw r with
    | none => simp [hx, MA.run] at h
    | some x =>
      cases x with
      | live e sz rows =>
        simp only [hx] at h
        exact ⟨_, h, (hM.row r _ hx).rd _ (fun _ h => .inl h) (fun b hb => .inr ⟨r, ⟨e, sz, rows, hx⟩, hb⟩)⟩
      | frz sz rows =>
        simp only [hx] at h
        exact ⟨_, h, Rd.mono (hM.row r _ hx) (fun _ _ => rfl) (fun _ h => .inl h)⟩
      | gone => simp [hx, MA.run] at h
  | _ => simp [A.peekT, MA.run] at h

theorem peekTs_run {α : Type} : ∀ {l : List A} {k : List T → MA α} {y : α} {vs : List Value}, Mem E g st w → vs.length = l.length → (∀ (j : Nat) (x : A), l[j]? = some x → ∃ u, vs[j]? = some u ∧ VR w g st.O st.R x u) → (A.peekTs l k).run st = some (y, st') →
    ∃ ts, (k ts).run st = some (y, st') ∧ CVs w (g.all st) (ts.map .t) vs []
  | [], k, y, vs, hM, hl, hv, h => by
    have : vs = [] := List.eq_nil_of_length_eq_zero hl
    subst this
    exact ⟨[], h, .nil⟩
  | x :: l, k, y, vs, hM, hl, hv, h => by
    obtain ⟨v, vs, rfl⟩ : ∃ v vs', vs = v :: vs' := by
      cases vs with
      | nil => simp at hl
      | cons v vs => exact ⟨v, vs, rfl⟩
    obtain ⟨u, hu, hx⟩ := hv 0 x rfl
    simp at hu
    subst hu
    obtain ⟨t, h1, hr⟩ := peekT_run hM hx h
    obtain ⟨ts, h2, hc⟩ := peekTs_run hM (by simpa using hl) (fun j y hy => by
      obtain ⟨u, hu, hx⟩ := hv (j + 1) y (by simpa using hy)
      exact ⟨u, by simpa using hu, hx⟩) h1
    exact ⟨t :: ts, h2, .cons _ _ [] _ _ [] (.t _ _ hr) hc⟩

mutual
theorem peekV_run {α : Type} : ∀ (x : A) {k : V → MA α} {y : α} {v : Value}, Mem E g st w → VR w g st.O st.R x v → (A.peekV x k).run st = some (y, st') → ∃ c, (k c).run st = some (y, st') ∧ VV w (g.all st) c v [] := by
  intro x k y v hM hv h
  unfold A.peekV at h
  split at h
  · rename_i l
    cases hv with
    | agg l vs hl hx =>
      obtain ⟨ts, h1, hc⟩ := peekTs_run hM hl.symm (fun j x hj => ⟨_, List.getElem?_eq_getElem (by rw [← hl]; exact (List.getElem?_eq_some_iff.1 hj).1), hx j x _ hj (List.getElem?_eq_getElem (by rw [← hl]; exact (List.getElem?_eq_some_iff.1 hj).1))⟩) h
      exact ⟨_, h1, .agg _ vs [] hc⟩
  · rename_i ts
    cases hv with
    | fadr cells b off u hF hx hr => exact ⟨_, h, .fptr ts b off u (.inl hF) hx (fun j x hj => (hr j x hj).mono (fun _ _ => rfl) (fun _ h => .inl h))⟩
  · rename_i f caps
    cases hv with
    | clo f caps vs hl hx =>
      obtain ⟨cs, h1, hc⟩ := peekVs_run caps hM hl.symm (fun j x hj => ⟨_, List.getElem?_eq_getElem (by rw [← hl]; exact (List.getElem?_eq_some_iff.1 hj).1), hx j x _ hj (List.getElem?_eq_getElem (by rw [← hl]; exact (List.getElem?_eq_some_iff.1 hj).1))⟩) h
      exact ⟨_, h1, .clo f cs vs [] hc⟩
  · obtain ⟨t, h1, hr⟩ := peekT_run hM hv h
    exact ⟨_, h1, .one _ v [] (.t _ _ hr)⟩
theorem peekVs_run {α : Type} : ∀ (l : List A) {k : List V → MA α} {y : α} {vs : List Value}, Mem E g st w → vs.length = l.length → (∀ (j : Nat) (x : A), l[j]? = some x → ∃ u, vs[j]? = some u ∧ VR w g st.O st.R x u) → (A.peekVs l k).run st = some (y, st') → ∃ cs, (k cs).run st = some (y, st') ∧ VVs w (g.all st) cs vs []
  | [], k, y, vs, hM, hl, hv, h => by
    have : vs = [] := List.eq_nil_of_length_eq_zero hl
    subst this
    unfold A.peekVs at h
    exact ⟨[], h, .nil⟩
  | x :: l, k, y, vs, hM, hl, hv, h => by
    obtain ⟨v, vs, rfl⟩ : ∃ v vs', vs = v :: vs' := by
      cases vs with
      | nil => simp at hl
      | cons v vs => exact ⟨v, vs, rfl⟩
    obtain ⟨u, hu, hx⟩ := hv 0 x rfl
    simp at hu
    subst hu
    unfold A.peekVs at h
    obtain ⟨c, h1, hc⟩ := peekV_run x hM hx h
    obtain ⟨cs, h2, hcs⟩ := peekVs_run l hM (by simpa using hl) (fun j y hy => by
      obtain ⟨u, hu, hx⟩ := hv (j + 1) y (by simpa using hy)
      exact ⟨u, by simpa using hu, hx⟩) h1
    exact ⟨c :: cs, h2, .cons _ _ [] _ _ [] hc hcs⟩
end

theorem Rd.sc {F F' : Nat → Prop} {x : T} {v : Value} (h : Rd w F x v) (hx : x.sc = true) : Rd w F' x v := by
  cases h with
  | int k n => exact .int k n
  | bool b => exact .bool b
  | str s => exact .str s
  | nilf => exact .nilf
  | sl0 | sl => cases hx
theorem CV.plain {F F' : Nat → Prop} {c : C} {v : Value} {bs : List Nat} (h : CV w F c v bs) (hc : c.plain) : CV w F' c v bs := by
  cases h with
  | t x v h => exact .t x v (h.sc hc)
  | nil => exact .nil
  | ow e sz rows v inner ho hr =>
    exact .ow e sz rows v inner ho ⟨hr.size, hr.len, fun i row j x hi hj => by
      obtain ⟨u, hu, h1, h2⟩ := hr.rd i row j x hi hj
      exact ⟨u, hu, h1, h2.sc (hc row (List.mem_of_getElem? hi) x (List.mem_of_getElem? hj))⟩⟩
theorem CVs.plain {F F' : Nat → Prop} {cs : List C} {vs : List Value} {bs : List Nat} (h : CVs w F cs vs bs) (hc : ∀ c ∈ cs, c.plain) : CVs w F' cs vs bs := by
  induction h with
  | nil => exact .nil
  | cons c v b cs vs bs h hs ih => exact .cons c v b cs vs bs (h.plain (hc c (by simp))) (ih (fun c h => hc c (by simp [h])))
mutual
theorem VV.plain {F F' : Nat → Prop} : ∀ {x : V} {v : Value} {bs : List Nat}, VV w F x v bs → x.plain → VV w F' x v bs
  | _, _, _, .one c v bs h, hp => .one c v bs (h.plain (by unfold V.plain at hp; exact hp))
  | _, _, _, .agg l vs bs h, hp => .agg l vs bs (h.plain (by unfold V.plain at hp; exact hp))
  | _, _, _, .tup l vs bs h, hp => .tup l vs bs (h.plain (by unfold V.plain at hp; exact hp))
  | _, _, _, .ptr cells b arr e vs bs h1 h2 h3 h, hp => by unfold V.plain at hp; exact hp.elim
  | _, _, _, .fptr cells b off u h1 h2 h3, hp => by unfold V.plain at hp; exact hp.elim
  | _, _, _, .clo f caps vs bs h, hp => by unfold V.plain at hp; exact hp.elim
theorem VVs.plain {F F' : Nat → Prop} : ∀ {l : List V} {vs : List Value} {bs : List Nat}, VVs w F l vs bs → V.plains l → VVs w F' l vs bs
  | _, _, _, .nil, hp => .nil
  | _, _, _, .cons x v b l vs bs h hs, hp => .cons x v b l vs bs (h.plain (by unfold V.plains at hp; exact hp.1)) (hs.plain (by unfold V.plains at hp; exact hp.2))
end

theorem callB_sound {n d f : Nat} {o : Oper} {xf : Operand} {args : Array Operand} {ts : Array TypeId} {caps as : List A} {vs : List V} {res : V} {x : A}
    (hS : Sim E g n st a w) (ho : o.op = .call { callee := .value xf, args, argTypes := ts }) (hf : st.eval xf = some (.clo f caps)) (has : allSome (args.toList.map st.eval) = some as)
    (hp : (A.peekVs (as ++ caps) MA.ret).run st = some (vs, st)) (hc : CallOK P f vs res []) (hpl : res.plain) (hr : (V.toA d (tokR d 0) res MA.ret).run st = some (x, st')) :
    Goes P o a w fun v w' => ∃ g', Aft E g st w x st' v g' w' := by
  have hM := hS.mem
  obtain ⟨hcl, hcc⟩ := hc
  have hvf := eval_VR hS hf
  generalize hvv : a.eval xf = vf at hvf
  cases hvf with
  | clo f caps vcaps hl hx =>
    refine Goes.of_calls ho hvv hcl ?_
    obtain ⟨ha1, ha2⟩ := evs_VR hS has
    obtain ⟨cs, h1, hVV⟩ := peekVs_run (vs := args.toList.map a.eval ++ vcaps) (as ++ caps) hM (by simp [← ha1, hl]) (fun j y hj => by
      rw [List.getElem?_append] at hj
      split at hj
      · rename_i hlt
        have hlt' : j < (args.toList.map a.eval).length := by rw [← ha1]; exact hlt
        exact ⟨_, by rw [List.getElem?_append_left hlt']; exact List.getElem?_eq_getElem hlt', ha2 j y _ hj (List.getElem?_eq_getElem hlt')⟩
      · rename_i hge
        have hlt : j - as.length < vcaps.length := by rw [← hl]; exact (List.getElem?_eq_some_iff.1 hj).1
        exact ⟨_, by rw [List.getElem?_append_right (by rw [← ha1]; omega), ← ha1]; exact List.getElem?_eq_getElem hlt, hx _ y _ hj (List.getElem?_eq_getElem hlt)⟩) hp
    obtain ⟨rfl, _⟩ := ret_inv h1
    refine (hcc w (g.all st) _ [] (fun b hb => ?_) hVV List.nodup_nil (by simp)).mono fun e w' ⟨v, F', bv, bo, he, hcalm, hsame, hFF, hF', hvr, hO, hnd, hex⟩ => ⟨v, he, ?_⟩
    · rcases hb with hb | ⟨r, hL, hb⟩
      · exact (hM.F b hb).1
      · exact hM.row_lt hL hb
    obtain ⟨hM2, hE2⟩ := hM.grow hcalm (fun b hb => hsame b hb (by simp))
    have hbv : ∀ b ∈ bv, w.heap.size ≤ b := fun b hb => ((hex b (by simp [hb])).2).resolve_right (by simp)
    obtain ⟨x', st3, g3, hG, h7, hvx⟩ := V_toA_run (w := w') res hM2 (hvr.plain (F' := g.F) hpl) (List.nodup_append.1 hnd).1 (fun b hb => by
      obtain ⟨h8, h9, h10⟩ := new_free hM (hbv b hb)
      exact ⟨h8, h9, h10, .inl (Nat.le_trans hM.sizes (hbv b hb))⟩) hr
    obtain ⟨rfl, rfl⟩ := ret_inv h7
    exact ⟨g3, hG.mem, hvx, hE2.trans hG.ext, hG.tm⟩
end
end Go.Tm
