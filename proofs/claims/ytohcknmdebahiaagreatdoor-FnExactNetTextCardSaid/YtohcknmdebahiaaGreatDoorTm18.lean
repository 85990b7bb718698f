/- What an operation touches: footprints, and that nothing else matters to it. -/
import Derived.Test.YtohcknmdebahiaaGreatDoorTm17
set_option linter.unusedVariables false
set_option linter.unusedSimpArgs false
namespace Go.Tm
open Go.RowKit

/-- What may be read and written: variables, rows. -/
structure Dom where
  oR : Nat → Prop
  oW : Nat → Prop
  rR : Nat → Prop
  rW : Nat → Prop

def MA.In {α : Type} (D : Dom) : MA α → Prop
  | .ret _ => True
  | .fail => True
  | .getOb s k => D.oR s ∧ ∀ x, (k x).In D
  | .getRw r k => D.rR r ∧ ∀ x, (k x).In D
  | .setOb s _ k => D.oW s ∧ k.In D
  | .setRw r _ k => D.rW r ∧ k.In D

/-- Apart from what may be written the states agree. -/
structure Off (D : Dom) (st st' : St) : Prop where
  tm : st'.tm = st.tm
  ob : ∀ s, ¬ D.oW s → st'.ob s = st.ob s
  rw : ∀ r, ¬ D.rW r → st'.rw r = st.rw r
/-- The states agree on what may be read. -/
structure On (D : Dom) (st st' : St) : Prop where
  ob : ∀ s, D.oR s → st'.ob s = st.ob s
  rw : ∀ r, D.rR r → st'.rw r = st.rw r
/-- The states agree on what may be written. -/
structure OnW (D : Dom) (st st' : St) : Prop where
  ob : ∀ s, D.oW s → st'.ob s = st.ob s
  rw : ∀ r, D.rW r → st'.rw r = st.rw r
structure Dom.ok (D : Dom) : Prop where
  ob : ∀ s, D.oW s → D.oR s
  rw : ∀ s, D.rW s → D.rR s

theorem Off.refl (D : Dom) (st : St) : Off D st st := ⟨rfl, fun _ _ => rfl, fun _ _ => rfl⟩
theorem Off.trans {D : Dom} {a b c : St} (h : Off D a b) (h' : Off D b c) : Off D a c :=
  ⟨h'.tm.trans h.tm, fun s hs => (h'.ob s hs).trans (h.ob s hs), fun s hs => (h'.rw s hs).trans (h.rw s hs)⟩

theorem upd_on {α : Type} {f g : Nat → α} {k j : Nat} {c : α} (h : f j = g j) : upd f k c j = upd g k c j := by
  simp only [upd, h]
theorem In_run {α : Type} {D : Dom} : ∀ (m : MA α) {st st' : St} {x : α}, m.In D → m.run st = some (x, st') →
    Off D st st' ∧ ∀ st2, On D st st2 → ∃ st2', m.run st2 = some (x, st2') ∧ Off D st2 st2' ∧ On D st' st2'
  | .ret v, st, st', x, _, h => by
    obtain ⟨rfl, rfl⟩ := ret_inv h
    exact ⟨Off.refl _ _, fun st2 h2 => ⟨st2, rfl, Off.refl _ _, h2⟩⟩
  | .fail, st, st', x, _, h => (fail_inv h).elim
  | .getOb s k, st, st', x, hi, h => by
    obtain ⟨h1, h2⟩ := In_run (k (st.ob s)) (hi.2 _) h
    refine ⟨h1, fun st2 ho => ?_⟩
    simp only [MA.run, ho.ob s hi.1]
    exact h2 st2 ho
  | .getRw s k, st, st', x, hi, h => by
    obtain ⟨h1, h2⟩ := In_run (k (st.rw s)) (hi.2 _) h
    refine ⟨h1, fun st2 ho => ?_⟩
    simp only [MA.run, ho.rw s hi.1]
    exact h2 st2 ho
  | .setOb s c k, st, st', x, hi, h => by
    simp only [MA.run] at h
    obtain ⟨h1, h2⟩ := In_run k hi.2 h
    refine ⟨⟨h1.tm, fun s' hs' => ?_, h1.rw⟩, fun st2 ho => ?_⟩
    · rw [h1.ob s' hs']
      exact upd_ne _ _ _ _ (fun he => hs' (he ▸ hi.1))
    · obtain ⟨st2', h3, h4, h5⟩ := h2 { st2 with ob := upd st2.ob s (some c) } ⟨fun s' hs' => upd_on (ho.ob s' hs'), ho.rw⟩
      refine ⟨st2', h3, ⟨h4.tm, fun s' hs' => ?_, h4.rw⟩, h5⟩
      rw [h4.ob s' hs']
      exact upd_ne _ _ _ _ (fun he => hs' (he ▸ hi.1))
  | .setRw s c k, st, st', x, hi, h => by
    simp only [MA.run] at h
    obtain ⟨h1, h2⟩ := In_run k hi.2 h
    refine ⟨⟨h1.tm, h1.ob, fun s' hs' => ?_⟩, fun st2 ho => ?_⟩
    · rw [h1.rw s' hs']
      exact upd_ne _ _ _ _ (fun he => hs' (he ▸ hi.1))
    · obtain ⟨st2', h3, h4, h5⟩ := h2 { st2 with rw := upd st2.rw s (some c) } ⟨ho.ob, fun s' hs' => upd_on (ho.rw s' hs')⟩
      refine ⟨st2', h3, ⟨h4.tm, h4.ob, fun s' hs' => ?_⟩, h5⟩
      rw [h4.rw s' hs']
      exact upd_ne _ _ _ _ (fun he => hs' (he ▸ hi.1))

/-! ### the parts -/
mutual
def A.inR (Q : Nat → Prop) : A → Prop
  | .own r => Q r
  | .elem r _ _ _ => Q r
  | .sub r _ _ => Q r
  | .agg l => A.inRs Q l
  | .tup l => A.inRs Q l
  | .clo _ l => A.inRs Q l
  | _ => True
def A.inRs (Q : Nat → Prop) : List A → Prop
  | [] => True
  | a :: r => a.inR Q ∧ A.inRs Q r
end
mutual
theorem A.inR_all {Q : Nat → Prop} (h : ∀ r, Q r) : ∀ a : A, a.inR Q
  | .own r => by unfold A.inR; exact h r
  | .elem r _ _ _ => by unfold A.inR; exact h r
  | .sub r _ _ => by unfold A.inR; exact h r
  | .agg l => by unfold A.inR; exact A.inRs_all h l
  | .tup l => by unfold A.inR; exact A.inRs_all h l
  | .clo _ l => by unfold A.inR; exact A.inRs_all h l
  | .t _ | .nil | .obj _ _ | .fadr _ | .nn _ _ | .undef | .ext _ _ | .exa _ _ | .shp _ => by unfold A.inR; trivial
theorem A.inRs_all {Q : Nat → Prop} (h : ∀ r, Q r) : ∀ l : List A, A.inRs Q l
  | [] => by unfold A.inRs; trivial
  | a :: r => by unfold A.inRs; exact ⟨A.inR_all h a, A.inRs_all h r⟩
end
theorem A.inRs_mem {Q : Nat → Prop} : ∀ {l : List A}, A.inRs Q l → ∀ a ∈ l, a.inR Q
  | [], _, a, h => by simp at h
  | x :: l, hl, a, h => by
    unfold A.inRs at hl
    rcases List.mem_cons.1 h with rfl | h
    · exact hl.1
    · exact A.inRs_mem hl.2 a h
theorem A.inRs_of {Q : Nat → Prop} : ∀ {l : List A}, (∀ a ∈ l, a.inR Q) → A.inRs Q l
  | [], _ => by unfold A.inRs; trivial
  | x :: l, h => by unfold A.inRs; exact ⟨h x (by simp), A.inRs_of (fun a ha => h a (by simp [ha]))⟩
theorem A.inRs_cells {Q : Nat → Prop} {a : A} (h : a.inR Q) : A.inRs Q a.cells := by
  cases a <;> simp only [A.cells] <;> first | (unfold A.inR at h; exact h) | (unfold A.inRs; exact ⟨h, by unfold A.inRs; trivial⟩)

section
variable {D : Dom} {α : Type}
theorem toT_in {a : A} {k : T → MA α} (ha : a.inR fun r => D.rR r ∧ D.rW r) (hk : ∀ x, (k x).In D) : (a.toT k).In D := by
  cases a <;> simp only [A.toT, MA.In] <;> first | exact hk _ | trivial | skip
  unfold A.inR at ha
  refine ⟨ha.1, fun x => ?_⟩
  rcases x with _ | (_ | _ | _) <;> simp only [MA.In] <;> first | exact hk _ | exact ⟨ha.2, hk _⟩
theorem toTs_in : ∀ {l : List A} {k : List T → MA α}, A.inRs (fun r => D.rR r ∧ D.rW r) l → (∀ x, (k x).In D) → (A.toTs l k).In D
  | [], k, _, hk => hk []
  | a :: l, k, hl, hk => by
    unfold A.inRs at hl
    exact toT_in hl.1 fun x => toTs_in hl.2 fun xs => hk _
theorem relab_in {Q : Nat → Prop} {lb : List Nat} {l : List A} (h : A.inRs Q l) : A.inRs Q (relab lb l) :=
  A.inRs_of fun a ha => by
    obtain ⟨j, hj⟩ := List.getElem?_of_mem ha
    obtain ⟨y, h1, h2⟩ := relab_get lb l j a hj
    rcases h2 with rfl | ⟨_, n, rfl⟩
    · exact A.inRs_mem h _ (List.mem_of_getElem? h1)
    · unfold A.inR; trivial
theorem fillR_in {lb : List Nat} {sz : Nat} : ∀ {ps : List (Nat × A)} {rows : List (List T)} {k : List (List T) → MA α}, (∀ q ∈ ps, q.2.inR fun r => D.rR r ∧ D.rW r) → (∀ x, (k x).In D) → (fillR lb sz rows ps k).In D
  | [], rows, k, _, hk => hk _
  | (i, x) :: r, rows, k, hl, hk => by
    unfold fillR
    split
    · exact toTs_in (relab_in (A.inRs_cells (hl (i, x) (by simp)))) fun ts => fillR_in (fun q hq => hl q (by simp [hq])) hk
    · trivial
theorem rows_in {a : A} {k : Nat → List (List T) → MA α} (ha : a.inR D.rR) (hk : ∀ n x, (k n x).In D) : (a.rows k).In D := by
  unfold A.rows
  split <;> first | exact hk _ _ | trivial | skip
  · split <;> first | exact hk _ _ | trivial
  · unfold A.inR at ha
    refine ⟨ha, fun x => ?_⟩
    rcases x with _ | (_ | _ | _) <;> first | exact hk _ _ | trivial
theorem mkRow_in {r e sz : Nat} {rows : List (List T)} (h : D.rR r ∧ D.rW r) : (mkRow r e sz rows).In D := by
  refine ⟨h.1, fun x => ?_⟩
  cases x <;> first | exact ⟨h.2, trivial⟩ | trivial
theorem mkOb_in {d : Nat} {cells : List A} (h : D.oR d ∧ D.oW d) : (mkOb d cells).In D := by
  refine ⟨h.1, fun x => ?_⟩
  cases x <;> simp only
  · split <;> first | exact ⟨h.2, trivial⟩ | trivial
  · trivial
theorem toC_in {m : Bool} {a : A} {k : C → MA α} (ha : a.inR fun r => D.rR r ∧ D.rW r) (hk : ∀ x, (k x).In D) : (a.toC m k).In D := by
  unfold A.toC
  split
  · unfold A.inR at ha
    refine ⟨ha.1, fun x => ?_⟩
    rcases x with _ | (_ | _ | _) <;> first | exact hk _ | exact ⟨ha.2, hk _⟩ | trivial
  · exact hk _
  · exact toT_in ha fun x => hk _
theorem toCs_in {m : Bool} : ∀ {l : List A} {k : List C → MA α}, A.inRs (fun r => D.rR r ∧ D.rW r) l → (∀ x, (k x).In D) → (A.toCs m l k).In D
  | [], k, _, hk => hk []
  | a :: l, k, hl, hk => by
    unfold A.inRs at hl
    exact toC_in hl.1 fun x => toCs_in hl.2 fun xs => hk _
mutual
theorem toV_in {m : Bool} : ∀ {a : A} {k : V → MA α}, a.inR (fun r => D.rR r ∧ D.rW r) → (∀ x, (k x).In D) → (A.toV m a k).In D
  | .agg l, k, ha, hk => by unfold A.inR at ha; unfold A.toV; exact toCs_in ha fun _ => hk _
  | .fadr l, k, ha, hk => by unfold A.toV; exact hk _
  | .clo f l, k, ha, hk => by unfold A.inR at ha; unfold A.toV; exact toVs_in ha fun _ => hk _
  | .tup l, k, ha, hk => by unfold A.inR at ha; unfold A.toV; exact toVs_in ha fun _ => hk _
  | .t x, k, ha, hk => by unfold A.toV; exact toC_in ha fun _ => hk _
  | .nn _ _, k, ha, hk => by unfold A.toV; exact toC_in ha fun _ => hk _
  | .nil, k, ha, hk => by unfold A.toV; exact toC_in ha fun _ => hk _
  | .own x, k, ha, hk => by unfold A.toV; exact toC_in ha fun _ => hk _
  | .obj _ _, k, ha, hk => by unfold A.toV; exact toC_in ha fun _ => hk _
  | .elem _ _ _ _, k, ha, hk => by unfold A.toV; exact toC_in ha fun _ => hk _
  | .sub _ _ _, k, ha, hk => by unfold A.toV; exact toC_in ha fun _ => hk _
  | .undef, k, ha, hk => by unfold A.toV; exact toC_in ha fun _ => hk _
  | .ext _ _, k, ha, hk => by unfold A.toV; exact toC_in ha fun _ => hk _
  | .exa _ _, k, ha, hk => by unfold A.toV; exact toC_in ha fun _ => hk _
  | .shp _, k, ha, hk => by unfold A.toV; exact toC_in ha fun _ => hk _
theorem toVs_in {m : Bool} : ∀ {l : List A} {k : List V → MA α}, A.inRs (fun r => D.rR r ∧ D.rW r) l → (∀ x, (k x).In D) → (A.toVs m l k).In D
  | [], k, _, hk => by unfold A.toVs; exact hk _
  | a :: l, k, hl, hk => by unfold A.inRs at hl; unfold A.toVs; exact toV_in hl.1 fun x => toVs_in hl.2 fun xs => hk _
end
theorem obLend_in {s : Nat} {k : List C → MA α} (ho : D.oR s ∧ D.oW s) (ha : ∀ r, D.rR r ∧ D.rW r) (hk : ∀ x, (k x).In D) : (obLend s k).In D := by
  refine ⟨ho.1, fun x => ?_⟩
  rcases x with _ | (_ | ⟨c, cells⟩) <;> simp only <;> first | exact toCs_in (A.inRs_all ha _) fun x => ⟨ho.2, hk _⟩ | trivial
theorem obLendP_in {s : Nat} {k : List C → MA α} (ho : D.oR s ∧ D.oW s) (hk : ∀ x, (k x).In D) : (obLendP s k).In D := by
  refine ⟨ho.1, fun x => ?_⟩
  rcases x with _ | (_ | ⟨c, cells⟩) <;> simp only <;> first | trivial | skip
  split <;> first | exact ⟨ho.2, hk _⟩ | trivial
/-- What an argument touches. -/
def A.argIn (D : Dom) (p : Nat → Bool) : A → Prop
  | .obj s 0 => (D.oR s ∧ D.oW s) ∧ (p s = false → ∀ r, D.rR r ∧ D.rW r)
  | a => a.inR fun r => D.rR r ∧ D.rW r
theorem passA_in {m : Bool} {p : Nat → Bool} : ∀ {l : List A} {k : List V → MA α}, (∀ a ∈ l, a.argIn D p) → (∀ x, (k x).In D) → (passA m p l k).In D
  | [], k, _, hk => by unfold passA; exact hk _
  | a :: l, k, hl, hk => by
    have h0 := hl a (by simp)
    have ih : ∀ {k : List V → MA α}, (∀ x, (k x).In D) → (passA m p l k).In D := fun h => passA_in (fun a ha => hl a (by simp [ha])) h
    unfold passA
    split
    · rename_i heq; cases heq
    · rename_i heq
      injection heq with h1 h2
      subst h1 h2
      unfold A.argIn at h0
      split
      · exact obLendP_in h0.1 fun x => ih fun _ => hk _
      · rename_i hp
        exact obLend_in h0.1 (h0.2 (by simpa using hp)) fun x => ih fun _ => hk _
    · rename_i hna heq
      injection heq with h1 h2
      subst h1 h2
      refine toV_in ?_ fun x => ih fun _ => hk _
      unfold A.argIn at h0
      split at h0
      · exact absurd rfl (hna _)
      · exact h0
theorem peekT_in {a : A} {k : T → MA α} (ha : a.inR D.rR) (hk : ∀ x, (k x).In D) : (a.peekT k).In D := by
  unfold A.peekT
  split <;> first | exact hk _ | trivial | skip
  unfold A.inR at ha
  refine ⟨ha, fun x => ?_⟩
  rcases x with _ | (_ | _ | _) <;> first | exact hk _ | trivial
theorem peekTs_in : ∀ {l : List A} {k : List T → MA α}, A.inRs D.rR l → (∀ x, (k x).In D) → (A.peekTs l k).In D
  | [], k, _, hk => hk []
  | a :: l, k, hl, hk => by
    unfold A.inRs at hl
    exact peekT_in hl.1 fun x => peekTs_in hl.2 fun xs => hk _
mutual
theorem peekV_in : ∀ {a : A} {k : V → MA α}, a.inR D.rR → (∀ x, (k x).In D) → (A.peekV a k).In D
  | .agg l, k, ha, hk => by unfold A.inR at ha; unfold A.peekV; exact peekTs_in ha fun _ => hk _
  | .fadr l, k, ha, hk => by unfold A.peekV; exact hk _
  | .clo f l, k, ha, hk => by unfold A.inR at ha; unfold A.peekV; exact peekVs_in ha fun _ => hk _
  | .tup l, k, ha, hk => by unfold A.peekV; exact peekT_in ha fun _ => hk _
  | .t x, k, ha, hk => by unfold A.peekV; exact peekT_in ha fun _ => hk _
  | .nn _ _, k, ha, hk => by unfold A.peekV; exact peekT_in ha fun _ => hk _
  | .nil, k, ha, hk => by unfold A.peekV; exact peekT_in ha fun _ => hk _
  | .own x, k, ha, hk => by unfold A.peekV; exact peekT_in ha fun _ => hk _
  | .obj _ _, k, ha, hk => by unfold A.peekV; exact peekT_in ha fun _ => hk _
  | .elem _ _ _ _, k, ha, hk => by unfold A.peekV; exact peekT_in ha fun _ => hk _
  | .sub _ _ _, k, ha, hk => by unfold A.peekV; exact peekT_in ha fun _ => hk _
  | .undef, k, ha, hk => by unfold A.peekV; exact peekT_in ha fun _ => hk _
  | .ext _ _, k, ha, hk => by unfold A.peekV; exact peekT_in ha fun _ => hk _
  | .exa _ _, k, ha, hk => by unfold A.peekV; exact peekT_in ha fun _ => hk _
  | .shp _, k, ha, hk => by unfold A.peekV; exact peekT_in ha fun _ => hk _
theorem peekVs_in : ∀ {l : List A} {k : List V → MA α}, A.inRs D.rR l → (∀ x, (k x).In D) → (A.peekVs l k).In D
  | [], k, _, hk => by unfold A.peekVs; exact hk _
  | a :: l, k, hl, hk => by unfold A.inRs at hl; unfold A.peekVs; exact peekV_in hl.1 fun x => peekVs_in hl.2 fun xs => hk _
end
/-! taking in -/
variable {d : Nat}
theorem toA_in {id : Nat} {c : C} {k : A → MA α} (hd : ∀ r, r / 65536 = d → D.rR r ∧ D.rW r) (hk : ∀ x, (k x).In D) : (c.toA d id k).In D := by
  cases c <;> simp only [C.toA] <;> first | exact hk _ | skip
  split
  · rename_i h
    refine ⟨(hd _ h).1, fun x => ?_⟩
    cases x <;> first | exact ⟨(hd _ h).2, hk _⟩ | trivial
  · trivial
theorem toAs_in (hd : ∀ r, r / 65536 = d → D.rR r ∧ D.rW r) : ∀ {l : List C} {id : Nat} {k : List A → MA α}, (∀ x, (k x).In D) → (C.toAs d id l k).In D
  | [], id, k, hk => hk []
  | a :: l, id, k, hk => toA_in hd fun x => toAs_in hd fun xs => hk _
mutual
theorem vtoA_in (hd : ∀ r, r / 65536 = d → D.rR r ∧ D.rW r) (ho : D.oR d ∧ D.oW d) : ∀ {v : V} {id : Nat} {k : A → MA α}, (∀ x, (k x).In D) → (V.toA d id v k).In D
  | .one c, id, k, hk => by unfold V.toA; exact toA_in hd hk
  | .agg l, id, k, hk => by unfold V.toA; exact toAs_in hd fun _ => hk _
  | .tup l, id, k, hk => by unfold V.toA; exact vtoAs_in hd ho fun _ => hk _
  | .ptr l, id, k, hk => by
    unfold V.toA
    refine toAs_in hd fun _ => ⟨ho.1, fun x => ?_⟩
    cases x <;> first | exact ⟨ho.2, hk _⟩ | trivial
  | .fptr l, id, k, hk => by unfold V.toA; exact hk _
  | .clo f l, id, k, hk => by unfold V.toA; exact vtoAs_in hd ho fun _ => hk _
theorem vtoAs_in (hd : ∀ r, r / 65536 = d → D.rR r ∧ D.rW r) (ho : D.oR d ∧ D.oW d) : ∀ {l : List V} {id : Nat} {k : List A → MA α}, (∀ x, (k x).In D) → (V.toAs d id l k).In D
  | [], id, k, hk => by unfold V.toAs; exact hk _
  | a :: l, id, k, hk => by unfold V.toAs; exact vtoA_in hd ho fun x => vtoAs_in hd ho fun xs => hk _
end
theorem recvOuts_in (hd : ∀ r, r / 65536 = d → D.rR r ∧ D.rW r) : ∀ {ss : List Nat} {os : List (List C)} {k : MA α}, (∀ s ∈ ss, D.oR s ∧ D.oW s) → k.In D → (recvOuts d ss os k).In D
  | [], [], k, _, hk => hk
  | s :: ss, c :: cs, k, hs, hk => by
    unfold recvOuts
    refine toAs_in hd fun x => ⟨(hs s (by simp)).1, fun y => ?_⟩
    cases y <;> first | exact ⟨(hs s (by simp)).2, recvOuts_in hd (fun s h => hs s (by simp [h])) hk⟩ | trivial
  | [], _ :: _, k, _, hk => trivial
  | _ :: _, [], k, _, hk => trivial
theorem slots_in {p : Nat → Bool} : ∀ {l : List A}, (∀ a ∈ l, a.argIn D p) → ∀ s ∈ slots l, D.oR s ∧ D.oW s
  | [], _, s, h => by simp [slots] at h
  | a :: l, hl, s, h => by
    have h0 := hl a (by simp)
    unfold slots at h
    split at h
    · rename_i heq; cases heq
    · rename_i heq
      injection heq with h1 h2
      subst h1 h2
      rcases List.mem_cons.1 h with rfl | h
      · exact h0.1
      · exact slots_in (fun a ha => hl a (by simp [ha])) s h
    · rename_i heq
      injection heq with h1 h2
      subst h1 h2
      exact slots_in (fun a ha => hl a (by simp [ha])) s h
end
end Go.Tm
