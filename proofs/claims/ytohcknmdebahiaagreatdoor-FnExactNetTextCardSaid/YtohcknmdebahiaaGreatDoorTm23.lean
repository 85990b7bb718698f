/- Regions, sound. -/
import Derived.Test.YtohcknmdebahiaaGreatDoorTm22
set_option linter.unusedVariables false
set_option linter.unusedSimpArgs false
namespace Go.Tm
open Go.RowKit

section
variable {P : Program} {E : En} [Tb P E] {g : Gh} {st st' : St} {a : Act} {w : World} {p : Nat → Bool} {ρ : Nat → Root} {o : Oper} {x : A} {ops : Array Oper} {n : Nat}

theorem Mem.put (h : Mem E g st w) (d : Option Nat) (v : A) : Mem E g (st.put d v) w := by
  cases d with
  | none => exact h
  | some d => exact ⟨h.ob, h.obne, h.row, h.rowne, h.rowob, h.F, h.os, h.tape, h.output, h.sizes, h.frame, h.shp, h.dep0⟩
theorem Sim.put {v : Value} {g' : Gh} {w' : World} {st1 : St} {d : Option Nat} (hS : Sim E g n st a w) (h : Aft E g st w x st1 v g' w') (hd : ∀ t, d = some t → t < n) : Sim E g' n (st1.put d x) (a.put d v) w' := by
  refine ⟨h.mem.put d x, ?_, ?_, fun i hi => ?_, fun i hi => ?_, fun s b hs => ?_, fun v' hv' => by
    obtain ⟨h1, h2⟩ := hS.pin v' hv'
    exact ⟨by unfold St.R; rw [put_rw]; exact (h.ext.R _ h1).1, (h.ext.R _ h1).2.trans h2⟩⟩
  · cases d <;> simp [Act.put, hS.size]
  · cases d <;> simp [Act.put, hS.defers]
  · cases d with
    | none =>
      obtain ⟨u, h1, h2⟩ := hS.tm i hi
      exact ⟨u, h1, by show VR w' g' st1.O st1.R (st1.tm i) u; rw [h.tm]; exact h2.mono h.ext⟩
    | some d =>
      by_cases he : d = i
      · subst he
        exact ⟨v, by simp [Act.put, hS.size, hi], by show VR w' g' st1.O st1.R (upd st1.tm d x d) v; rw [upd_eq]; exact h.vr⟩
      · obtain ⟨u, h1, h2⟩ := hS.tm i hi
        refine ⟨u, by simp only [Act.put]; rw [Array.getElem?_setIfInBounds_ne he]; exact h1, ?_⟩
        show VR w' g' st1.O st1.R (upd st1.tm d x i) u
        rw [upd_ne _ _ _ _ (fun h => he h.symm), h.tm]
        exact h2.mono h.ext
  · rw [put_tm (fun he => by have := hd i he; omega), h.tm]
    exact hS.und i hi
  · obtain ⟨h1, h2⟩ := hS.lent s b hs
    refine ⟨?_, (h.ext.O s h1).2.trans h2⟩
    unfold St.O
    rw [put_ob]
    exact (h.ext.O s h1).1
theorem Sim.skip {d : Option Nat} (hS : Sim E g n st a w) (hd : ∀ t, d = some t → t < n) : Sim E g n (st.put d (.tup [])) (a.put d undef) w := by
  refine hS.put ⟨hS.mem, ?_, Ext.refl _ _ _ _, rfl⟩ hd
  exact .tup [] [] rfl (fun i x u h => by simp at h)
theorem Sim.drew (hS : Sim E g n st a w) : Sim E g n st a { w with drawn := w.drawn + 1 } := by
  have hsame : Same g.F w { w with drawn := w.drawn + 1 } := fun _ _ => rfl
  obtain ⟨⟨h1, h2, h3, h4, h5, h6, h7, h8, h9, h10, h11, hsp, hd0⟩, h12, h13, h14, h15, h16, h17⟩ := hS
  have hE : Ext w { w with drawn := w.drawn + 1 } g g st.O st.R st.O st.R := ⟨hsame, fun _ h => h, fun _ h => ⟨h, rfl⟩, fun _ h => ⟨h, rfl⟩, ⟨rfl, rfl, rfl⟩, rfl, rfl⟩
  refine ⟨⟨fun s cells hs => ?_, h2, fun r x hr => (h3 r x hr).mono hsame (fun _ h => h) (fun _ b hb => ⟨rfl, fun h => h⟩), h4, h5, h6, h7, h8, h9, h10, h11, hsp, hd0⟩, h12, h13, fun i hi => ?_, h15, h16, h17⟩
  · obtain ⟨arr, e, q1, q2, q3, q4⟩ := h1 s cells hs
    exact ⟨arr, e, q1, q2, fun j x hj => by obtain ⟨r1, v, r2, r3⟩ := q3 j x hj; exact ⟨r1, v, r2, r3.mono hE⟩, q4⟩
  · obtain ⟨v, q1, q2⟩ := h14 i hi
    exact ⟨v, q1, q2.mono hE⟩

theorem wanted_of {b : Bool} (hS : Sim E g n st a w) (h : wantG ops st o = some b) : Region.wanted o (yielded ops a.tmps) = b := by
  unfold wantG at h
  unfold Region.wanted
  split at h
  · rename_i hg
    cases h
    simp only [hg]
  · rename_i j want hg
    simp only [hg]
    split at h
    · rename_i hd
      cases h
      simp [yielded, hd]
    · rename_i d hd
      have hlt : d < n := by
        rcases Nat.lt_or_ge d n with hlt | hge
        · exact hlt
        · rw [hS.und d hge] at h; cases h
      obtain ⟨v, h1, h2⟩ := hS.tm d hlt
      split at h
      · rename_i b' hb
        cases h
        rw [hb] at h2
        cases h2 with
        | t x v h3 =>
          cases h3
          simp [yielded, hd, h1]
      · rename_i hb
        cases h
        rw [hb] at h2
        cases h2 with
        | tup l vs hl hx =>
          have : vs = [] := List.eq_nil_of_length_eq_zero (by simpa using hl.symm)
          subst this
          simp [yielded, hd, h1]
      · cases h

def dstOK (n : Nat) (o : Oper) : Bool := match o.dst with | some d => Nat.blt d n | none => true
theorem dstOK_spec (h : dstOK n o = true) : ∀ t, o.dst = some t → t < n := by
  intro t ht
  rw [dstOK, ht] at h
  simpa using h

theorem step_sound {i : Nat} {K : Act → World → Prop} {Q : Exit → Act → World → Prop} (hS : Sim E g n st a w) (hd : ∀ o, ops[i]? = some o → dstOK n o = true) (h : StepI P p ρ ops i st st')
    (hK : ∀ g' a' w', Sim E g' n st' a' w' → K a' w') : wpOp P ops Q i K a w := by
  unfold wpOp
  unfold StepI at h
  split
  · rename_i ho
    rw [ho] at h
    simp only at h
    subst h
    exact hK g a w hS
  · rename_i o ho
    rw [ho] at h
    simp only at h
    have hdo := dstOK_spec (hd o ho)
    cases h with
    | run x st1 hg hf he =>
      rw [wanted_of hS hg, if_pos rfl]
      exact .inl (he.sound hS K Q fun v w' ⟨g', hA⟩ => hK g' _ _ (hS.put hA hdo))
    | skip hg =>
      rw [wanted_of hS hg, if_neg (by simp)]
      exact hK g _ _ (hS.skip hdo)

theorem ops_sound {Q : Exit → Act → World → Prop} (hd : ∀ (i : Nat) (o : Oper), ops[i]? = some o → dstOK n o = true) (hQ : ∀ g a w, Sim E g n st' a w → Q .normal a w) : ∀ {l : List Nat} {st : St} {g : Gh} {a : Act} {w : World}, Sim E g n st a w → RunI P p ρ ops l st st' → wpOps P ops Q l a w
  | [], st, g, a, w, hS, h => hQ g a w (by have h : st' = st := h; rw [h]; exact hS)
  | i :: l, st, g, a, w, hS, ⟨b, h1, h2⟩ => by
    rw [wpOps_cons]
    exact step_sound hS (hd i) h1 fun g' a' w' hS' => ops_sound hd hQ hS' h2

/-! ### any order -/
def depsOf (D : Array Nat) (o : Oper) : Nat := o.after.toList.foldl (fun s e => if Region.binds .any e then s ||| 2 ^ e.on ||| D.getD e.on 0 else s) 0
def regOK (p : Nat → Bool) (ρ : Nat → Root) (n : Nat) (ops : Array Oper) : Bool :=
  let D := Region.before ops
  (List.range ops.size).all fun i => match ops[i]? with
    | none => true
    | some o => dstOK n o && (o.after.toList.all fun e => !Region.binds .any e || Nat.blt e.on i) && Nat.beq (D.getD i 0) (depsOf D o) && (List.range i).all fun j => (D.getD i 0).testBit j || indepI p ρ ops i j

theorem deps_spec {D : Array Nat} {j : Nat} : ∀ {l : List Edge} {s : Nat}, (l.foldl (fun s e => if Region.binds .any e then s ||| 2 ^ e.on ||| D.getD e.on 0 else s) s).testBit j = true → s.testBit j = true ∨ ∃ e ∈ l, Region.binds .any e = true ∧ (e.on = j ∨ (D.getD e.on 0).testBit j = true)
  | [], s, h => .inl h
  | e :: l, s, h => by
    simp only [List.foldl_cons] at h
    rcases deps_spec h with h | ⟨e', he', h⟩
    · split at h
      · rename_i hb
        simp only [Nat.testBit_or, Bool.or_eq_true] at h
        rcases h with (h | h) | h
        · exact .inl h
        · rw [Nat.testBit_two_pow] at h
          exact .inr ⟨e, List.mem_cons_self .., hb, .inl (by simpa using h)⟩
        · exact .inr ⟨e, List.mem_cons_self .., hb, .inr h⟩
      · exact .inl h
    · exact .inr ⟨e', List.mem_cons_of_mem _ he', h⟩

structure RegFacts (p : Nat → Bool) (ρ : Nat → Root) (n : Nat) (ops : Array Oper) (D : Array Nat) : Prop where
  dst : ∀ (i : Nat) (o : Oper), ops[i]? = some o → dstOK n o = true
  back : ∀ (i : Nat) (o : Oper), ops[i]? = some o → ∀ e ∈ o.after, Region.binds .any e = true → e.on < i
  dep : ∀ (i : Nat) (o : Oper), ops[i]? = some o → ∀ j, (D.getD i 0).testBit j = true → ∃ e ∈ o.after, Region.binds .any e = true ∧ (e.on = j ∨ (D.getD e.on 0).testBit j = true)
  ind : ∀ (i j : Nat) (o : Oper), ops[i]? = some o → j < i → (D.getD i 0).testBit j = true ∨ indepI p ρ ops i j = true
theorem regOK_spec (h : regOK p ρ n ops = true) : RegFacts p ρ n ops (Region.before ops) := by
  have hh : ∀ (i : Nat) (o : Oper), ops[i]? = some o → ((dstOK n o = true ∧ (o.after.toList.all fun e => !Region.binds .any e || Nat.blt e.on i) = true) ∧ Nat.beq ((Region.before ops).getD i 0) (depsOf (Region.before ops) o) = true) ∧ ((List.range i).all fun j => ((Region.before ops).getD i 0).testBit j || indepI p ρ ops i j) = true := fun i o hi => by
    have hlt : i < ops.size := (Array.getElem?_eq_some_iff.1 hi).1
    have := List.all_eq_true.1 h i (List.mem_range.2 hlt)
    rw [hi] at this
    simpa only [Bool.and_eq_true] using this
  refine ⟨fun i o hi => (hh i o hi).1.1.1, fun i o hi e he hb => ?_, fun i o hi j hj => ?_, fun i j o hi hj => ?_⟩
  · have := List.all_eq_true.1 (hh i o hi).1.1.2 e (by simpa using he)
    rw [hb] at this
    simpa using this
  · rw [Nat.eq_of_beq_eq_true (hh i o hi).1.2] at hj
    rcases deps_spec hj with h | ⟨e, he, h⟩
    · simp at h
    · exact ⟨e, by simpa using he, h⟩
  · have := List.all_eq_true.1 (hh i o hi).2 j (List.mem_range.2 hj)
    simpa only [Bool.or_eq_true] using this

def Down (ops : Array Oper) (listed : Array Bool) : Prop := ∀ (k : Nat) (o : Oper), listed.getD k false = true → ops[k]? = some o → ∀ e ∈ o.after, Region.binds .any e = true → listed.getD e.on false = true
theorem closed {D : Array Nat} {listed : Array Bool} (hF : RegFacts p ρ n ops D) (hd : Down ops listed) : ∀ (i : Nat) (o : Oper), ops[i]? = some o → (∀ e ∈ o.after, Region.binds .any e = true → listed.getD e.on false = true) → ∀ j, (D.getD i 0).testBit j = true → listed.getD j false = true := by
  intro i
  induction i using Nat.strongRecOn with
  | _ i ih =>
    intro o ho hall j hj
    obtain ⟨e, he, hb, h⟩ := hF.dep i o ho j hj
    rcases h with rfl | h
    · exact hall e he hb
    · have hlt : e.on < i := hF.back i o ho e he hb
      have hlt2 : e.on < ops.size := Nat.lt_trans hlt (Array.getElem?_eq_some_iff.1 ho).1
      exact ih e.on hlt _ (Array.getElem?_eq_getElem hlt2) (hd e.on _ (hall e he hb) (Array.getElem?_eq_getElem hlt2)) j h

def rem (ops : Array Oper) (listed : Array Bool) : List Nat := (List.range ops.size).filter fun i => !listed.getD i true
theorem mem_rem {listed : Array Bool} {i : Nat} : i ∈ rem ops listed ↔ i < ops.size ∧ listed.getD i true = false := by
  simp [rem]
theorem rem_set {listed : Array Bool} {i : Nat} (hs : listed.size = ops.size) (hi : i ∈ rem ops listed) : rem ops (listed.setIfInBounds i true) = (rem ops listed).erase i := by
  have hnd : (rem ops listed).Nodup := List.Pairwise.filter _ List.nodup_range
  rw [hnd.erase_eq_filter]
  unfold rem
  rw [List.filter_filter]
  refine List.filter_congr fun j hj => ?_
  by_cases he : i = j
  · subst he
    have : i < listed.size := by rw [hs]; exact List.mem_range.1 hj
    simp [this]
  · rw [getD_set_ne true he]
    have hji : (j != i) = true := by simpa using fun h : j = i => he h.symm
    simp only [hji, Bool.true_and, Bool.and_true]
theorem getD_ft {listed : Array Bool} {k : Nat} (hlt : k < listed.size) : listed.getD k true = listed.getD k false := by
  simp [hlt]

theorem any_sound {D : Array Nat} {Q : Exit → Act → World → Prop} (hF : RegFacts p ρ n ops D) (hQ : ∀ g a w, Sim E g n st' a w → Q .normal a w) :
    ∀ (fuel : Nat) (listed : Array Bool) (st : St) (g : Gh) (a : Act) (w : World), listed.size = ops.size → Down ops listed → (rem ops listed).length = fuel → RunI P p ρ ops (rem ops listed) st st' → Sim E g n st a w → wpAny P .any ops Q fuel listed a w := by
  intro fuel
  induction fuel with
  | zero =>
    intro listed st g a w hs hd hl hr hS
    have h0 : rem ops listed = [] := List.eq_nil_of_length_eq_zero hl
    rw [h0] at hr
    have hr : st' = st := hr
    refine ⟨?_, hQ g a w (hr ▸ hS)⟩
    refine List.eq_nil_iff_forall_not_mem.2 fun j hj => ?_
    obtain ⟨h1, o, ho, _⟩ := mem_ready.1 hj
    have : j ∈ rem ops listed := mem_rem.2 ⟨(Array.getElem?_eq_some_iff.1 ho).1, h1⟩
    rw [h0] at this
    simp at this
  | succ fuel ih =>
    intro listed st g a w hs hd hl hr hS
    have hsorted : (rem ops listed).Pairwise (· < ·) := List.Pairwise.filter _ List.pairwise_lt_range
    refine ⟨fun hnil => ?_, fun i hi => ?_⟩
    · exfalso
      cases hrem : rem ops listed with
      | nil => rw [hrem] at hl; cases hl
      | cons i l =>
        have him : i ∈ rem ops listed := by rw [hrem]; simp
        obtain ⟨hlt, hun⟩ := mem_rem.1 him
        have : i ∈ Region.ready .any ops listed := by
          refine mem_ready.2 ⟨hun, _, Array.getElem?_eq_getElem hlt, fun e he hb => ?_⟩
          have hlt2 := hF.back i _ (Array.getElem?_eq_getElem hlt) e he hb
          have hlt3 : e.on < listed.size := by omega
          cases hee : listed.getD e.on false with
          | true => rfl
          | false =>
            have hm : e.on ∈ rem ops listed := mem_rem.2 ⟨by omega, by rw [getD_ft hlt3]; exact hee⟩
            rw [hrem] at hm hsorted
            rcases List.mem_cons.1 hm with h | h
            · omega
            · have := (List.pairwise_cons.1 hsorted).1 _ h
              omega
        rw [hnil] at this
        simp at this
    · obtain ⟨hun, o, ho, hall⟩ := mem_ready.1 hi
      have hlt : i < ops.size := (Array.getElem?_eq_some_iff.1 ho).1
      have him : i ∈ rem ops listed := mem_rem.2 ⟨hlt, hun⟩
      obtain ⟨b, h1, h2⟩ := pull him (fun l1 l2 hsplit hni j hj => by
        have hjm : j ∈ rem ops listed := by rw [hsplit]; exact List.mem_append.2 (.inl hj)
        have hji : j < i := by
          rw [hsplit] at hsorted
          exact (List.pairwise_append.1 hsorted).2.2 j hj i (List.mem_cons_self ..)
        rcases hF.ind i j o ho hji with h | h
        · have h3 := closed hF hd i o ho hall j h
          have h4 := (mem_rem.1 hjm).2
          rw [getD_ft (by rw [hs]; exact (mem_rem.1 hjm).1), h3] at h4
          cases h4
        · exact h) hr
      refine step_sound hS (hF.dst i) h1 fun g' a' w' hS' => ih (listed.setIfInBounds i true) b g' a' w' (by simp [hs]) ?_ ?_ ?_ hS'
      · intro k o' hk ho' e he hb
        by_cases hik : i = k
        · subst hik
          rw [ho] at ho'
          injection ho' with ho'
          subst ho'
          exact getD_set_true (hall e he hb)
        · rw [getD_set_ne false hik] at hk
          exact getD_set_true (hd k o' hk ho' e he hb)
      · rw [rem_set hs him, List.length_erase_of_mem him, hl]
        rfl
      · rw [rem_set hs him]
        exact h2

/-! ### the text's order as a list of operations -/
def RunL (P : Program) (p : Nat → Bool) (ρ : Nat → Root) (ops : Array Oper) : List Oper → St → St → Prop
  | [], st, st' => st' = st
  | o :: l, st, st' => ∃ b, StepR P p ρ ops o st b ∧ RunL P p ρ ops l b st'
theorem runI_of_runL : ∀ {l : List Oper} {k : Nat} {st : St}, (∀ j, l[j]? = ops[k + j]?) → RunL P p ρ ops l st st' → RunI P p ρ ops (List.range' k l.length) st st'
  | [], k, st, _, h => h
  | o :: l, k, st, hl, ⟨b, h1, h2⟩ => by
    refine ⟨b, ?_, runI_of_runL (k := k + 1) (fun j => by have := hl (j + 1); simpa [Nat.add_assoc, Nat.add_comm 1 j] using this) h2⟩
    have := hl 0
    simp at this
    unfold StepI
    rw [← this]
    exact h1

theorem region_sound {Q : Exit → Act → World → Prop} {id : Nat} {draw : Bool} (hm : draw = true → P.follows .mixedOrders = true) (hok : if draw then regOK p ρ n ops = true else ops.toList.all (dstOK n) = true)
    (hS : Sim E g n st a w) (hr : RunL P p ρ ops ops.toList st st') (hQ : ∀ g a w, Sim E g n st' a w → Q .normal a w) : (Code.region id ops draw).wp P Q a w := by
  have hrI : RunI P p ρ ops (List.range ops.size) st st' := by
    have := runI_of_runL (k := 0) (l := ops.toList) (by simp) hr
    rw [List.range_eq_range']
    simpa using this
  cases draw with
  | false =>
    refine wp_region (ops_sound (fun i o ho => ?_) hQ hS hrI)
    exact List.all_eq_true.1 (show ops.toList.all (dstOK n) = true from hok) o (by simpa using Array.mem_of_getElem? ho)
  | true =>
    have hF := regOK_spec (by simpa using hok)
    have hrem : rem ops (Array.replicate ops.size false) = List.range ops.size := by
      unfold rem
      refine List.filter_eq_self.2 fun i hi => ?_
      have : i < ops.size := List.mem_range.1 hi
      simp [this]
    refine wp_region_any (hm rfl) (any_sound hF hQ _ _ st g a _ (by simp) (fun k o hk => ?_) (by rw [hrem]; simp) (by rw [hrem]; exact hrI) hS.drew)
    by_cases hlt : k < ops.size <;> simp [hlt] at hk
end
end Go.Tm
