/- A contract out of a walk of the body. -/
import Derived.Test.YtohcknmdebahiaaGreatDoorTm25
set_option linter.unusedVariables false
set_option linter.unusedSimpArgs false
namespace Go.Tm
open Go.RowKit

/-- What the results hold. -/
def resOf (P : Program) (st : St) : List ResultVar → Option (List A)
  | [] => some []
  | .tmp t :: r => match resOf P st r with | some l => some (st.tm t :: l) | none => none
  | .cell a t :: r => match st.tm a with
    | .obj s off => match st.ob s with
      | some cells => match tagg P t, tsize P t with
        | some g, some n => match cutA g n cells off, resOf P st r with | some x, some l => some (x :: l) | _, _ => none
        | _, _ => none
      | none => none
    | _ => none
def tupA : List A → A
  | [x] => x
  | l => .tup l

/-- The lent variables, as they are left. -/
def outsA {α : Type} : Nat → List V → (List (List C) → MA α) → MA α
  | _, [], k => k []
  | i, .ptr _ :: r, k => obLend (900 + i) fun c => outsA (i + 1) r fun os => k (c :: os)
  | i, _ :: r, k => outsA (i + 1) r k
def lentSlots : Nat → List V → List Nat
  | _, [] => []
  | i, .ptr _ :: r => (900 + i) :: lentSlots (i + 1) r
  | i, _ :: r => lentSlots (i + 1) r
def lentOf : Nat → List V → List Value → List (Nat × Nat)
  | i, .ptr _ :: r, .pointer (some a) :: vs => (900 + i, a.block) :: lentOf (i + 1) r vs
  | i, .ptr _ :: r, _ :: vs => (900 + i, 0) :: lentOf (i + 1) r vs
  | i, _ :: r, _ :: vs => lentOf (i + 1) r vs
  | i, .ptr _ :: r, [] => (900 + i, 0) :: lentOf (i + 1) r []
  | i, _ :: r, [] => lentOf (i + 1) r []
  | _, [], _ => []
/-- The lent variables' addresses are the arguments. -/
def lentArgs : Nat → List V → List A → Bool
  | _, [], _ => true
  | i, .ptr _ :: r, .obj s 0 :: as => Nat.beq s (900 + i) && lentArgs (i + 1) r as
  | i, .ptr _ :: r, _ => false
  | i, _ :: r, _ :: as => lentArgs (i + 1) r as
  | i, _ :: r, [] => false

section
variable {P : Program} {E : En} {g : Gh} {st st' : St} {a : Act} {w : World} {n : Nat}

theorem lentOf_fst : ∀ (l : List V) (i : Nat) (vs : List Value), (lentOf i l vs).map Prod.fst = lentSlots i l
  | [], i, vs => by cases vs <;> rfl
  | x :: l, i, [] => by cases x <;> simp [lentOf, lentSlots, lentOf_fst l]
  | x :: l, i, v :: vs => by
    cases x <;> simp only [lentSlots] <;> try (simp only [lentOf]; exact lentOf_fst l _ _)
    cases v <;> try (simp only [lentOf, List.map_cons, List.cons.injEq, true_and]; exact lentOf_fst l _ _)
    rename_i o
    cases o <;> (simp only [lentOf, List.map_cons, List.cons.injEq, true_and]; exact lentOf_fst l _ _)

theorem lentSlots_ge : ∀ (l : List V) (i : Nat), ∀ q ∈ lentSlots i l, 900 ≤ q
  | [], i, q, h => by simp [lentSlots] at h
  | x :: l, i, q, h => by
    cases x <;> simp only [lentSlots] at h <;> try exact lentSlots_ge l _ q h
    rcases List.mem_cons.1 h with rfl | h
    · omega
    · exact lentSlots_ge l _ q h
theorem lentOf_ge (l : List V) (i : Nat) (vs : List Value) : ∀ q ∈ lentOf i l vs, 900 ≤ q.1 := fun q hq =>
  lentSlots_ge l i q.1 (by rw [← lentOf_fst l i vs]; exact List.mem_map.2 ⟨q, hq, rfl⟩)

theorem resOf_run : ∀ {rs : List ResultVar} {l : List A}, Sim E g n st a w → resOf P st rs = some l → (∀ t, .tmp t ∈ rs → t < n) → ∃ vs : List Value, l.length = vs.length ∧ (∀ (j : Nat) (x : A) (u : Value), l[j]? = some x → vs[j]? = some u → VR w g st.O st.R x u) ∧
    ∀ (f : ResultVar → Sem Value) (_ : ∀ u, f (.tmp u) = pure (a.tmps.getD u undef)) (_ : ∀ p t, f (.cell p t) = (do loadVar t (← asAddr (a.tmps.getD p undef)))), (rs.mapM f).run P w = .ok vs w
  | [], l, hS, h, _ => by
    cases h
    exact ⟨[], rfl, by simp, fun f _ _ => by simp⟩
  | .tmp t :: r, l, hS, h, ht => by
    unfold resOf at h
    split at h
    · rename_i l' hl'
      cases h
      obtain ⟨vs, h1, h2, h3⟩ := resOf_run hS hl' (fun t h => ht t (by simp [h]))
      obtain ⟨v, h4, h5⟩ := hS.tm t (ht t (by simp))
      refine ⟨v :: vs, by simp [h1], fun j x u hx hu => ?_, fun f hf hc => ?_⟩
      · cases j with
        | zero => simp at hx hu; subst hx hu; exact h5
        | succ j => exact h2 j x u (by simpa using hx) (by simpa using hu)
      · have : a.tmps.getD t undef = v := by simp [h4]
        simp [List.mapM_cons, hf, h3 f hf hc, h4]
    · cases h
  | .cell p t :: r, l, hS, h, ht => by
    unfold resOf at h
    split at h <;> try (cases h; done)
    rename_i s off hp
    split at h <;> try (cases h; done)
    rename_i cells hc
    split at h <;> try (cases h; done)
    rename_i gg nn hg hn
    split at h <;> try (cases h; done)
    rename_i x l' hx hl'
    cases h
    obtain ⟨vs, h1, h2, h3⟩ := resOf_run hS hl' (fun t h => ht t (by simp [h]))
    have hlt : p < n := by
      rcases Nat.lt_or_ge p n with h | h
      · exact h
      · rw [hS.und p h] at hp; cases hp
    obtain ⟨v, h4, h5⟩ := hS.tm p hlt
    rw [hp] at h5
    cases h5 with
    | obj s off hs =>
      obtain ⟨arr, e, hh, hl, hv, _⟩ := hS.mem.ob s cells hc
      obtain ⟨u, hu, hr⟩ := run_loadVar_of (P := P) (w := w) (g := g) (st := st) (b := g.ob s) (o := 0) hg hn hx (fun j y hy => by
        obtain ⟨_, u, hu, hr⟩ := hv j y hy
        exact ⟨u, by rw [Nat.zero_add]; simp [World.cell?, hh, hu], hr⟩)
      rw [Nat.zero_add] at hu
      refine ⟨u :: vs, by simp [h1], fun j x u hx hu => ?_, fun f hf hcc => ?_⟩
      · cases j with
        | zero => simp at hx hu; subst hx hu; exact hr
        | succ j => exact h2 j x u (by simpa using hx) (by simpa using hu)
      · simp [List.mapM_cons, hcc, h4, asAddr, hu, h3 f hf hcc]

theorem res_run {fn : Func} {l : List A} (hS : Sim E g n st a w) (h : resOf P st fn.results.toList = some l) (ht : (fn.results.toList.all fun | .tmp t => Nat.blt t n | _ => true) = true) : ∃ v, (results fn a.tmps).run P w = .ok v w ∧ VR w g st.O st.R (tupA l) v := by
  obtain ⟨vs, h1, h2, h3⟩ := resOf_run hS h (fun t h => by simpa using List.all_eq_true.1 ht _ h)
  have hres : fn.results = fn.results.toList.toArray := by simp
  have hr : (results fn a.tmps).run P w = .ok (if h : vs.toArray.size = 1 then vs.toArray[0] else .tuple vs.toArray) w := by
    unfold results
    rw [hres, List.mapM_toArray]
    simp only [Sem.run_bind, Sem.run_map]
    rw [h3 _ (fun _ => rfl) (fun _ _ => rfl)]
    simp only [Result.andThen_ok, Sem.run_pure]
  refine ⟨_, hr, ?_⟩
  clear hr h3
  match vs, l, h1, h2 with
  | [], [], _, _ => exact .tup [] [] rfl (fun i x v h => by simp at h)
  | [v], [x], _, h2 => exact h2 0 x v rfl rfl
  | v :: v' :: vs, x :: x' :: l, h1, h2 => exact .tup _ _ h1 h2

theorem VVs.len {w : World} {F : Nat → Prop} : ∀ {l : List V} {vs : List Value} {bs : List Nat}, VVs w F l vs bs → l.length = vs.length
  | _, _, _, .nil => rfl
  | _, _, _, .cons _ _ _ _ _ _ _ hs => by simp [hs.len]
theorem Outs.mono {F F' : Nat → Prop} (hF : ∀ b, F b → F' b) {l : List V} {us : List Value} {os : List (List C)} {bo : List Nat} (h : Outs w F l us os bo) : Outs w F' l us os bo := by
  induction h with
  | nil => exact .nil
  | ptr c c' v bs l vs os bo h hs ih => exact .ptr c c' v bs l vs os bo (h.mono (fun _ _ => rfl) hF (fun _ _ => rfl)) ih
  | skip x v l vs os bo hx hs ih => exact .skip x v l vs os bo hx ih

theorem outsA_run {α : Type} {st' : St} : ∀ (l : List V) {i : Nat} {us : List Value} {g : Gh} {st : St} {k : List (List C) → MA α} {y : α}, Mem E g st w → us.length = l.length → (∀ (j : Nat) (c : List C), l[j]? = some (.ptr c) → us[j]? = some (.pointer (some ⟨g.ob (900 + (i + j)), 0, none⟩))) → (outsA i l k).run st = some (y, st') →
    ∃ os st1 g1 bo, Mem E g1 st1 w ∧ Ext w w g g1 st.O st.R st1.O st1.R ∧ Lnd g st g1 st1 ∧ (k os).run st1 = some (y, st') ∧ Outs w g1.F l us os bo ∧ Tk g st g1 st1 bo
  | [], i, us, g, st, k, y, hM, hl, hp, h => by
    have : us = [] := List.eq_nil_of_length_eq_zero (by simpa using hl)
    subst this
    exact ⟨[], st, g, [], hM, Ext.refl _ _ _ _, Lnd.refl _ _, h, .nil, Tk.nil _ _ _ _⟩
  | x :: l, i, us, g, st, k, y, hM, hl, hp, h => by
    obtain ⟨u, us, rfl⟩ : ∃ u us', us = u :: us' := by
      cases us with
      | nil => simp at hl
      | cons u us => exact ⟨u, us, rfl⟩
    have hp' : ∀ (j : Nat) (c : List C), l[j]? = some (.ptr c) → us[j]? = some (.pointer (some ⟨g.ob (900 + (i + 1 + j)), 0, none⟩)) := fun j c hj => by
      have := hp (j + 1) c (by simpa using hj)
      rw [show i + 1 + j = i + (j + 1) by omega]
      simpa using this
    have hoth : (∀ c, x ≠ .ptr c) → (outsA (i + 1) l k).run st = some (y, st') → ∃ os st1 g1 bo, Mem E g1 st1 w ∧ Ext w w g g1 st.O st.R st1.O st1.R ∧ Lnd g st g1 st1 ∧ (k os).run st1 = some (y, st') ∧ Outs w g1.F (x :: l) (u :: us) os bo ∧ Tk g st g1 st1 bo := fun hx h => by
      obtain ⟨os, st1, g1, bo, h1, h2, h3, h4, h5, h6⟩ := outsA_run l hM (by simpa using hl) hp' h
      exact ⟨os, st1, g1, bo, h1, h2, h3, h4, .skip x u l us os bo hx h5, h6⟩
    cases x with
    | ptr c =>
      unfold outsA at h
      have hu := hp 0 c rfl
      simp at hu
      subst hu
      obtain ⟨cs, st1, g1, b1, hM1, hE1, hL1, h1, hv1, ht1, _⟩ := obLend_run hM h
      obtain ⟨os, st2, g2, bo, h2, h3, h4, h5, h6, h7⟩ := outsA_run l hM1 (by simpa using hl) (by rw [hL1.ob]; exact hp') h1
      exact ⟨cs :: os, st2, g2, b1 ++ bo, h2, hE1.trans h3, hL1.trans h4, h5, .ptr c cs _ b1 l us os bo (hv1.mono h3.same h3.F (fun _ _ => rfl)) h6, ht1.app hM hL1 h7 h4⟩
    | _ => exact hoth (fun c h => by cases h) (by unfold outsA at h; exact h)

theorem lentArgs_ptr {i : Nat} {c : List C} {r : List V} {as : List A} (h : lentArgs i (.ptr c :: r) as = true) : ∃ as', as = .obj (900 + i) 0 :: as' ∧ lentArgs (i + 1) r as' = true := by
  cases as with
  | nil => simp [lentArgs] at h
  | cons a as =>
    cases a with
    | obj s off =>
      cases off with
      | zero =>
        simp only [lentArgs, Bool.and_eq_true] at h
        have := Nat.eq_of_beq_eq_true h.1
        subst this
        exact ⟨as, rfl, h.2⟩
      | succ off => simp [lentArgs] at h
    | _ => simp [lentArgs] at h
theorem lent_spec {F : Nat → Prop} {O R : Nat → Prop} : ∀ {l : List V} {i : Nat} {us : List Value} {as : List A} {bs : List Nat}, lentArgs i l as = true → VVs w F l us bs → as.length = us.length → (∀ (j : Nat) (x : A), as[j]? = some x → ∃ u, us[j]? = some u ∧ VR w g O R x u) →
    (∀ s b, (s, b) ∈ lentOf i l us → O s ∧ g.ob s = b) ∧ ∀ (j : Nat) (c : List C), l[j]? = some (.ptr c) → ∃ b, us[j]? = some (.pointer (some ⟨b, 0, none⟩)) ∧ (900 + (i + j), b) ∈ lentOf i l us
  | [], i, us, as, bs, hl, hV, hlen, hx => by
    cases hV
    exact ⟨fun s b h => by simp [lentOf] at h, fun j c h => by simp at h⟩
  | x :: l, i, us, as, bs, hl, hV, hlen, hx => by
    cases hV with
    | cons x v b l vs bs' h1 h2 =>
      obtain ⟨a, as, rfl⟩ : ∃ a as', as = a :: as' := by
        cases as with
        | nil => simp at hlen
        | cons a as => exact ⟨a, as, rfl⟩
      obtain ⟨u, hu, hr⟩ := hx 0 a rfl
      simp at hu
      subst hu
      have hx' : ∀ (j : Nat) (x : A), as[j]? = some x → ∃ u, vs[j]? = some u ∧ VR w g O R x u := fun j x hj => by simpa using hx (j + 1) x (by simpa using hj)
      have hoth : (∀ c, x ≠ .ptr c) → lentOf i (x :: l) (v :: vs) = lentOf (i + 1) l vs → lentArgs (i + 1) l as = true →
          (∀ s b, (s, b) ∈ lentOf i (x :: l) (v :: vs) → O s ∧ g.ob s = b) ∧ ∀ (j : Nat) (c : List C), (x :: l)[j]? = some (.ptr c) → ∃ b, (v :: vs)[j]? = some (.pointer (some ⟨b, 0, none⟩)) ∧ (900 + (i + j), b) ∈ lentOf i (x :: l) (v :: vs) := fun hnp he hla => by
        obtain ⟨h3, h4⟩ := lent_spec hla h2 (by simpa using hlen) hx'
        rw [he]
        refine ⟨h3, fun j c hj => ?_⟩
        cases j with
        | zero => simp at hj; exact absurd hj (hnp c)
        | succ j =>
          obtain ⟨b, h5, h6⟩ := h4 j c (by simpa using hj)
          exact ⟨b, by simpa using h5, by rw [show i + (j + 1) = i + 1 + j by omega]; exact h6⟩
      cases x with
      | ptr c =>
        obtain ⟨as', he, hla⟩ := lentArgs_ptr hl
        injection he with e1 e2
        subst e1 e2
        cases h1 with
        | ptr cells bb arr e vals bs1 q1 q2 q3 q4 =>
            obtain ⟨h3, h4⟩ := lent_spec hla h2 (by simpa using hlen) hx'
            cases hr with
            | obj _ _ hO =>
              simp only [lentOf]
              refine ⟨fun s b hm => ?_, fun j c hj => ?_⟩
              · rcases List.mem_cons.1 hm with hm | hm
                · cases hm; exact ⟨hO, rfl⟩
                · exact h3 s b hm
              · cases j with
                | zero => exact ⟨_, rfl, List.mem_cons_self ..⟩
                | succ j =>
                  obtain ⟨b, h5, h6⟩ := h4 j c (by simpa using hj)
                  exact ⟨b, by simpa using h5, List.mem_cons_of_mem _ (by rw [show i + (j + 1) = i + 1 + j by omega]; exact h6)⟩
      | _ => exact hoth (fun c h => by cases h) (by cases v <;> rfl) (by unfold lentArgs at hl; exact hl)
end
inductive All2 {α β : Type} (R : α → β → Prop) : List α → List β → Prop
  | nil : All2 R [] []
  | cons {a : α} {b : β} {l : List α} {l' : List β} (h : R a b) (hs : All2 R l l') : All2 R (a :: l) (b :: l')
/-- An argument may be seen so. -/
inductive CLe : C → C → Prop
  | refl (c : C) : CLe c c
  | nilT (sz : Nat) : CLe .nil (.t (.sl sz []))
  | nilO (e sz : Nat) : CLe .nil (.ow e sz [])
  | sz (s s' : Nat) : CLe (.t (.sl s [])) (.t (.sl s' []))
mutual
inductive VLe : V → V → Prop
  | refl (v : V) : VLe v v
  | one {c c' : C} (h : CLe c c') : VLe (.one c) (.one c')
  | agg {l l' : List C} (h : All2 CLe l l') : VLe (.agg l) (.agg l')
  | tup {l l' : List V} (h : VLes l l') : VLe (.tup l) (.tup l')
  | cut (l r : List T) : VLe (.fptr (l ++ r)) (.fptr l)
inductive VLes : List V → List V → Prop
  | nil : VLes [] []
  | cons {v v' : V} {l l' : List V} (h : VLe v v') (hs : VLes l l') : VLes (v :: l) (v' :: l')
end
theorem CLe.cv {w : World} {F : Nat → Prop} {c c' : C} {v : Value} {bs : List Nat} (h : CLe c c') (hv : CV w F c v bs) : CV w F c' v bs := by
  cases h with
  | refl => exact hv
  | nilT sz => cases hv; exact .t _ _ (.sl0 _ _ _ (by first | assumption | exact fun _ => rfl | (intro h; cases h)))
  | nilO e sz =>
    cases hv
    exact .ow e sz [] (.slice none 0 0) [] ⟨by simp, .inl ⟨rfl, rfl⟩⟩ ⟨by simp, fun i row h => by simp at h, fun i row j x h => by simp at h⟩
  | sz s s' =>
    cases hv with
    | t _ _ h =>
      cases h with
      | sl0 _ _ _ ha => exact .t _ _ (.sl0 _ _ _ (by first | assumption | exact fun _ => rfl | (intro h; cases h)))
      | sl => exact .t _ _ (.sl0 _ _ _ (by first | assumption | exact fun _ => rfl | (intro h; cases h)))
theorem cvs_le {w : World} {F : Nat → Prop} : ∀ {l l' : List C} {vs : List Value} {bs : List Nat}, All2 CLe l l' → CVs w F l vs bs → CVs w F l' vs bs
  | _, _, _, _, .nil, .nil => .nil
  | _, _, _, _, .cons h hs, .cons _ _ _ _ _ _ hc hcs => .cons _ _ _ _ _ _ (h.cv hc) (cvs_le hs hcs)
mutual
theorem VLe.vv {w : World} {F : Nat → Prop} : ∀ {x x' : V} {v : Value} {bs : List Nat}, VLe x x' → VV w F x v bs → VV w F x' v bs
  | _, _, _, _, .refl _, hv => hv
  | _, _, _, _, .one h, .one _ _ _ hc => .one _ _ _ (h.cv hc)
  | _, _, _, _, .agg h, .agg _ vs _ hc => .agg _ vs _ (cvs_le h hc)
  | _, _, _, _, .tup h, .tup _ vs _ hc => .tup _ vs _ (vvs_le h hc)
  | _, _, _, _, .cut l r, .fptr _ b off u hF hx hr => .fptr l b off u hF
      (fun j x hj => hx j x (by rw [List.getElem?_append_left (List.getElem?_eq_some_iff.1 hj).1]; exact hj)) (fun j x hj => hr j x (by rw [List.getElem?_append_left (List.getElem?_eq_some_iff.1 hj).1]; exact hj))
theorem vvs_le {w : World} {F : Nat → Prop} : ∀ {l l' : List V} {vs : List Value} {bs : List Nat}, VLes l l' → VVs w F l vs bs → VVs w F l' vs bs
  | _, _, _, _, .nil, .nil => .nil
  | _, _, _, _, .cons h hs, .cons _ _ _ _ _ _ hc hcs => .cons _ _ _ _ _ _ (h.vv hc) (vvs_le hs hcs)
end
theorem VLe.ptr {x : V} {c : List C} (h : VLe x (.ptr c)) : x = .ptr c := by cases h; rfl
theorem VLe.nptr {x x' : V} (h : VLe x x') (hx : ∀ c, x' ≠ .ptr c) : ∀ c, x ≠ .ptr c := by
  cases h <;> first | exact hx | (intro c hc; cases hc)
theorem outs_le {w : World} {F : Nat → Prop} {l' : List V} {us : List Value} {os : List (List C)} {bo : List Nat} (ho : Outs w F l' us os bo) : ∀ {l : List V}, VLes l l' → Outs w F l us os bo := by
  induction ho with
  | nil => intro l h; cases h; exact .nil
  | ptr c c' v bs l vs os bo hv ho ih =>
    intro l h
    cases h with
    | cons h hs =>
      have := h.ptr
      subst this
      exact .ptr c c' v bs _ vs os bo hv (ih hs)
  | skip x v l vs os bo hx ho ih =>
    intro l h
    cases h with
    | cons h hs => exact .skip _ v _ vs os bo (h.nptr hx) (ih hs)
/-- Lent variables as they are left, seen another way. -/
theorem outs_cle {w : World} {F : Nat → Prop} {l : List V} {us : List Value} {os : List (List C)} {bo : List Nat} (ho : Outs w F l us os bo) : ∀ {os' : List (List C)}, All2 (All2 CLe) os os' → Outs w F l us os' bo := by
  induction ho with
  | nil => intro os' h; cases h; exact .nil
  | ptr c c' v bs l vs os bo hv ho ih =>
    intro os' h
    cases h with
    | cons h hs =>
      refine .ptr c _ v bs l vs _ bo ?_ (ih hs)
      cases hv with
      | ptr _ b arr e vals bs' h1 h2 h3 h4 => exact .ptr _ b arr e vals bs' h1 h2 h3 (cvs_le h h4)
  | skip x v l vs os bo hx ho ih => intro os' h; exact .skip x v l vs _ bo hx (ih h)
end Go.Tm
