/- A contract out of a walk of the body. -/
import Derived.Test.YtohcknmdebahiaaGreatDoorTm26
set_option linter.unusedVariables false
set_option linter.unusedSimpArgs false
namespace Go.Tm
open Go.RowKit

def St.empty : St := ⟨fun _ => .undef, fun _ => none, fun _ => none⟩
/-- Where the body begins. -/
def St.start (as : List A) (st : St) : St := ⟨fun i => match as[i]? with | some a => a | none => .undef, st.ob, st.rw⟩
/-- A result: a variable of one's own goes along with its address. -/
def retV {α : Type} (m : Bool) : A → (V → MA α) → MA α
  | .obj s 0, k => obLend s fun cs => k (.ptr cs)
  | a, k => A.toV m a k
theorem retV_run {E : En} {w : World} {α : Type} {st' : St} {m : Bool} {x : A} {st : St} {g : Gh} {k : V → MA α} {y : α} {v : Value} (hM : Mem E g st w) (hv : VR w g st.O st.R x v) (h : (retV m x k).run st = some (y, st')) :
    ∃ c st1 g1 bs, Mem E g1 st1 w ∧ Ext w w g g1 st.O st.R st1.O st1.R ∧ Lnd g st g1 st1 ∧ (k c).run st1 = some (y, st') ∧ VV w g1.F c v bs ∧ Tk g st g1 st1 bs := by
  unfold retV at h
  split at h
  · rename_i s k'
    cases hv with
    | obj _ _ hs =>
      obtain ⟨cs, st1, g1, bs, h1, h2, h3, h4, h5, h6, _⟩ := obLend_run hM h
      exact ⟨_, st1, g1, bs, h1, h2, h3, h4, h5, h6⟩
  · obtain ⟨c, st1, g1, bs, h1, h2, h3, h4, h5, h6, _⟩ := toV_run _ hM hv h
    exact ⟨c, st1, g1, bs, h1, h2, h3.lnd, h4, h5, h6⟩
/-- What the body has to come to. -/
def RetTo (P : Program) (m : Bool) (fn : Func) (args : List V) (res : V) (outs : List (List C)) (e : Exit) (st : St) : Prop :=
  (e = .ret ∨ e = .normal) ∧ ∃ l st1 res0 outs0, resOf P st fn.results.toList = some l ∧ (outsA 0 args fun os => retV m (tupA l) fun v => MA.ret (v, os)).run st = some ((res0, outs0), st1) ∧ VLe res0 res ∧ All2 (All2 CLe) outs0 outs
def resTmps (n : Nat) (fn : Func) : Bool := fn.results.toList.all fun | .tmp t => Nat.blt t n | _ => true

theorem CallOK.of_body {P : Program} {fn : Func} {c : Code} {f : FuncId} {args : List V} {as : List A} {st0 : St} {m : Bool} {res : V} {outs : List (List C)}
    (hf : P.funcs[f]? = some fn) (hb : fn.body = some c) (hnm : (fn.name == "runtime.NumGoroutine") = false) (hle : as.length ≤ fn.ntmps) (ht : resTmps fn.ntmps fn = true)
    (ha : (argsA 0 args MA.ret).run St.empty = some (as, st0)) (hl : lentArgs 0 args as = true)
    (h : Wp P fn.ntmps (lentSlots 0 args) c (RetTo P m fn args res outs) (St.start as st0)) : CallOK P f args res outs := by
  refine ⟨⟨fn, hf, by simp [hb], hnm⟩, fun w F vs bs hF hVV hnd hnf htb => ?_⟩
  let E : En := { w0 := w, X := fun b => b ∈ bs, F0 := F, lent := lentOf 0 args vs }
  let g0 : Gh := { F := F, ob := fun _ => 0, rw := fun _ => .nilFunc, dw := w }
  have hM0 : Mem E g0 St.empty w := ⟨fun s cells h => (by cases h), fun s s' h => (by cases h), fun r x h => (by cases h), fun r r' b h => (by obtain ⟨_, _, _, h⟩ := h; cases h), fun r s h => (by obtain ⟨_, _, _, h⟩ := h; cases h),
    fun b hb => ⟨hF b hb, fun _ => .inl hb, .inl hb⟩, rfl, rfl, rfl, Nat.le_refl _, fun _ _ _ => .inl rfl, fun _ h => h.elim, ⟨rfl, rfl, rfl⟩, fun _ h => h.elim⟩
  obtain ⟨as', st1, g1, hG, h1, hlen, hx⟩ := argsA_run args hM0 hVV hnd (fun b hb => ⟨hnf b hb, fun s hs => (by cases hs), fun r hr => (by obtain ⟨_, _, _, h⟩ := hr; cases h), .inr hb⟩) ha
  obtain ⟨rfl, rfl⟩ := ret_inv h1
  have hM1 : Mem E g1 (St.start as st0) w := ⟨hG.mem.ob, hG.mem.obne, hG.mem.row, hG.mem.rowne, hG.mem.rowob, hG.mem.F, hG.mem.os, hG.mem.tape, hG.mem.output, hG.mem.sizes, hG.mem.frame, hG.mem.shp, hG.mem.dep0⟩
  obtain ⟨hl1, hl2⟩ := lent_spec hl hVV hlen hx
  have hS : Sim E g1 fn.ntmps (St.start as st0) { tmps := vs.toArray ++ Array.replicate (fn.ntmps - vs.toArray.size) undef, defers := [] } w := by
    refine ⟨hM1, by simp; omega, rfl, fun i hi => ?_, fun i hi => ?_, hl1, fun _ h => (by cases h)⟩
    · show ∃ v, _ ∧ VR w g1 st0.O st0.R (match as[i]? with | some a => a | none => .undef) v
      cases hai : as[i]? with
      | some a =>
        obtain ⟨u, hu, hr⟩ := hx i a hai
        have hlt : i < vs.length := (List.getElem?_eq_some_iff.1 hu).1
        exact ⟨u, by rw [Array.getElem?_append_left (by simpa using hlt)]; simpa using hu, hr⟩
      | none =>
        have hge : as.length ≤ i := List.getElem?_eq_none_iff.1 hai
        refine ⟨undef, ?_, .undef _⟩
        rw [Array.getElem?_append_right (by simpa [← hlen] using hge)]
        rw [Array.getElem?_replicate, if_pos (by simp only [List.size_toArray]; omega)]
    · show (match as[i]? with | some a => a | none => .undef) = A.undef
      rw [List.getElem?_eq_none_iff.2 (by omega)]
  refine calls_of_wp hf hb (wp_mono (h E g1 _ w ⟨⟨[], by rw [List.append_nil]; exact (lentOf_fst _ _ _).symm, lentOf_ge _ _ _, fun _ h => (by cases h), fun h => (by cases h)⟩, ⟨htb.mono fun b h => h.elim id fun h => (by cases h.1)⟩⟩ hS) fun e a' w' ⟨g', st', hS', hR⟩ => ?_)
  obtain ⟨he, l, st2, res0, outs0, hres, hrun, hvle, hole⟩ := hR
  have hfin : a'.defers = [] ∧ ∃ v, (results fn a'.tmps).run P w' = .ok v w' ∧ (fun e w' => ∃ v F' bv bo, e = Ending.returned v ∧ Calm w w' ∧ (∀ b, b < w.heap.size → b ∉ bs → w'.heap[b]? = w.heap[b]?) ∧ (∀ b, F b → F' b) ∧
      (∀ b, F' b → b < w'.heap.size ∧ (b < w.heap.size → F b ∨ b ∈ bs) ∧ (F b ∨ Wr w' b)) ∧ VV w' F' res v bv ∧ Outs w' F' args vs outs bo ∧ (bv ++ bo).Nodup ∧ ∀ b ∈ bv ++ bo, ¬ F' b ∧ (w.heap.size ≤ b ∨ b ∈ bs)) (.returned v) w' := by
    refine ⟨hS'.defers, ?_⟩
    obtain ⟨v, hrv, hvv⟩ := res_run hS' hres ht
    refine ⟨v, hrv, ?_⟩
    have hM' := hS'.mem
    obtain ⟨os, st3, g3, bo, hM3, hE3, hL3, h3, hO, hT3⟩ := outsA_run (w := w') args hM' (us := vs) (hVV.len.symm) (fun j c hj => by
      obtain ⟨b, h5, h6⟩ := hl2 j c hj
      rw [(hS'.lent _ _ h6).2]
      exact h5) hrun
    obtain ⟨c', st4, g4, bv, hM4, hE4, hL4, h4, hv4, hT4⟩ := retV_run hM3 (hvv.mono hE3) h3
    obtain ⟨h5, rfl⟩ := ret_inv h4
    injection h5 with h5 h6
    subst h5 h6
    have hT := hT3.app hM' hL3 hT4 hL4
    have hof : ∀ b ∈ bo ++ bv, w.heap.size ≤ b ∨ b ∈ bs := fun b hb => by
      rcases hT.of b hb with ⟨r, ⟨e, sz, rows, h7⟩, _, h8⟩ | ⟨s, ⟨c, cs, h7⟩, _, h8⟩
      · obtain ⟨_, _, _, _, h9⟩ := hM'.row r _ h7
        exact (h9 b h8).2
      · obtain ⟨_, _, _, _, _, _, h9⟩ := hM'.ob s _ h7
        rw [h8] at h9
        exact h9
    have hnF : ∀ b ∈ bo ++ bv, ¬ (g4.F b ∨ F b) := fun b hb h => by
      rcases h with h | h
      · exact hT.nf b hb h
      · rcases hof b hb with h7 | h7
        · have := hF b h; omega
        · exact hnf b h7 h
    have hmem : ∀ b, b ∈ bv ++ bo → b ∈ bo ++ bv := fun b hb => by
      rcases List.mem_append.1 hb with h | h <;> simp [h]
    refine ⟨v, fun b => g4.F b ∨ F b, bv, bo, rfl, ⟨hM4.os, hM4.tape, hM4.output, hM4.sizes⟩, fun b hb hbs => hM4.frm rfl b hb hbs, fun b h => .inr h, fun b h => ?_, hvle.vv (hv4.mono (fun _ _ => rfl) (fun _ h => .inl h) (fun _ _ => rfl)), outs_cle (hO.mono (fun b h => .inl (hE4.F b h))) hole, ?_, fun b hb => ⟨hnF b (hmem b hb), hof b (hmem b hb)⟩⟩
    · rcases h with h | h
      · exact hM4.F b h
      · exact ⟨Nat.lt_of_lt_of_le (hF b h) hM4.sizes, fun _ => .inl h, .inl h⟩
    · have := hT.nodup
      rw [List.nodup_append] at this ⊢
      exact ⟨this.2.1, this.1, fun x hx y hy he => this.2.2 y hy x hx he.symm⟩
  rcases he with rfl | rfl
  · exact hfin
  · exact hfin

/-! ### the same for functions that only read, that write foreign cells, that write a row in place -/
theorem start_sim {E : En} {g : Gh} {st0 : St} {w : World} {n : Nat} {as : List A} {vs : List Value} (hM : Mem E g (St.start as st0) w) (hlen : vs.length = as.length) (hle : as.length ≤ n)
    (hx : ∀ (j : Nat) (x : A), as[j]? = some x → ∃ u, vs[j]? = some u ∧ VR w g st0.O st0.R x u) (hl : E.lent = []) (hp : ∀ v, E.pin = some v → (St.start as st0).R PR ∧ g.rw PR = v) :
    Sim E g n (St.start as st0) { tmps := vs.toArray ++ Array.replicate (n - vs.toArray.size) undef, defers := [] } w := by
  refine ⟨hM, by simp; omega, rfl, fun i hi => ?_, fun i hi => ?_, fun s b h => (by rw [hl] at h; cases h), hp⟩
  · show ∃ v, _ ∧ VR w g st0.O st0.R (match as[i]? with | some a => a | none => .undef) v
    cases hai : as[i]? with
    | some a =>
      obtain ⟨u, hu, hr⟩ := hx i a hai
      have hlt : i < vs.length := (List.getElem?_eq_some_iff.1 hu).1
      exact ⟨u, by rw [Array.getElem?_append_left (by simpa using hlt)]; simpa using hu, hr⟩
    | none =>
      have hge : as.length ≤ i := List.getElem?_eq_none_iff.1 hai
      refine ⟨undef, ?_, .undef _⟩
      rw [Array.getElem?_append_right (by simpa [hlen] using hge)]
      rw [Array.getElem?_replicate, if_pos (by simp only [List.size_toArray]; omega)]
  · show (match as[i]? with | some a => a | none => .undef) = A.undef
    rw [List.getElem?_eq_none_iff.2 (by omega)]

def C.toX : C → A
  | .t x => exOf false x
  | _ => .undef
def V.toX : V → A
  | .one c => c.toX
  | .agg l => .agg (l.map C.toX)
  | .fptr cells => .exa false cells
  | _ => .undef
theorem CV.toX {w : World} {D : Nat → Prop} {g : Gh} {c : C} {v : Value} {bs : List Nat} (h : CV w D c v bs) (h1 : g.D = D) (h2 : g.dw = w) (h3 : g.sh = false) : VR w g noP noP c.toX v := by
  cases h with
  | t x v h =>
    cases x with
    | sl sz rows => exact .ext false _ v h3 (by rw [h1, h2]; exact h.sd)
    | int k n => exact .t _ v (h.sc rfl)
    | bool b => exact .t _ v (h.sc rfl)
    | str s => exact .t _ v (h.sc rfl)
    | nilf => exact .t _ v (h.sc rfl)
  | nil => exact .undef _
  | ow => exact .undef _
theorem CVs.toX {w : World} {D : Nat → Prop} {g : Gh} {l : List C} {vs : List Value} {bs : List Nat} (h : CVs w D l vs bs) (h1 : g.D = D) (h2 : g.dw = w) (h3 : g.sh = false) :
    l.length = vs.length ∧ ∀ (i : Nat) (x : A) (v : Value), (l.map C.toX)[i]? = some x → vs[i]? = some v → VR w g noP noP x v := by
  induction h with
  | nil => exact ⟨rfl, fun i x v h => by simp at h⟩
  | cons c v b cs vs bs h hs ih =>
    refine ⟨by simp [ih.1], fun i x u hx hu => ?_⟩
    cases i with
    | zero => simp at hx hu; subst hx hu; exact h.toX h1 h2 h3
    | succ i => exact ih.2 i x u (by simpa using hx) (by simpa using hu)
theorem VV.toX {w : World} {D : Nat → Prop} {g : Gh} {x : V} {v : Value} {bs : List Nat} (h : VV w D x v bs) (h1 : g.D = D) (h2 : g.dw = w) (h3 : g.sh = false) : VR w g noP noP x.toX v := by
  cases h with
  | one c v bs h => exact h.toX h1 h2 h3
  | agg l vs bs h =>
    obtain ⟨h4, h5⟩ := h.toX h1 h2 h3
    exact .agg _ vs (by simp [h4]) h5
  | fptr cells b off u hF hx hr => exact .exa false cells b off u h3 (by rw [h1]; exact hF) (by rw [h2]; exact hx) (fun j x hj => by rw [h1, h2]; exact (hr j x hj).sd)
  | _ => exact .undef _
theorem VVs.toX {w : World} {D : Nat → Prop} {g : Gh} (h1 : g.D = D) (h2 : g.dw = w) (h3 : g.sh = false) : ∀ {l : List V} {vs : List Value} {bs : List Nat}, VVs w D l vs bs →
    vs.length = l.length ∧ ∀ (j : Nat) (x : A), (l.map V.toX)[j]? = some x → ∃ u, vs[j]? = some u ∧ VR w g noP noP x u
  | _, _, _, .nil => ⟨rfl, fun j x h => by simp at h⟩
  | _, _, _, .cons x v b l vs bs h hs => by
    obtain ⟨h4, h5⟩ := VVs.toX h1 h2 h3 hs
    refine ⟨by simp [h4], fun j y hy => ?_⟩
    cases j with
    | zero => simp at hy; subst hy; exact ⟨v, rfl, h.toX h1 h2 h3⟩
    | succ j => exact h5 j y (by simpa using hy) |>.imp fun u hu => ⟨by simpa using hu.1, hu.2⟩

theorem mem0 {E : En} {g : Gh} {as : List A} {w : World} (h1 : ∀ b, ¬ g.F b) (hS0 : ∀ b, ¬ g.S b := by exact fun _ h => h) (hw : E.w0 = w) (hd : g.D = E.D ∧ g.dw = E.w0 ∧ g.sh = E.sh) (hD : ∀ b, E.D b → b < E.w0.heap.size ∧ ¬ E.X b ∧ (E.sh = true → ¬ E.F0 b ∧ Wr E.w0 b)) : Mem E g (St.start as St.empty) w := by
  subst hw
  exact ⟨fun s cells h => (by cases h), fun s s' h => (by cases h), fun r x h => (by cases h), fun r r' b h => (by obtain ⟨_, _, _, h⟩ := h; cases h), fun r s h => (by obtain ⟨_, _, _, h⟩ := h; cases h),
    fun b hb => (h1 b hb).elim, rfl, rfl, rfl, Nat.le_refl _, fun _ _ _ => .inl rfl, fun b h => (hS0 b h).elim, hd, hD⟩

theorem DOK.of_body {P : Program} {fn : Func} {c : Code} {f : FuncId} {args : List V} {m : Bool} {res : V}
    (hf : P.funcs[f]? = some fn) (hb : fn.body = some c) (hnm : (fn.name == "runtime.NumGoroutine") = false) (hle : args.length ≤ fn.ntmps) (ht : resTmps fn.ntmps fn = true)
    (h : Wp P fn.ntmps [1] c (RetTo P m fn [] res []) (St.start (args.map V.toX) St.empty)) : DOK P f args res := by
  refine ⟨⟨fn, hf, by simp [hb], hnm⟩, fun w D vs hD hVV htb => ?_⟩
  let E : En := { w0 := w, X := noP, F0 := noP, lent := [], D := D }
  let g0 : Gh := { F := noP, ob := fun _ => 0, rw := fun _ => .nilFunc, D := D, dw := w }
  have hM0 : Mem E g0 (St.start (args.map V.toX) St.empty) w := mem0 (fun _ h => h) (hw := rfl) (hd := ⟨rfl, rfl, rfl⟩) (hD := fun b hb => ⟨hD b hb, fun h => h, fun h => (by cases h)⟩)
  obtain ⟨hlen, hx⟩ := VVs.toX (g := g0) rfl rfl rfl hVV
  have hS := start_sim (n := fn.ntmps) hM0 (by simpa using hlen) (by simpa using hle) (fun j x hj => by
    obtain ⟨u, h1, h2⟩ := hx j x hj
    exact ⟨u, h1, h2.mono ⟨fun _ _ => rfl, fun _ h => h, fun _ h => h.elim, fun _ h => h.elim, ⟨rfl, rfl, rfl⟩, rfl, rfl⟩⟩) rfl (fun v h => (by cases h))
  refine calls_of_wp hf hb (wp_mono (h E g0 _ w ⟨⟨[1], rfl, fun _ h => (by cases h), fun _ h => (by cases h), fun _ b => ⟨fun h => h, fun h => h⟩⟩, ⟨htb.mono fun b h => h.elim id fun h => (by cases h.1)⟩⟩ hS) fun e a' w' ⟨g', st', hS', hR⟩ => ?_)
  obtain ⟨he, l, st2, res0, outs0, hres, hrun, hvle, hole⟩ := hR
  have hfin : a'.defers = [] ∧ ∃ v, (results fn a'.tmps).run P w' = .ok v w' ∧ (fun e w' => ∃ v F' bv, e = Ending.returned v ∧ Calm w w' ∧ (∀ b, b < w.heap.size → w'.heap[b]? = w.heap[b]?) ∧
      (∀ b, F' b → b < w'.heap.size ∧ w.heap.size ≤ b ∧ Wr w' b) ∧ VV w' F' res v bv ∧ bv.Nodup ∧ ∀ b ∈ bv, ¬ F' b ∧ w.heap.size ≤ b) (.returned v) w' := by
    refine ⟨hS'.defers, ?_⟩
    obtain ⟨v, hrv, hvv⟩ := res_run hS' hres ht
    refine ⟨v, hrv, ?_⟩
    have hM' := hS'.mem
    simp only [outsA] at hrun
    obtain ⟨c', st4, g4, bv, hM4, hE4, hL4, h4, hv4, hT4⟩ := retV_run hM' hvv hrun
    obtain ⟨h5, rfl⟩ := ret_inv h4
    injection h5 with h5 h6
    subst h5 h6
    have hof : ∀ b ∈ bv, w.heap.size ≤ b := fun b hb => by
      rcases hT4.of b hb with ⟨r, ⟨e, sz, rows, h7⟩, _, h8⟩ | ⟨s, ⟨c, cs, h7⟩, _, h8⟩
      · obtain ⟨_, _, _, _, h9⟩ := hM'.row r _ h7
        exact (h9 b h8).2.resolve_right (fun h => h)
      · obtain ⟨_, _, _, _, _, _, h9⟩ := hM'.ob s _ h7
        rw [h8] at h9
        exact h9.resolve_right (fun h => h)
    refine ⟨v, g4.F, bv, rfl, ⟨hM4.os, hM4.tape, hM4.output, hM4.sizes⟩, fun b hb => hM4.frm rfl b hb (fun h => h), fun b h => ?_, hvle.vv hv4, hT4.nodup, fun b hb => ⟨hT4.nf b hb, hof b hb⟩⟩
    obtain ⟨h7, h8, h9⟩ := hM4.F b h
    refine ⟨h7, Nat.le_of_not_lt fun hlt => ?_, h9.resolve_left (fun h => h)⟩
    rcases h8 hlt with h | h <;> exact h
  rcases he with rfl | rfl
  · exact hfin
  · exact hfin

def MRet (P : Program) (fn : Func) (n : T) (e : Exit) (st : St) : Prop := (e = .ret ∨ e = .normal) ∧ ∃ l, resOf P st fn.results.toList = some l ∧ tupA l = .t n
theorem MOK.of_body {P : Program} {fn : Func} {c : Code} {f : FuncId} {as : List A} {n : T}
    (hf : P.funcs[f]? = some fn) (hb : fn.body = some c) (hnm : (fn.name == "runtime.NumGoroutine") = false) (hle : as.length ≤ fn.ntmps) (ht : resTmps fn.ntmps fn = true) (hsc : n.sc = true)
    (h : Wp P fn.ntmps [1] c (MRet P fn n) (St.start as St.empty)) : MOK P f as n := by
  refine ⟨hsc, ⟨fn, hf, by simp [hb], hnm⟩, fun w D vs hD hlen hx htb => ?_⟩
  let E : En := { w0 := w, X := noP, F0 := noP, lent := [], D := D, sh := true }
  have hM0 : Mem E (gM w D) (St.start as St.empty) w := mem0 (fun _ h => h) (hw := rfl) (hd := ⟨rfl, rfl, rfl⟩) (hD := fun b hb => ⟨(hD b hb).1, fun h => h, fun _ => ⟨fun h => h, (hD b hb).2⟩⟩)
  have hS := start_sim (n := fn.ntmps) hM0 hlen hle (fun j x hj => by
    obtain ⟨u, h1, h2⟩ := hx j x hj
    exact ⟨u, h1, h2.mono ⟨fun _ _ => rfl, fun _ h => h, fun _ h => h.elim, fun _ h => h.elim, ⟨rfl, rfl, rfl⟩, rfl, rfl⟩⟩) rfl (fun v h => (by cases h))
  refine calls_of_wp hf hb (wp_mono (h E (gM w D) _ w ⟨⟨[1], rfl, fun _ h => (by cases h), fun _ h => (by cases h), fun _ b => ⟨fun h => h, fun h => h⟩⟩, ⟨htb.mono fun b h => h.elim (fun h => h.elim) fun h => h.2⟩⟩ hS) fun e a' w' ⟨g', st', hS', hR⟩ => ?_)
  obtain ⟨he, l, hres, hl⟩ := hR
  have hfin : a'.defers = [] ∧ ∃ v, (results fn a'.tmps).run P w' = .ok v w' ∧ (fun e w' => ∃ v, e = Ending.returned v ∧ Rd w' noP n v ∧ Calm w w' ∧ (∀ b, b < w.heap.size → ¬ D b → w'.heap[b]? = w.heap[b]?) ∧ ∀ b, D b → KS w w' b) (.returned v) w' := by
    refine ⟨hS'.defers, ?_⟩
    obtain ⟨v, hrv, hvv⟩ := res_run hS' hres ht
    refine ⟨v, hrv, ?_⟩
    have hM' := hS'.mem
    rw [hl] at hvv
    have hd := hM'.dep0.1
    refine ⟨v, rfl, ?_, ⟨hM'.os, hM'.tape, hM'.output, hM'.sizes⟩, fun b h1 h2 => ?_, fun b hb => ?_⟩
    · cases hvv with | t _ _ h => exact h.sc hsc
    · rcases hM'.frame b h1 (fun h => h) with h3 | ⟨_, h3, _⟩
      · exact h3
      · rw [hd.1] at h3; exact (h2 h3).elim
    · rcases hM'.frame b (hD b hb).1 (fun h => h) with h3 | ⟨_, _, h3⟩
      · exact (KS.refl (hD b hb).2).same h3
      · exact h3
  rcases he with rfl | rfl
  · exact hfin
  · exact hfin

def RRet (P : Program) (fn : Func) (n : T) (e sz : Nat) (rows' : List (List T)) (ex : Exit) (st : St) : Prop :=
  (ex = .ret ∨ ex = .normal) ∧ (∃ l, resOf P st fn.results.toList = some l ∧ tupA l = .t n) ∧ st.rw PR = some (.live e sz rows')
def St.row1 (e sz : Nat) (rows : List (List T)) : St := ⟨fun _ => .undef, fun _ => none, fun r => bif Nat.beq r PR then some (.live e sz rows) else none⟩
theorem row1_get {e sz r : Nat} {rows : List (List T)} {x : Row} (h : (St.row1 e sz rows).rw r = some x) : r = PR ∧ x = .live e sz rows := by
  unfold St.row1 at h
  simp only at h
  cases hb : Nat.beq r PR with
  | true => rw [hb] at h; cases h; exact ⟨Nat.eq_of_beq_eq_true hb, rfl⟩
  | false => rw [hb] at h; cases h
theorem scs_VR {w : World} {F : Nat → Prop} {g : Gh} : ∀ {ts : List T} {vs : List Value} {bs : List Nat}, ts.all T.sc = true → VVs w F (ts.map fun x => .one (.t x)) vs bs →
    vs.length = ts.length ∧ ∀ (j : Nat) (x : A), (ts.map A.t)[j]? = some x → ∃ u, vs[j]? = some u ∧ VR w g noP noP x u
  | [], _, _, _, .nil => ⟨rfl, fun j x h => by simp at h⟩
  | t :: ts, _, _, hts, .cons _ u b _ us bs (.one _ _ _ hcv) hs => by
    simp only [List.all_cons, Bool.and_eq_true] at hts
    have h : Rd w F t u := by cases hcv; assumption
    obtain ⟨h1, h2⟩ := scs_VR hts.2 hs
    refine ⟨by simp [h1], fun j x hj => ?_⟩
    cases j with
    | zero => simp at hj; subst hj; exact ⟨u, rfl, .t _ _ (h.sc hts.1)⟩
    | succ j => exact h2 j x (by simpa using hj) |>.imp fun u hu => ⟨by simpa using hu.1, hu.2⟩
theorem ROK.of_body {P : Program} {fn : Func} {c : Code} {f : FuncId} {e sz : Nat} {rows rows' : List (List T)} {ts : List T} {n : T}
    (hf : P.funcs[f]? = some fn) (hb : fn.body = some c) (hnm : (fn.name == "runtime.NumGoroutine") = false) (hle : ts.length + 1 ≤ fn.ntmps) (ht : resTmps fn.ntmps fn = true) (hsc : n.sc = true) (hts : ts.all T.sc = true)
    (hrs : ∀ row ∈ rows', ∀ x ∈ row, T.sc x = true)
    (h : Wp P fn.ntmps [0] c (RRet P fn n e sz rows') (St.start (.own PR :: ts.map A.t) (St.row1 e sz rows))) : ROK P f e sz rows (ts.map fun x => .one (.t x)) n rows' := by
  refine ⟨hsc, ⟨fn, hf, by simp [hb], hnm⟩, fun w F v vs inner hF hown hRC hnf hVV htb => ?_⟩
  let E : En := { w0 := w, X := fun b => v.ownBlock = some b, F0 := F, lent := [], pin := some v }
  let g0 : Gh := { F := F, ob := fun _ => 0, rw := fun _ => v, dw := w }
  have hrow : RowAt w w E.X F v (.live e sz rows) := hRC.rowAt (E := E) (g := g0) hown (fun b hb => ⟨hnf b hb, .inr hb⟩)
  have hL : ∀ {r}, (St.start (.own PR :: ts.map A.t) (St.row1 e sz rows)).L r → r = PR := fun ⟨_, _, _, h⟩ => (row1_get h).1
  have hM0 : Mem E g0 (St.start (.own PR :: ts.map A.t) (St.row1 e sz rows)) w := ⟨fun s cells h => (by cases h), fun s s' h => (by cases h), fun r x h => (by obtain ⟨_, rfl⟩ := row1_get h; exact hrow), fun r r' b h h' _ _ => (hL h).trans (hL h').symm, fun r s h hs => (by cases hs),
    fun b hb => ⟨hF b hb, fun _ => .inl hb, .inl hb⟩, rfl, rfl, rfl, Nat.le_refl _, fun _ _ _ => .inl rfl, fun _ h => h.elim, ⟨rfl, rfl, rfl⟩, fun _ h => h.elim⟩
  have hR : (St.start (.own PR :: ts.map A.t) (St.row1 e sz rows)).R PR := rfl
  obtain ⟨hlen, hx⟩ : vs.length = ts.length ∧ ∀ (j : Nat) (x : A), (ts.map A.t)[j]? = some x → ∃ u, vs[j]? = some u ∧ VR w g0 noP noP x u := by
    exact scs_VR hts hVV
  have hS := start_sim (vs := v :: vs) (n := fn.ntmps) hM0 (by simp [hlen]) (by simpa using hle) (fun j x hj => by
    cases j with
    | zero => simp at hj; subst hj; exact ⟨v, rfl, .own (g := g0) PR hR⟩
    | succ j =>
      obtain ⟨u, h1, h2⟩ := hx j x (by simpa using hj)
      exact ⟨u, by simpa using h1, h2.mono ⟨fun _ _ => rfl, fun _ h => h, fun _ h => h.elim, fun _ h => h.elim, ⟨rfl, rfl, rfl⟩, rfl, rfl⟩⟩) rfl (fun v' h => by cases h; exact ⟨hR, rfl⟩)
  refine calls_of_wp hf hb (wp_mono (h E g0 _ w ⟨⟨[0], rfl, fun _ h => (by cases h), fun _ _ => by simp, fun h => by simp at h⟩, ⟨htb.mono fun b h => h.elim id fun h => (by cases h.1)⟩⟩ hS) fun ex a' w' ⟨g', st', hS', hR'⟩ => ?_)
  obtain ⟨he, ⟨l, hres, hl⟩, hrw⟩ := hR'
  have hfin : a'.defers = [] ∧ ∃ v', (results fn a'.tmps).run P w' = .ok v' w' ∧ (fun ex w' => ∃ u inner', ex = Ending.returned u ∧ Rd w' noP n u ∧ Calm w w' ∧ (∀ b, b < w.heap.size → v.ownBlock ≠ some b → w'.heap[b]? = w.heap[b]?) ∧
      w'.ownsRow 0 e sz v rows'.length inner' ∧ RCs w' F sz rows' inner') (.returned v') w' := by
    refine ⟨hS'.defers, ?_⟩
    obtain ⟨u, hrv, hvv⟩ := res_run hS' hres ht
    refine ⟨u, hrv, ?_⟩
    have hM' := hS'.mem
    rw [hl] at hvv
    obtain ⟨inner', ho', hC, _⟩ := (hM'.row PR _ hrw).rcs
    rw [(hS'.pin v rfl).2] at ho'
    refine ⟨u, inner', rfl, ?_, ⟨hM'.os, hM'.tape, hM'.output, hM'.sizes⟩, fun b h1 h2 => hM'.frm rfl b h1 h2, ho', hC.size, hC.len, fun i row j x hi hj => ?_⟩
    · cases hvv with | t _ _ h => exact h.sc hsc
    · obtain ⟨q, hq, ho, hr⟩ := hC.rd i row j x hi hj
      exact ⟨q, hq, ho, hr.sc (hrs row (List.mem_of_getElem? hi) x (List.mem_of_getElem? hj))⟩
  rcases he with rfl | rfl
  · exact hfin
  · exact hfin
end Go.Tm
