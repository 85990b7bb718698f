/- A contract out of a walk of the body. -/
import Derived.Test.YtohcknmdebahiaaGreatTm26
set_option linter.unusedVariables false
set_option linter.unusedSimpArgs false
namespace Go.Tm
open Go.RowKit

def St.empty : St := ⟨fun _ => .undef, fun _ => none, fun _ => none⟩
/-- Where the body begins. -/
def St.start (as : List A) (st : St) : St := ⟨fun i => match as[i]? with | some a => a | none => .undef, st.ob, st.rw⟩
/-- A result: a variable of one's own goes along with its address. -/
def retV {α : Type} (m : Bool) : A → (V → MA α) → MA α
  | .obj s 0, k => obLend s fun cs => k (.ptr cs)
  | a, k => A.toV m a k
theorem retV_run {E : En} {w : World} {α : Type} {st' : St} {m : Bool} {x : A} {st : St} {g : Gh} {k : V → MA α} {y : α} {v : Value} (hM : Mem E g st w) (hv : VR w g st.O st.R x v) (h : (retV m x k).run st = some (y, st')) :
    ∃ c st1 g1 bs, Mem E g1 st1 w ∧ Ext w w g g1 st.O st.R st1.O st1.R ∧ Lnd g st g1 st1 ∧ (k c).run st1 = some (y, st') ∧ VV w g1.F c v bs ∧ Tk g st g1 st1 bs := by
  unfold retV at h
  split at h
  · rename_i s k'
    cases hv with
    | obj _ _ hs =>
      obtain ⟨cs, st1, g1, bs, h1, h2, h3, h4, h5, h6, _⟩ := obLend_run hM h
      exact ⟨_, st1, g1, bs, h1, h2, h3, h4, h5, h6⟩
  · obtain ⟨c, st1, g1, bs, h1, h2, h3, h4, h5, h6, _⟩ := toV_run _ hM hv h
    exact ⟨c, st1, g1, bs, h1, h2, h3.lnd, h4, h5, h6⟩
/-- What the body has to come to. -/
def RetTo (P : Program) (m : Bool) (fn : Func) (args : List V) (res : V) (outs : List (List C)) (e : Exit) (st : St) : Prop :=
  (e = .ret ∨ e = .normal) ∧ ∃ l st1 res0 outs0, resOf P st fn.results.toList = some l ∧ (outsA 0 args fun os => retV m (tupA l) fun v => MA.ret (v, os)).run st = some ((res0, outs0), st1) ∧ VLe res0 res ∧ All2 (All2 CLe) outs0 outs
def resTmps (n : Nat) (fn : Func) : Bool := fn.results.toList.all fun | .tmp t => Nat.blt t n | _ => true

theorem CallOK.of_body {P : Program} {fn : Func} {c : Code} {f : FuncId} {args : List V} {as : List A} {st0 : St} {m : Bool} {res : V} {outs : List (List C)}
    (hf : P.funcs[f]? = some fn) (hb : fn.body = some c) (hnm : (fn.name == "runtime.NumGoroutine") = false) (hle : as.length ≤ fn.ntmps) (ht : resTmps fn.ntmps fn = true)
    (ha : (argsA 0 args MA.ret).run St.empty = some (as, st0)) (hl : lentArgs 0 args as = true)
    (h : Wp P fn.ntmps (lentSlots 0 args) c (RetTo P m fn args res outs) (St.start as st0)) : CallOK P f args res outs := by
  refine ⟨⟨fn, hf, by simp [hb], hnm⟩, fun w F vs bs hF hVV hnd hnf => ?_⟩
  let E : En := ⟨w, fun b => b ∈ bs, F, lentOf 0 args vs⟩
  let g0 : Gh := { F := F, ob := fun _ => 0, rw := fun _ => .nilFunc }
  have hM0 : Mem E g0 St.empty w := ⟨fun s cells h => (by cases h), fun s s' h => (by cases h), fun r x h => (by cases h), fun r r' b h => (by obtain ⟨_, _, _, h⟩ := h; cases h), fun r s h => (by obtain ⟨_, _, _, h⟩ := h; cases h),
    fun b hb => ⟨hF b hb, fun _ => .inl hb⟩, rfl, rfl, rfl, Nat.le_refl _, fun _ _ _ => rfl⟩
  obtain ⟨as', st1, g1, hG, h1, hlen, hx⟩ := argsA_run args hM0 hVV hnd (fun b hb => ⟨hnf b hb, fun s hs => (by cases hs), fun r hr => (by obtain ⟨_, _, _, h⟩ := hr; cases h), .inr hb⟩) ha
  obtain ⟨rfl, rfl⟩ := ret_inv h1
  have hM1 : Mem E g1 (St.start as st0) w := ⟨hG.mem.ob, hG.mem.obne, hG.mem.row, hG.mem.rowne, hG.mem.rowob, hG.mem.F, hG.mem.os, hG.mem.tape, hG.mem.output, hG.mem.sizes, hG.mem.frame⟩
  obtain ⟨hl1, hl2⟩ := lent_spec hl hVV hlen hx
  have hS : Sim E g1 fn.ntmps (St.start as st0) { tmps := vs.toArray ++ Array.replicate (fn.ntmps - vs.toArray.size) undef, defers := [] } w := by
    refine ⟨hM1, by simp; omega, rfl, fun i hi => ?_, fun i hi => ?_, hl1⟩
    · show ∃ v, _ ∧ VR w g1 st0.O st0.R (match as[i]? with | some a => a | none => .undef) v
      cases hai : as[i]? with
      | some a =>
        obtain ⟨u, hu, hr⟩ := hx i a hai
        have hlt : i < vs.length := (List.getElem?_eq_some_iff.1 hu).1
        exact ⟨u, by rw [Array.getElem?_append_left (by simpa using hlt)]; simpa using hu, hr⟩
      | none =>
        have hge : as.length ≤ i := List.getElem?_eq_none_iff.1 hai
        refine ⟨undef, ?_, .undef _⟩
        rw [Array.getElem?_append_right (by simpa [← hlen] using hge)]
        rw [Array.getElem?_replicate, if_pos (by simp only [List.size_toArray]; omega)]
    · show (match as[i]? with | some a => a | none => .undef) = A.undef
      rw [List.getElem?_eq_none_iff.2 (by omega)]
  refine calls_of_wp hf hb (wp_mono (h E g1 _ w (lentOf_fst _ _ _) hS) fun e a' w' ⟨g', st', hS', hR⟩ => ?_)
  obtain ⟨he, l, st2, res0, outs0, hres, hrun, hvle, hole⟩ := hR
  have hfin : a'.defers = [] ∧ ∃ v, (results fn a'.tmps).run P w' = .ok v w' ∧ (fun e w' => ∃ v F' bv bo, e = Ending.returned v ∧ Calm w w' ∧ (∀ b, b < w.heap.size → b ∉ bs → w'.heap[b]? = w.heap[b]?) ∧ (∀ b, F b → F' b) ∧
      (∀ b, F' b → b < w'.heap.size ∧ (b < w.heap.size → F b ∨ b ∈ bs)) ∧ VV w' F' res v bv ∧ Outs w' F' args vs outs bo ∧ (bv ++ bo).Nodup ∧ ∀ b ∈ bv ++ bo, ¬ F' b ∧ (w.heap.size ≤ b ∨ b ∈ bs)) (.returned v) w' := by
    refine ⟨hS'.defers, ?_⟩
    obtain ⟨v, hrv, hvv⟩ := res_run hS' hres ht
    refine ⟨v, hrv, ?_⟩
    have hM' := hS'.mem
    obtain ⟨os, st3, g3, bo, hM3, hE3, hL3, h3, hO, hT3⟩ := outsA_run (w := w') args hM' (us := vs) (hVV.len.symm) (fun j c hj => by
      obtain ⟨b, h5, h6⟩ := hl2 j c hj
      rw [(hS'.lent _ _ h6).2]
      exact h5) hrun
    obtain ⟨c', st4, g4, bv, hM4, hE4, hL4, h4, hv4, hT4⟩ := retV_run hM3 (hvv.mono hE3) h3
    obtain ⟨h5, rfl⟩ := ret_inv h4
    injection h5 with h5 h6
    subst h5 h6
    have hT := hT3.app hM' hL3 hT4 hL4
    have hof : ∀ b ∈ bo ++ bv, w.heap.size ≤ b ∨ b ∈ bs := fun b hb => by
      rcases hT.of b hb with ⟨r, ⟨e, sz, rows, h7⟩, _, h8⟩ | ⟨s, ⟨c, cs, h7⟩, _, h8⟩
      · obtain ⟨_, _, _, _, h9⟩ := hM'.row r _ h7
        exact (h9 b h8).2
      · obtain ⟨_, _, _, _, _, _, h9⟩ := hM'.ob s _ h7
        rw [h8] at h9
        exact h9
    have hnF : ∀ b ∈ bo ++ bv, ¬ (g4.F b ∨ F b) := fun b hb h => by
      rcases h with h | h
      · exact hT.nf b hb h
      · rcases hof b hb with h7 | h7
        · have := hF b h; omega
        · exact hnf b h7 h
    have hmem : ∀ b, b ∈ bv ++ bo → b ∈ bo ++ bv := fun b hb => by
      rcases List.mem_append.1 hb with h | h <;> simp [h]
    refine ⟨v, fun b => g4.F b ∨ F b, bv, bo, rfl, ⟨hM4.os, hM4.tape, hM4.output, hM4.sizes⟩, fun b hb hbs => hM4.frame b hb hbs, fun b h => .inr h, fun b h => ?_, hvle.vv (hv4.mono (fun _ _ => rfl) (fun _ h => .inl h) (fun _ _ => rfl)), outs_cle (hO.mono (fun b h => .inl (hE4.F b h))) hole, ?_, fun b hb => ⟨hnF b (hmem b hb), hof b (hmem b hb)⟩⟩
    · rcases h with h | h
      · exact hM4.F b h
      · exact ⟨Nat.lt_of_lt_of_le (hF b h) hM4.sizes, fun _ => .inl h⟩
    · have := hT.nodup
      rw [List.nodup_append] at this ⊢
      exact ⟨this.2.1, this.1, fun x hx y hy he => this.2.2 y hy x hx he.symm⟩
  rcases he with rfl | rfl
  · exact hfin
  · exact hfin
end Go.Tm
