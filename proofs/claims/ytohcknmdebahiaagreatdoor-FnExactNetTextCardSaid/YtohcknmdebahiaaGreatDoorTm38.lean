/- Calls that give an address within the variable that they are lent. -/
import Derived.Test.YtohcknmdebahiaaGreatDoorTm37
set_option linter.unusedVariables false
set_option linter.unusedSimpArgs false
namespace Go.Tm
open Go.RowKit
section
variable {P : Program} {n : Nat} {ls : List Nat} {st st' : St} {p : Nat → Bool} {ρ : Nat → Root} {ops : Array Oper} {l : List Oper} {K : St → Prop} {o : Oper}
theorem Runs.callIK (m : Bool) (d f : Nat) (caps as : List A) (vs : List V) (s off : Nat) (outs : List (List C)) {xf : Operand} {args : Array Operand} {ts : Array TypeId}
    (ho : o.op = .call { callee := .value xf, args, argTypes := ts }) (hd : o.dst = some d) (hg : wantG ops st o = some true) (hf : opFits ρ st o = true) (hxf : st.eval xf = some (.clo f caps)) (has : allSome (args.toList.map st.eval) = some as)
    (hp : ((passA m p (as ++ caps) MA.ret).run st).map Prod.fst = some vs) (hc : IntoOK P f vs off outs) (hhd : (as ++ caps).head? = some (.obj s 0)) (hr : ((recvOuts d (slots (as ++ caps)) outs (MA.ret (A.obj s off))).run (orV ((passA m p (as ++ caps) MA.ret).run st))).isSome = true)
    (hk : Runs P p ρ ops l ((orV ((recvOuts d (slots (as ++ caps)) outs (MA.ret (A.obj s off))).run (orV ((passA m p (as ++ caps) MA.ret).run st)))).put o.dst (orA ((recvOuts d (slots (as ++ caps)) outs (MA.ret (A.obj s off))).run (orV ((passA m p (as ++ caps) MA.ret).run st))))) K) : Runs P p ρ ops (o :: l) st K := by
  obtain ⟨⟨vs', st1⟩, h1, h2⟩ := Option.map_eq_some_iff.1 hp
  cases h2
  rw [h1] at hr hk
  obtain ⟨⟨x, st2⟩, h3⟩ := Option.isSome_iff_exists.1 hr
  rw [h3] at hk
  exact Runs.step (.run x st2 hg hf (.callI m d f xf args ts caps as vs' st1 outs s off ho hd hxf has h1 hc hhd h3)) hk
end
/-- What such a body has to come to. -/
def RetInto (P : Program) (fn : Func) (args : List V) (off : Nat) (outs : List (List C)) (e : Exit) (st : St) : Prop :=
  (e = .ret ∨ e = .normal) ∧ ∃ st1 outs0, resOf P st fn.results.toList = some [.obj 900 off] ∧ (outsA 0 args fun os => MA.ret os).run st = some (outs0, st1) ∧ All2 (All2 CLe) outs0 outs
theorem IntoOK.of_body {P : Program} {fn : Func} {c : Code} {f : FuncId} {args : List V} {as : List A} {st0 : St} {c0 : List C} {off : Nat} {outs : List (List C)}
    (hf : P.funcs[f]? = some fn) (hb : fn.body = some c) (hnm : (fn.name == "runtime.NumGoroutine") = false) (hle : as.length ≤ fn.ntmps) (ht : resTmps fn.ntmps fn = true)
    (ha : (argsA 0 args MA.ret).run St.empty = some (as, st0)) (hl : lentArgs 0 args as = true) (h0 : args[0]? = some (.ptr c0))
    (h : Wp P fn.ntmps (lentSlots 0 args) c (RetInto P fn args off outs) (St.start as st0)) : IntoOK P f args off outs := by
  refine ⟨⟨fn, hf, by simp [hb], hnm⟩, fun w F vs bs hF hVV hnd hnf htb => ?_⟩
  let E : En := { w0 := w, X := fun b => b ∈ bs, F0 := F, lent := lentOf 0 args vs }
  let g0 : Gh := { F := F, ob := fun _ => 0, rw := fun _ => .nilFunc, dw := w }
  have hM0 : Mem E g0 St.empty w := ⟨fun s cells h => (by cases h), fun s s' h => (by cases h), fun r x h => (by cases h), fun r r' b h => (by obtain ⟨_, _, _, h⟩ := h; cases h), fun r s h => (by obtain ⟨_, _, _, h⟩ := h; cases h),
    fun b hb => ⟨hF b hb, fun _ => .inl hb, .inl hb⟩, rfl, rfl, rfl, Nat.le_refl _, fun _ _ _ => .inl rfl, fun _ h => h.elim, ⟨rfl, rfl, rfl⟩, fun _ h => h.elim⟩
  obtain ⟨as', st1, g1, hG, h1, hlen, hx⟩ := argsA_run args hM0 hVV hnd (fun b hb => ⟨hnf b hb, fun s hs => (by cases hs), fun r hr => (by obtain ⟨_, _, _, h⟩ := hr; cases h), .inr hb⟩) ha
  obtain ⟨rfl, rfl⟩ := ret_inv h1
  have hM1 : Mem E g1 (St.start as st0) w := ⟨hG.mem.ob, hG.mem.obne, hG.mem.row, hG.mem.rowne, hG.mem.rowob, hG.mem.F, hG.mem.os, hG.mem.tape, hG.mem.output, hG.mem.sizes, hG.mem.frame, hG.mem.shp, hG.mem.dep0⟩
  obtain ⟨hl1, hl2⟩ := lent_spec hl hVV hlen hx
  have hS : Sim E g1 fn.ntmps (St.start as st0) { tmps := vs.toArray ++ Array.replicate (fn.ntmps - vs.toArray.size) undef, defers := [] } w := by
    refine ⟨hM1, by simp; omega, rfl, fun i hi => ?_, fun i hi => ?_, hl1, fun _ h => (by cases h)⟩
    · show ∃ v, _ ∧ VR w g1 st0.O st0.R (match as[i]? with | some a => a | none => .undef) v
      cases hai : as[i]? with
      | some a =>
        obtain ⟨u, hu, hr⟩ := hx i a hai
        have hlt : i < vs.length := (List.getElem?_eq_some_iff.1 hu).1
        exact ⟨u, by rw [Array.getElem?_append_left (by simpa using hlt)]; simpa using hu, hr⟩
      | none =>
        have hge : as.length ≤ i := List.getElem?_eq_none_iff.1 hai
        refine ⟨undef, ?_, .undef _⟩
        rw [Array.getElem?_append_right (by simpa [← hlen] using hge)]
        rw [Array.getElem?_replicate, if_pos (by simp only [List.size_toArray]; omega)]
    · show (match as[i]? with | some a => a | none => .undef) = A.undef
      rw [List.getElem?_eq_none_iff.2 (by omega)]
  refine calls_of_wp hf hb (wp_mono (h E g1 _ w ⟨⟨[], by rw [List.append_nil]; exact (lentOf_fst _ _ _).symm, lentOf_ge _ _ _, fun _ h => (by cases h), fun h => (by cases h)⟩, ⟨htb.mono fun b h => h.elim id fun h => (by cases h.1)⟩⟩ hS) fun e a' w' ⟨g', st', hS', hR⟩ => ?_)
  obtain ⟨he, st2, outs0, hres, hrun, hole⟩ := hR
  have hfin : a'.defers = [] ∧ ∃ v, (results fn a'.tmps).run P w' = .ok v w' ∧ (fun e w' => ∃ v F' bo b0, e = Ending.returned v ∧ vs.head? = some (.pointer (some ⟨b0, 0, none⟩)) ∧ v = .pointer (some ⟨b0, off, none⟩) ∧ Calm w w' ∧ (∀ b, b < w.heap.size → b ∉ bs → w'.heap[b]? = w.heap[b]?) ∧ (∀ b, F b → F' b) ∧
      (∀ b, F' b → b < w'.heap.size ∧ (b < w.heap.size → F b ∨ b ∈ bs) ∧ (F b ∨ Wr w' b)) ∧ Outs w' F' args vs outs bo ∧ bo.Nodup ∧ ∀ b ∈ bo, ¬ F' b ∧ (w.heap.size ≤ b ∨ b ∈ bs)) (.returned v) w' := by
    refine ⟨hS'.defers, ?_⟩
    obtain ⟨v, hrv, hvv⟩ := res_run hS' hres ht
    refine ⟨v, hrv, ?_⟩
    have hM' := hS'.mem
    obtain ⟨b0, hh0, hl0⟩ := hl2 0 c0 h0
    have hob := (hS'.lent _ _ hl0).2
    obtain ⟨os, st3, g3, bo, hM3, hE3, hL3, h3, hO, hT3⟩ := outsA_run (w := w') args hM' (us := vs) (hVV.len.symm) (fun j c hj => by
      obtain ⟨b, h5, h6⟩ := hl2 j c hj
      rw [(hS'.lent _ _ h6).2]
      exact h5) hrun
    obtain ⟨rfl, rfl⟩ := ret_inv h3
    have hof : ∀ b ∈ bo, w.heap.size ≤ b ∨ b ∈ bs := fun b hb => by
      rcases hT3.of b hb with ⟨r, ⟨e, sz, rows, h7⟩, _, h8⟩ | ⟨s, ⟨c, cs, h7⟩, _, h8⟩
      · obtain ⟨_, _, _, _, h9⟩ := hM'.row r _ h7
        exact (h9 b h8).2
      · obtain ⟨_, _, _, _, _, _, h9⟩ := hM'.ob s _ h7
        rw [h8] at h9
        exact h9
    have hnF : ∀ b ∈ bo, ¬ (g3.F b ∨ F b) := fun b hb h => by
      rcases h with h | h
      · exact hT3.nf b hb h
      · rcases hof b hb with h7 | h7
        · have := hF b h; omega
        · exact hnf b h7 h
    have hv : v = .pointer (some ⟨b0, off, none⟩) := by
      have hvv' : VR w' g' st'.O st'.R (.obj 900 off) v := hvv
      cases hvv' with
      | obj _ _ hs => rw [hob]
    refine ⟨v, fun b => g3.F b ∨ F b, bo, b0, rfl, by rw [List.head?_eq_getElem?]; exact hh0, hv, ⟨hM3.os, hM3.tape, hM3.output, hM3.sizes⟩, fun b hb hbs => hM3.frm rfl b hb hbs, fun b h => .inr h, fun b h => ?_, outs_cle (hO.mono (fun b h => .inl h)) hole, hT3.nodup, fun b hb => ⟨hnF b hb, hof b hb⟩⟩
    rcases h with h | h
    · exact hM3.F b h
    · exact ⟨Nat.lt_of_lt_of_le (hF b h) hM3.sizes, fun _ => .inl h, .inl h⟩
  rcases he with rfl | rfl
  · exact hfin
  · exact hfin
theorem IntoOK.of_bodyK {P : Program} {fn : Func} {c : Code} {f : FuncId} {args : List V} {c0 : List C} {off : Nat} {outs : List (List C)} (as : List A)
    (hf : P.funcs[f]? = some fn) (hb : fn.body = some c) (hnm : (fn.name == "runtime.NumGoroutine") = false) (hle : Nat.ble as.length fn.ntmps = true) (ht : resTmps fn.ntmps fn = true)
    (ha : ((argsA 0 args MA.ret).run St.empty).map Prod.fst = some as) (hl : lentArgs 0 args as = true) (h0 : args[0]? = some (.ptr c0))
    (h : Wp P fn.ntmps (lentSlots 0 args) c (RetInto P fn args off outs) (St.start as (orV ((argsA 0 args MA.ret).run St.empty)))) : IntoOK P f args off outs := by
  obtain ⟨⟨as', st0⟩, h1, h2⟩ := Option.map_eq_some_iff.1 ha
  cases h2
  rw [h1] at h
  exact IntoOK.of_body hf hb hnm (by simpa using hle) ht h1 hl h0 h
/-- The last word of a printed walk. -/
theorem RetIK {P : Program} {fn : Func} {args : List V} {off : Nat} {outs : List (List C)} {st : St} (outs0 : List (List C)) (hres : resOf P st fn.results.toList = some [.obj 900 off])
    (ho : ((outsA 0 args fun os => MA.ret os).run st).map Prod.fst = some outs0) (hle : All2 (All2 CLe) outs0 outs) : RetInto P fn args off outs .ret st := by
  obtain ⟨⟨os, st1⟩, h1, h2⟩ := Option.map_eq_some_iff.1 ho
  cases h2
  exact ⟨.inl rfl, st1, _, hres, h1, hle⟩
end Go.Tm
