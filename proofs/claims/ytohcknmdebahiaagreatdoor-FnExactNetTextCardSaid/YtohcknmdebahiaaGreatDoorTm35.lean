/- From a row's hypotheses on its arguments to a call by the contract, and back to what the row asks behind the call. -/
import Derived.Test.YtohcknmdebahiaaGreatDoorTm34
set_option linter.unusedVariables false
set_option linter.unusedSimpArgs false
namespace Go.Tm
open Go.RowKit Go.ChangeShapes

def RdV {α : Type} (P : Program) (t : TypeId) (wf : α → Prop) (ev : α → V) : Prop :=
  ∀ {H : Type} (ec : TypeId × Value → H) (W : World) (base : Nat) (v : Value) (d : DataW H) (p : List MemPlace), DataW.Trod ec P W 0 (fun _ => true) true t v d p → Value.okWide P W .any base t v → ∃ x, wf x ∧ VV W (Old W) (ev x) v []
def noAgg (P : Program) (t : TypeId) : Bool := match P.underlying t with | some (.struct _) | some (.array ..) => false | _ => true

theorem noAgg_cells {P : Program} {t : TypeId} (hn : noAgg P t = true) {W : World} {base : Nat} {v : Value} (h : Value.okWide P W .any base t v) : v.cells = #[v] := by
  cases v with
  | agg cs =>
    exfalso
    unfold noAgg at hn
    unfold Value.okWide at h
    cases hu : P.underlying t with
    | none => simp [hu, Cell.okWide, Cell.ok] at h
    | some u => cases u <;> simp_all [Cell.okWide, Cell.ok]
  | _ => rfl
theorem RdV.one {α : Type} {P : Program} {t : TypeId} {wf : α → Prop} {enc : α → List T} (h : RdTy P t 1 wf enc) (hn : noAgg P t = true) : RdV P t wf (fun x => .one (.t ((enc x).headD .nilf))) := by
  intro H ec W base v d p ⟨k, hd⟩ hv
  obtain ⟨x, hx, hr⟩ := h.2.2 ec W _ _ k _ _ hd
  have hc := noAgg_cells hn hv
  rw [hc] at hr
  have hl := h.2.1 x
  refine ⟨x, hx, .one _ _ _ ?_⟩
  match he : enc x, hl with
  | [y], _ =>
    rw [he] at hr
    cases hr with
    | cons _ _ _ _ h1 _ => exact .t _ _ h1
theorem RdV.agg {α : Type} {P : Program} {t : TypeId} {n : Nat} {wf : α → Prop} {enc : α → List T} {fs : Array Field} (h : RdTy P t n wf enc) (hu : P.underlying t = some (.struct fs)) : RdV P t wf (fun x => .agg ((enc x).map .t)) := by
  intro H ec W base v d p ⟨k, hd⟩ hv
  obtain ⟨x, hx, hr⟩ := h.2.2 ec W _ _ k _ _ hd
  unfold Value.okWide at hv
  simp only [hu] at hv
  obtain ⟨cs, rfl, _⟩ := hv
  have := VV.agg (w := W) (F := Old W) _ _ _ hr.cvs
  simp only [Value.cells] at this
  exact ⟨x, hx, by simpa using this⟩

def RdAll {α : Type} (P : Program) (ts : List TypeId) (wf : α → Prop) (ea : α → List V) : Prop :=
  ∀ {H : Type} (ec : TypeId × Value → H) (W : World) (base : Nat) (vs : List Value) (ds : List (DataW H)) (p : List MemPlace), DataW.TrodAll ec P W 0 (fun _ => true) true ts vs ds p →
    (∀ (j : Nat) (t : TypeId) (v : Value), ts[j]? = some t → vs[j]? = some v → Value.okWide P W .any base t v) → ∃ x, wf x ∧ VVs W (Old W) (ea x) vs []
theorem RdAll.nil {P : Program} : RdAll P [] (fun _ : Unit => True) (fun _ => []) := by
  intro H ec W base vs ds p h hv
  obtain ⟨rfl, _, _⟩ := trodAll_nil h
  exact ⟨(), trivial, .nil⟩
theorem RdAll.cons {α β : Type} {P : Program} {t : TypeId} {ts : List TypeId} {wf : α → Prop} {ev : α → V} {wf' : β → Prop} {ea : β → List V} (h : RdV P t wf ev) (hs : RdAll P ts wf' ea) :
    RdAll P (t :: ts) (fun x : α × β => wf x.1 ∧ wf' x.2) (fun x => ev x.1 :: ea x.2) := by
  intro H ec W base vs ds p hT hv
  obtain ⟨v, vs', d, ds', p1, p2, rfl, rfl, rfl, h1, h2⟩ := trodAll_cons hT
  obtain ⟨x, hx, hr⟩ := h ec W base v d p1 h1 (hv 0 t v rfl rfl)
  obtain ⟨y, hy, hr'⟩ := hs ec W base vs' ds' p2 h2 (fun j t v ht hj => hv (j + 1) t v ht hj)
  exact ⟨(x, y), ⟨hx, hy⟩, .cons _ _ [] _ _ [] hr hr'⟩

theorem trodAll_stays {P : Program} {H : Type} {ec : TypeId × Value → H} (hl : laidOutB P = true) {W W' : World} (hb : Below W.heap.size W W') : ∀ {ts : List TypeId} {vs : List Value} {ds : List (DataW H)} {p : List MemPlace},
    ts.all (fun t => P.readableRec t && decide (t < P.types.size)) = true → DataW.TrodAll ec P W 0 (fun _ => true) true ts vs ds p →
    DataW.TrodAll ec P W' 0 (fun b => decide (b < W.heap.size)) true ts vs ds p
  | [], vs, ds, p, _, h => by
    obtain ⟨rfl, rfl, rfl⟩ := trodAll_nil h
    exact trodAll_mk0
  | t :: ts, vs, ds, p, ht, h => by
    obtain ⟨v, vs', d, ds', p1, p2, rfl, rfl, rfl, h1, h2⟩ := trodAll_cons h
    simp only [List.all_cons, Bool.and_eq_true, decide_eq_true_eq] at ht
    refine trodAll_cons_mk (Below.trod hl ht.1.1 ht.1.2 h1 hb ?_) (trodAll_stays hl hb (by simpa using ht.2) h2)
    obtain ⟨k, hk⟩ := h1
    exact DataW.trod_lt k _ _ _ hk

theorem row_calls {α : Type} {P : Program} {f : FuncId} {ts : List TypeId} {wf : α → Prop} {ea : α → List V} (hr : RdAll P ts wf ea) (hl : laidOutB P = true) (hts : ts.all (fun t => P.readableRec t && decide (t < P.types.size)) = true)
    (law : ∀ x, wf x → CallOK P f (ea x) (.one (.t (.bool true))) []) {H : Type} (ec : TypeId × Value → H) (W : World) (base : Nat) (args : Array Value) (ds : List (DataW H)) (p : List MemPlace)
    (hT : DataW.TrodAll ec P W 0 (fun _ => true) true ts args.toList ds p) (hv : ∀ (j : Nat) (t : TypeId) (v : Value), ts[j]? = some t → args[j]? = some v → Value.okWide P W .any base t v)
    (htb : TbW P W fun _ => False) : Calls P f args W fun e W' => e = .returned (.bool true) ∧ Below W.heap.size W W' ∧ DataW.TrodAll ec P W' 0 (fun b => decide (b < W.heap.size)) true ts args.toList ds p := by
  obtain ⟨x, hx, hV⟩ := hr ec W base args.toList ds p hT (fun j t v h1 h2 => hv j t v h1 (by simpa using h2))
  have := (law x hx).2 W (Old W) args.toList [] (fun _ h => h) hV .nil (by simp) (htb.mono fun _ h => by cases h)
  simp only [Array.toArray_toList] at this
  refine this.mono fun e W' ⟨v, F', bv, bo, h1, h2, h3, h4, h5, h6, h7, h8, h9⟩ => ?_
  have hbel : Below W.heap.size W W' := ⟨h2.os, h2.tape, h2.output, h2.size, fun k hk => h3 k hk (by simp)⟩
  refine ⟨?_, hbel, trodAll_stays hl hbel hts hT⟩
  cases h6 with
  | one _ _ _ h =>
    cases h with
    | t _ _ h =>
      cases h
      exact h1
end Go.Tm
