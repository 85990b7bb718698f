/- The footprint of an operation. -/
import Derived.Test.YtohcknmdebahiaaGreatDoorTm18
set_option linter.unusedVariables false
set_option linter.unusedSimpArgs false
namespace Go.Tm
open Go.RowKit

def has (l : Option (List Nat)) (k : Nat) : Prop := match l with | none => True | some l => k ∈ l
def uni (a b : Option (List Nat)) : Option (List Nat) := match a, b with | some a, some b => some (a ++ b) | _, _ => none
def unis : List (Option (List Nat)) → Option (List Nat)
  | [] => some []
  | a :: r => uni a (unis r)
theorem has_uni {a b : Option (List Nat)} {k : Nat} : has (uni a b) k ↔ has a k ∨ has b k := by
  cases a <;> cases b <;> simp [uni, has]
theorem has_unis {l : List (Option (List Nat))} {k : Nat} : ∀ {x}, x ∈ l → has x k → has (unis l) k := by
  induction l with
  | nil => intro x h; simp at h
  | cons y l ih =>
    intro x h hx
    unfold unis
    rcases List.mem_cons.1 h with rfl | h
    · exact has_uni.2 (.inl hx)
    · exact has_uni.2 (.inr (ih h hx))

def Root.rows : Root → Option (List Nat)
  | .frz | .obj _ => some []
  | .own d => some [d]
  | .el d => some [d]
  | .win d => some [d]
  | _ => none
def Root.objs : Root → Option (List Nat)
  | .obj s => some [s]
  | .any => none
  | _ => some []
def opR (ρ : Nat → Root) : Operand → Root
  | .tmp t => ρ t
  | _ => .frz
structure Fp where
  oR : Option (List Nat)
  oW : Option (List Nat)
  rR : Option (List Nat)
  rW : Option (List Nat)
def Fp.dom (f : Fp) : Dom := ⟨has f.oR, has f.oW, fun r => has f.rR (r / 65536), fun r => has f.rW (r / 65536)⟩
def Root.isObj : Root → Bool
  | .obj _ => true
  | _ => false
def argRows (p : Nat → Bool) : Root → Option (List Nat)
  | .obj s => if p s then some [] else none
  | r => r.rows
def dstL : Option Nat → Option (List Nat)
  | some d => some [d]
  | none => some []
def rowsOfOps (ρ : Nat → Root) (o : Oper) : Option (List Nat) := unis (o.op.operands.toList.map fun x => (opR ρ x).rows)
def fpOf (p : Nat → Bool) (ρ : Nat → Root) (o : Oper) : Fp :=
  match o.op with
  | .alloc _ => ⟨dstL o.dst, dstL o.dst, some [], some []⟩
  | .box .. => ⟨dstL o.dst, dstL o.dst, rowsOfOps ρ o, rowsOfOps ρ o⟩
  | .buildSlice .. | .makeSlice .. => ⟨some [], some [], uni (rowsOfOps ρ o) (dstL o.dst), uni (rowsOfOps ρ o) (dstL o.dst)⟩
  | .load _ a => ⟨(opR ρ a).objs, some [], (opR ρ a).rows, some []⟩
  | .store _ a _ => if (opR ρ a).isObj then ⟨(opR ρ a).objs, (opR ρ a).objs, some [], some []⟩ else ⟨(opR ρ a).objs, (opR ρ a).objs, rowsOfOps ρ o, rowsOfOps ρ o⟩
  | .slice .. => ⟨some [], some [], uni (rowsOfOps ρ o) (dstL o.dst), uni (rowsOfOps ρ o) (dstL o.dst)⟩
  | .call { callee := .builtin .copy, .. } | .call { callee := .builtin .clear, .. } => ⟨some [], some [], rowsOfOps ρ o, rowsOfOps ρ o⟩
  | .indexAddr .. | .convert .. | .call { callee := .builtin .len, .. } => ⟨some [], some [], rowsOfOps ρ o, some []⟩
  | .call { callee := .builtin .append, .. } => ⟨some [], some [], uni (rowsOfOps ρ o) (dstL o.dst), uni (rowsOfOps ρ o) (dstL o.dst)⟩
  | .call { callee := .value _, .. } =>
    ⟨uni (unis (o.op.operands.toList.map fun x => (opR ρ x).objs)) (dstL o.dst), uni (unis (o.op.operands.toList.map fun x => (opR ρ x).objs)) (dstL o.dst),
      uni (unis (o.op.operands.toList.map fun x => argRows p (opR ρ x))) (dstL o.dst), uni (unis (o.op.operands.toList.map fun x => argRows p (opR ρ x))) (dstL o.dst)⟩
  | _ => ⟨some [], some [], some [], some []⟩

theorem fpOf_ok (p : Nat → Bool) (ρ : Nat → Root) (o : Oper) : (fpOf p ρ o).dom.ok := by
  unfold fpOf
  split
  all_goals first | exact ⟨fun _ h => h, fun _ h => h⟩ | (split <;> exact ⟨fun _ h => h, fun _ h => h⟩) | exact ⟨fun _ h => by simp [Fp.dom, has] at h, fun _ h => by simp [Fp.dom, has] at h⟩

/-- What is known of an operand's value. -/
structure Cls (ρ : Nat → Root) (x : Operand) (a : A) : Prop where
  rows : a.inR fun r => has (opR ρ x).rows (r / 65536)
  objs : ∀ s off, a = .obj s off → has (opR ρ x).objs s
  isob : (opR ρ x).isObj = true → ∃ s off, a = .obj s off

theorem fits_isob {r : Root} {a : A} (h : r.fits a = true) (hr : r.isObj = true) : ∃ s off, a = .obj s off := by
  cases r <;> cases a <;> simp [Root.fits, Root.isObj] at h hr ⊢
theorem leafy_inR {Q : Nat → Prop} {a : A} (h : a.leafy = true) : a.inR Q := by
  cases a <;> first | (unfold A.inR; trivial) | (simp [A.leafy] at h)
theorem fits_cls {r : Root} {a : A} (h : r.fits a = true) : (a.inR fun i => has r.rows (i / 65536)) ∧ ∀ s off, a = .obj s off → has r.objs s := by
  by_cases hag : ∃ l, r = .frz ∧ a = .agg l
  · obtain ⟨l, rfl, rfl⟩ := hag
    refine ⟨?_, fun s off h => by cases h⟩
    unfold A.inR
    exact A.inRs_of fun x hx => leafy_inR (List.all_eq_true.1 h x hx)
  by_cases hag2 : ∃ d l, r = .own d ∧ a = .agg l
  · obtain ⟨d, l, rfl, rfl⟩ := hag2
    refine ⟨?_, fun s off h => by cases h⟩
    unfold A.inR
    refine A.inRs_of fun x hx => ?_
    have := List.all_eq_true.1 h x hx
    cases x with
    | own r => unfold A.inR; simpa [Root.rows, has] using this
    | _ => exact leafy_inR this
  cases r <;> cases a <;> (try simp [Root.fits, Root.rows, Root.objs, has] at h hag ⊢) <;> (try exact absurd ⟨_, _, rfl, rfl⟩ hag2) <;>
    first
      | exact A.inR_all (fun _ => trivial) _
      | (unfold A.inR; first | trivial | simp [h])
      | (refine ⟨by unfold A.inR; trivial, ?_⟩; intro s off h1 h2; simp [← h1, h])
      | skip

theorem inRs_ofValue1 {Q : Nat → Prop} : ∀ {l : List (Option A)} {r : List A}, (∀ y ∈ l, ∀ a, y = some a → a.inR Q) → allSome l = some r → A.inRs Q r := by
  intro l r hl h
  have := allSome_spec h
  subst this
  exact A.inRs_of fun a ha => hl (some a) (List.mem_map.2 ⟨a, ha, rfl⟩) a rfl
theorem ofValue1_inR {Q : Nat → Prop} {v : Value} {a : A} (h : A.ofValue1 v = some a) : a.inR Q := by
  unfold A.ofValue1 at h
  split at h <;> cases h <;> (unfold A.inR; trivial)
theorem ofValue_inR {Q : Nat → Prop} {v : Value} {a : A} (h : A.ofValue v = some a) : (a.inR Q) ∧ ∀ s off, a ≠ .obj s off := by
  unfold A.ofValue at h
  split at h
  · split at h
    · rename_i l hl
      cases h
      refine ⟨?_, fun _ _ h => by cases h⟩
      unfold A.inR
      exact inRs_ofValue1 (fun y hy a he => by
        obtain ⟨v, _, hv⟩ := List.mem_map.1 hy
        exact ofValue1_inR (hv.trans he)) hl
    · cases h
  · cases h
    exact ⟨by unfold A.inR; trivial, fun s off he => by cases he⟩
  · refine ⟨ofValue1_inR h, fun s off he => ?_⟩
    subst he
    unfold A.ofValue1 at h
    split at h <;> cases h
theorem tzero_inR {P : Program} {Q : Nat → Prop} {t : TypeId} {z : List A} (h : tzero P t = some z) : A.inRs Q z := by
  unfold tzero at h
  split at h
  · exact inRs_ofValue1 (fun y hy a he => by
      obtain ⟨v, _, hv⟩ := List.mem_map.1 hy
      exact ofValue1_inR (hv.trans he)) h
  · cases h

theorem eval_cls {ρ : Nat → Root} {st : St} {o : Oper} (hf : opFits ρ st o = true) {x : Operand} {a : A} (hx : x ∈ o.op.operands.toList) (h : st.eval x = some a) : Cls ρ x a := by
  cases x with
  | tmp t =>
    simp only [St.eval, Option.some.injEq] at h
    subst h
    have := List.all_eq_true.1 hf _ hx
    exact ⟨(fits_cls this).1, (fits_cls this).2, fun h => fits_isob this h⟩
  | const v => exact ⟨(ofValue_inR h).1, fun s off he => absurd he ((ofValue_inR (Q := fun _ => True) h).2 s off), fun h => by simp [opR, Root.isObj] at h⟩
  | func f =>
    simp only [St.eval, Option.some.injEq] at h
    subst h
    exact ⟨by unfold A.inR; unfold A.inRs; trivial, fun s off he => (by cases he), fun h => by simp [opR, Root.isObj] at h⟩
  | global _ => cases h

mutual
theorem inR_mono {Q Q' : Nat → Prop} (h : ∀ r, Q r → Q' r) : ∀ {a : A}, a.inR Q → a.inR Q'
  | .own r, hq => by unfold A.inR at hq ⊢; exact h _ hq
  | .elem r _ _ _, hq => by unfold A.inR at hq ⊢; exact h _ hq
  | .sub r _ _, hq => by unfold A.inR at hq ⊢; exact h _ hq
  | .agg l, hq => by unfold A.inR at hq ⊢; exact inRs_mono h hq
  | .tup l, hq => by unfold A.inR at hq ⊢; exact inRs_mono h hq
  | .clo _ l, hq => by unfold A.inR at hq ⊢; exact inRs_mono h hq
  | .t _, _ | .nil, _ | .obj _ _, _ | .fadr _, _ | .nn _ _, _ | .undef, _ | .ext _ _, _ | .exa _ _, _ | .shp _, _ => by unfold A.inR; trivial
theorem inRs_mono {Q Q' : Nat → Prop} (h : ∀ r, Q r → Q' r) : ∀ {l : List A}, A.inRs Q l → A.inRs Q' l
  | [], _ => by unfold A.inRs; trivial
  | a :: r, hq => by unfold A.inRs at hq ⊢; exact ⟨inR_mono h hq.1, inRs_mono h hq.2⟩
end
end Go.Tm
