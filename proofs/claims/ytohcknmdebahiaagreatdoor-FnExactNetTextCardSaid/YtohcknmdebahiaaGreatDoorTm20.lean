/- The operations touch what their footprints say. -/
import Derived.Test.YtohcknmdebahiaaGreatDoorTm19
set_option linter.unusedVariables false
set_option linter.unusedSimpArgs false
set_option maxHeartbeats 1000000
namespace Go.Tm
open Go.RowKit

section
variable {D : Dom} {P : Program} {ρ : Nat → Root}
theorem mem_rowsOf {o : Oper} {x : Operand} {k : Nat} (hx : x ∈ o.op.operands.toList) (h : has (opR ρ x).rows k) : has (rowsOfOps ρ o) k :=
  has_unis (List.mem_map.2 ⟨x, hx, rfl⟩) h

theorem load_in {t : TypeId} {a : A} (ho : ∀ s off, a = .obj s off → D.oR s) (hr : a.inR D.rR) : (maLoad P t a).In D := by
  unfold maLoad
  split <;> try trivial
  split <;> try trivial
  · refine ⟨ho _ _ rfl, fun x => ?_⟩
    cases x <;> simp only [MA.In]
    split <;> trivial
  · unfold A.inR at hr
    refine ⟨hr, fun x => ?_⟩
    rcases x with _ | (_ | _ | _) <;> (try dsimp only) <;> (try trivial)
    all_goals
      split <;> try trivial
      split <;> try trivial
      split <;> trivial
  · split <;> trivial
  · split <;> trivial
theorem store_in {t : TypeId} {a x : A} (ho : ∀ s off, a = .obj s off → D.oR s ∧ D.oW s) (hr : (∃ s off, a = .obj s off) ∨ ((a.inR fun r => D.rR r ∧ D.rW r) ∧ x.inR fun r => D.rR r ∧ D.rW r)) : (maStore P t a x).In D := by
  unfold maStore
  split <;> try trivial
  split <;> try trivial
  split <;> try trivial
  · refine ⟨(ho _ _ rfl).1, fun x => ?_⟩
    cases x <;> simp only [MA.In]
    split <;> first | trivial | exact ⟨(ho _ _ rfl).2, trivial⟩
  · rcases hr with ⟨s, off, h⟩ | ⟨h1, h2⟩
    · cases h
    refine toTs_in (relab_in (A.inRs_cells h2)) fun ts => ?_
    unfold A.inR at h1
    refine ⟨h1.1, fun x => ?_⟩
    rcases x with _ | (_ | _ | _) <;> (try dsimp only) <;> (try trivial)
    split <;> try trivial
    split <;> try trivial
    split <;> first | trivial | exact ⟨h1.2, trivial⟩
  · split <;> trivial
theorem addrTo_in {a : A} {off : Nat} : (addrTo a off).In D := by
  unfold addrTo
  split <;> trivial
theorem rowAddr_in {n : Nat} {i : Int} {sz : Nat} {rows : List (List T)} : (rowAddr n i sz rows).In D := by
  unfold rowAddr
  split <;> try trivial
  split <;> trivial
theorem indexAddr_in {t : TypeId} {x i : A} (hr : x.inR D.rR) : (maIndexAddr P t x i).In D := by
  unfold maIndexAddr
  split <;> try trivial
  split <;> try trivial
  split <;> try trivial
  · exact rowAddr_in
  · unfold rowAddrX
    split <;> try trivial
    split <;> trivial
  · unfold A.inR at hr
    refine ⟨hr, fun x => ?_⟩
    rcases x with _ | (_ | _ | _) <;> (try dsimp only) <;> (try trivial)
    · split <;> trivial
    · exact rowAddr_in
theorem trunc_in {d : Option Nat} {t : TypeId} {x : A} {hi : Option A} (hr : x.inR fun r => D.rR r ∧ D.rW r) (hd : ∀ d', d = some d' → D.rR (tokR d' 0) ∧ D.rW (tokR d' 0)) : (maTrunc P d t x hi).In D := by
  unfold maTrunc
  split <;> try trivial
  split <;> try trivial
  unfold A.inR at hr
  refine ⟨hr.1, fun x => ?_⟩
  rcases x with _ | (_ | _ | _) <;> (try dsimp only) <;> (try trivial)
  split <;> first | trivial | exact ⟨hr.2, mkRow_in (hd _ rfl)⟩
theorem slice_in {t : TypeId} {x : A} {lo hi : Option A} (hr : x.inR fun r => D.rR r ∧ D.rW r) : (maSlice P t x lo hi).In D := by
  unfold maSlice
  split <;> try trivial
  · split <;> try trivial
    split <;> trivial
  · split <;> try trivial
    refine toT_in hr fun y => ?_
    split <;> try trivial
    split <;> try trivial
    split <;> try trivial
    split <;> trivial
theorem make_in {d : Option Nat} {t : TypeId} {l c : A} (hd : ∀ d', d = some d' → ∀ r, r / 65536 = d' → D.rR r ∧ D.rW r) : (maMake P d t l c).In D := by
  unfold maMake
  split <;> try trivial
  split <;> try trivial
  rename_i hz
  split <;> try trivial
  refine toTs_in (relab_in (tzero_inR hz)) fun ts => ?_
  exact mkRow_in (hd _ rfl _ (by unfold tokR; omega))
theorem append_in' {d : Nat} {ts : List TypeId} {x y : A} (hd : ∀ r, r / 65536 = d → D.rR r ∧ D.rW r) (hx : x.inR fun r => D.rR r ∧ D.rW r) (hy : y.inR D.rR) : (maAppend P (some d) ts x y).In D := by
  have hm : ∀ {e n : Nat} {rows : List (List T)}, (mkRow (tokR d 0) e n rows).In D := fun {e n rows} => mkRow_in (hd _ (by unfold tokR; omega))
  unfold maAppend
  split <;> try trivial
  rename_i d' hdd
  injection hdd with hdd
  subst hdd
  split <;> try trivial
  split <;> try trivial
  split <;> try trivial
  split <;> try trivial
  refine rows_in hy fun n ys => ?_
  split <;> try trivial
  split <;> try trivial
  · split <;> first | trivial | exact hm
  · unfold A.inR at hx
    refine ⟨hx.1, fun x => ?_⟩
    rcases x with _ | (_ | _ | _) <;> (try dsimp only) <;> (try trivial)
    split <;> first | trivial | exact ⟨hx.2, hm⟩
theorem append_in {d : Option Nat} {ts : List TypeId} {x y : A} (hd : ∀ d', d = some d' → ∀ r, r / 65536 = d' → D.rR r ∧ D.rW r) (hx : x.inR fun r => D.rR r ∧ D.rW r) (hy : y.inR D.rR) : (maAppend P d ts x y).In D := by
  cases d with
  | some d => exact append_in' (hd d rfl) hx hy
  | none =>
    unfold maAppend
    split <;> first | trivial | (rename_i h; cases h)
theorem sub_in {t : TypeId} {x : A} {lo : Option A} (hr : x.inR fun r => D.rR r ∧ D.rW r) : (maSub P t x lo).In D := by
  unfold maSub
  split <;> try trivial
  split <;> try trivial
  unfold A.inR at hr
  refine ⟨hr.1, fun x => ?_⟩
  rcases x with _ | (_ | _ | _) <;> (try dsimp only) <;> (try trivial)
  split <;> trivial
theorem copy_in {ts : List TypeId} {x y : A} (hx : x.inR fun r => D.rR r ∧ D.rW r) (hy : y.inR D.rR) : (maCopy P ts x y).In D := by
  unfold maCopy
  split <;> try trivial
  split <;> try trivial
  split <;> try trivial
  refine rows_in hy fun n ys => ?_
  split <;> try trivial
  unfold A.inR at hx
  refine ⟨hx.1, fun x => ?_⟩
  rcases x with _ | (_ | _ | _) <;> (try dsimp only) <;> (try trivial)
  split <;> first | trivial | exact ⟨hx.2, trivial⟩
theorem clear_in {ts : List TypeId} {x : A} (hx : x.inR fun r => D.rR r ∧ D.rW r) : (maClear P ts x).In D := by
  unfold maClear
  split <;> try trivial
  split <;> try trivial
  split <;> try trivial
  split <;> try trivial
  unfold A.inR at hx
  refine ⟨hx.1, fun x => ?_⟩
  rcases x with _ | (_ | _ | _) <;> (try dsimp only) <;> (try trivial)
  split <;> first | trivial | exact ⟨hx.2, trivial⟩
theorem len_in {t : TypeId} {x : A} (hr : x.inR D.rR) : (maLen P t x).In D := by
  unfold maLen
  split <;> try trivial
  exact rows_in hr fun _ _ => trivial
end

theorem maOf_in {P : Program} {p : Nat → Bool} {ρ : Nat → Root} {st : St} {o : Oper} (h : ∀ x ∈ o.op.operands.toList, ∀ a, st.eval x = some a → Cls ρ x a) : (maOf P ρ st.eval o).In (fpOf p ρ o).dom := by
  have hdst : ∀ {d : Nat} {r : Nat}, o.dst = some d → r / 65536 = d → has (uni (rowsOfOps ρ o) (dstL o.dst)) (r / 65536) := fun h h' => has_uni.2 (.inr (by rw [h]; simp [dstL, has, h']))
  unfold maOf
  split <;> try (split <;> trivial)
  · -- alloc
    rename_i e ho
    split <;> try trivial
    rename_i d z hd hz
    have hf : fpOf p ρ o = ⟨dstL o.dst, dstL o.dst, some [], some []⟩ := by simp only [fpOf, ho]
    rw [hf]
    exact mkOb_in ⟨by simp [Fp.dom, dstL, has, hd], by simp [Fp.dom, dstL, has, hd]⟩
  · -- box
    rename_i e x ho
    split <;> try trivial
    rename_i d v hd hv
    have hx : x ∈ o.op.operands.toList := by rw [ho]; simp [Op.operands]
    have hf : fpOf p ρ o = ⟨dstL o.dst, dstL o.dst, rowsOfOps ρ o, rowsOfOps ρ o⟩ := by simp only [fpOf, ho]
    rw [hf]
    split
    · refine toTs_in (A.inRs_cells (inR_mono (fun r hr => ?_) (h x hx v hv).rows)) fun _ => trivial
      exact ⟨mem_rowsOf hx hr, mem_rowsOf hx hr⟩
    · exact mkOb_in ⟨by simp [Fp.dom, dstL, has, hd], by simp [Fp.dom, dstL, has, hd]⟩
  · -- build
    rename_i t parts ho
    split <;> try trivial
    split <;> trivial
  · -- buildSlice
    rename_i t n parts ho
    split <;> try trivial
    rename_i e d ps ht hd hp
    split <;> try trivial
    rename_i sz z hsz hz
    split <;> try trivial
    have hf : fpOf p ρ o = ⟨some [], some [], uni (rowsOfOps ρ o) (dstL o.dst), uni (rowsOfOps ρ o) (dstL o.dst)⟩ := by simp only [fpOf, ho]
    rw [hf]
    refine toTs_in (relab_in (tzero_inR hz)) fun ts => fillR_in (fun q hq => ?_) fun rows => mkRow_in ⟨hdst hd (by unfold tokR; omega), hdst hd (by unfold tokR; omega)⟩
    obtain ⟨hl, hg⟩ := allSome_get hp
    obtain ⟨i, hi⟩ := List.getElem?_of_mem hq
    obtain ⟨⟨j, x⟩, hx, he⟩ := hg i q hi
    have hxm : x ∈ o.op.operands.toList := by
      rw [ho]
      simp only [Op.operands, List.mem_map]
      exact ⟨(j, x), List.mem_of_getElem? hx, rfl⟩
    simp only [Option.map_eq_some_iff] at he
    obtain ⟨v, hv, rfl⟩ := he
    exact inR_mono (fun r hr => ⟨has_uni.2 (.inl (mem_rowsOf hxm hr)), has_uni.2 (.inl (mem_rowsOf hxm hr))⟩) (h x hxm v hv).rows
  · -- load
    rename_i t x ho
    split <;> try trivial
    rename_i a ha
    have hx : x ∈ o.op.operands.toList := by rw [ho]; simp [Op.operands]
    have hf : fpOf p ρ o = ⟨(opR ρ x).objs, some [], (opR ρ x).rows, some []⟩ := by simp only [fpOf, ho]
    rw [hf]
    exact load_in (h x hx a ha).objs (h x hx a ha).rows
  · -- store
    rename_i t x y ho
    split <;> try trivial
    rename_i a b ha hb
    have hx : x ∈ o.op.operands.toList := by rw [ho]; simp [Op.operands]
    have hy : y ∈ o.op.operands.toList := by rw [ho]; simp [Op.operands]
    have hf : fpOf p ρ o = if (opR ρ x).isObj then ⟨(opR ρ x).objs, (opR ρ x).objs, some [], some []⟩ else ⟨(opR ρ x).objs, (opR ρ x).objs, rowsOfOps ρ o, rowsOfOps ρ o⟩ := by simp only [fpOf, ho]
    rw [hf]
    split
    · rename_i hio
      exact store_in (fun s off he => ⟨(h x hx a ha).objs s off he, (h x hx a ha).objs s off he⟩) (.inl ((h x hx a ha).isob hio))
    · exact store_in (fun s off he => ⟨(h x hx a ha).objs s off he, (h x hx a ha).objs s off he⟩)
        (.inr ⟨inR_mono (fun r hr => ⟨mem_rowsOf hx hr, mem_rowsOf hx hr⟩) (h x hx a ha).rows, inR_mono (fun r hr => ⟨mem_rowsOf hy hr, mem_rowsOf hy hr⟩) (h y hy b hb).rows⟩)
  · -- binOp
    split <;> try trivial
    · split <;> trivial
    · split <;> first | trivial | (split <;> trivial)
    · split <;> trivial
    · split <;> trivial
  · -- convert
    rename_i s t x ho
    have hx : x ∈ o.op.operands.toList := by rw [ho]; simp [Op.operands]
    have hf : fpOf p ρ o = ⟨some [], some [], rowsOfOps ρ o, some []⟩ := by simp only [fpOf, ho]
    rw [hf]
    split <;> try trivial
    rename_i a _ _ ha
    split <;> try trivial
    refine rows_in (inR_mono (fun r hr => mem_rowsOf hx hr) (h x hx _ ha).rows) fun _ _ => ?_
    split <;> trivial
  · -- makeSlice
    rename_i t l c ho
    have hf : fpOf p ρ o = ⟨some [], some [], uni (rowsOfOps ρ o) (dstL o.dst), uni (rowsOfOps ρ o) (dstL o.dst)⟩ := by simp only [fpOf, ho]
    rw [hf]
    split <;> try trivial
    exact make_in fun d hd r hr => ⟨hdst hd hr, hdst hd hr⟩
  · -- slice
    rename_i t x lo hi ho
    have hx : x ∈ o.op.operands.toList := by rw [ho]; simp [Op.operands]
    have hf : fpOf p ρ o = ⟨some [], some [], uni (rowsOfOps ρ o) (dstL o.dst), uni (rowsOfOps ρ o) (dstL o.dst)⟩ := by simp only [fpOf, ho]
    rw [hf]
    split <;> try trivial
    rename_i a _ _ ha _ _
    have hq : a.inR fun r => (⟨some [], some [], uni (rowsOfOps ρ o) (dstL o.dst), uni (rowsOfOps ρ o) (dstL o.dst)⟩ : Fp).dom.rR r ∧ (⟨some [], some [], uni (rowsOfOps ρ o) (dstL o.dst), uni (rowsOfOps ρ o) (dstL o.dst)⟩ : Fp).dom.rW r :=
      inR_mono (fun r hr => ⟨has_uni.2 (.inl (mem_rowsOf hx hr)), has_uni.2 (.inl (mem_rowsOf hx hr))⟩) (h x hx _ ha).rows
    split
    · split
      · exact sub_in hq
      · exact trunc_in hq fun d hd => ⟨has_uni.2 (.inr (by rw [hd]; simp [dstL, has, tokR, Nat.mul_div_cancel])), has_uni.2 (.inr (by rw [hd]; simp [dstL, has, tokR, Nat.mul_div_cancel]))⟩
    · exact slice_in hq
  · -- fieldAddr
    split <;> first | trivial | exact addrTo_in
  · -- field
    split <;> try trivial
    split <;> try trivial
    split <;> trivial
  · -- indexAddr
    rename_i t x i ho
    have hx : x ∈ o.op.operands.toList := by rw [ho]; simp [Op.operands]
    have hf : fpOf p ρ o = ⟨some [], some [], rowsOfOps ρ o, some []⟩ := by simp only [fpOf, ho]
    rw [hf]
    split <;> try trivial
    rename_i ha _
    exact indexAddr_in (inR_mono (fun r hr => mem_rowsOf hx hr) (h x hx _ ha).rows)
  · -- index
    split <;> try trivial
    split <;> try trivial
    split <;> trivial
  · -- extract
    split <;> try trivial
    split <;> trivial
  · -- len
    rename_i args ats ho
    split <;> try trivial
    rename_i x t hxs hts
    have hx : x ∈ o.op.operands.toList := by rw [ho]; simp [Op.operands, Call.operands, hxs]
    have hf : fpOf p ρ o = ⟨some [], some [], rowsOfOps ρ o, some []⟩ := by simp only [fpOf, ho]
    rw [hf]
    split <;> try trivial
    rename_i ha
    exact len_in (inR_mono (fun r hr => mem_rowsOf hx hr) (h x hx _ ha).rows)
  · -- append
    rename_i args ats ho
    split <;> try trivial
    rename_i x y hxs
    have hx : x ∈ o.op.operands.toList := by rw [ho]; simp [Op.operands, Call.operands, hxs]
    have hy : y ∈ o.op.operands.toList := by rw [ho]; simp [Op.operands, Call.operands, hxs]
    have hf : fpOf p ρ o = ⟨some [], some [], uni (rowsOfOps ρ o) (dstL o.dst), uni (rowsOfOps ρ o) (dstL o.dst)⟩ := by simp only [fpOf, ho]
    rw [hf]
    split <;> try trivial
    rename_i ha hb
    exact append_in (fun d hd r hr => ⟨hdst hd hr, hdst hd hr⟩) (inR_mono (fun r hr => ⟨has_uni.2 (.inl (mem_rowsOf hx hr)), has_uni.2 (.inl (mem_rowsOf hx hr))⟩) (h x hx _ ha).rows)
      (inR_mono (fun r hr => has_uni.2 (.inl (mem_rowsOf hy hr))) (h y hy _ hb).rows)
  · -- copy
    rename_i args ats ho
    split <;> try trivial
    rename_i x y hxs
    have hx : x ∈ o.op.operands.toList := by rw [ho]; simp [Op.operands, Call.operands, hxs]
    have hy : y ∈ o.op.operands.toList := by rw [ho]; simp [Op.operands, Call.operands, hxs]
    have hf : fpOf p ρ o = ⟨some [], some [], rowsOfOps ρ o, rowsOfOps ρ o⟩ := by simp only [fpOf, ho]
    rw [hf]
    split <;> try trivial
    rename_i ha hb
    exact copy_in (inR_mono (fun r hr => ⟨mem_rowsOf hx hr, mem_rowsOf hx hr⟩) (h x hx _ ha).rows) (inR_mono (fun r hr => mem_rowsOf hy hr) (h y hy _ hb).rows)
  · -- clear
    rename_i args ats ho
    split <;> try trivial
    rename_i x hxs
    have hx : x ∈ o.op.operands.toList := by rw [ho]; simp [Op.operands, Call.operands, hxs]
    have hf : fpOf p ρ o = ⟨some [], some [], rowsOfOps ρ o, rowsOfOps ρ o⟩ := by simp only [fpOf, ho]
    rw [hf]
    split <;> try trivial
    rename_i ha
    exact clear_in (inR_mono (fun r hr => ⟨mem_rowsOf hx hr, mem_rowsOf hx hr⟩) (h x hx _ ha).rows)
  · split <;> try trivial
    split <;> trivial
  · split <;> try trivial
    split <;> trivial
  · trivial
end Go.Tm
