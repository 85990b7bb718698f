/- The law FnDisks holds for every input, as its row says; under no condition. -/
import Derived.Test.YtlhbkdaohjnjbaaCFnDisksK2
import Derived.Test.YtlhbkdaohjnjbaaCFnDisksP1
import Derived.Test.YtlhbkdaohjnjbaaRows
import Derived.WalkKit
import Derived.ProofKit
import Derived.OpenShut
import Derived.ShutString
import Derived.ChangeOld
import Derived.Below
import Derived.SizedLaws
import Derived.Test.YtlhbkdaohjnjbaaTm35
set_option maxRecDepth 100000
set_option linter.unusedVariables false
set_option linter.unusedSimpArgs false
namespace Go.Proofs.Ytlhbkdaohjnjbaa.fnDisks
open Go.Tm Go.RowKit Go.ChangeShapes Go.WideShapes Go.ChangeAt Go.ChangeMaps
theorem own : ownKnob Try.prog.godebug = none := by kernel_rfl
theorem laidOut : laidOutB Try.prog = true := by kernel_rfl
theorem law (x : (List Int) × Unit) (h : (wSl (wInt .u8)) x.1 ∧ True) : laws_FnDisks 1099511627776 x.1 = some true := Pu.FnDisks_law x.1 h
theorem lifted (os : Os) (started : os.Started) (H : Type) (enc : TypeId × Value → H) :
    ReturnsInHanded {} Try.checked os 5 .any (Rows.fnDisksSpec.pre6 enc Try.prog Try.f5 Rows.fnDisksRow.domain false) (Rows.fnDisksSpec.post enc Try.prog Try.f5 false true false false) := by
  refine returnsInHanded_of_change_sized (C := Try.checked) own started (by kernel_rfl) Try.func5
    (ChangeSpec.witness6 (enc := enc) (C := Try.checked) false ⟨#[], #[.slice none 0 0], []⟩ 8 (by kernel_rfl) (by kernel_rfl) (by kernel_rfl) (by kernel_rfl)) ?_
  intro W base args ds gs before hval0 hW hcnd hsz0 _
  have hval : ∀ (j : Nat) t v, Try.f5.params[j]? = some t → args[j]? = some v → Value.okWide Try.prog W .any base t v := hval0
  have hW1 := hW
  obtain ⟨p, q, hA0, hV, rfl, hfz, hnd⟩ := hW
  have hA : DataW.TrodAll enc Try.prog W 0 (fun _ => true) true Try.f5.params.toList args.toList ds p := hA0
  have hB := hA
  rw [Try.params5] at hA hval
  obtain ⟨rfl, rfl⟩ := trodVars_none hV
  have hA2 := hA
  obtain ⟨v0, vs0, d0, ds0, p0, q0, ha0, rfl, hp0, h0, r0⟩ := trodAll_cons hA2
  obtain ⟨_, rfl, _⟩ := trodAll_nil r0
  refine (row_calls (RdAll.cons (RdV.one (RdTy.slice Try.underlying33 (by kernel_rfl) (RdTy.int (k := .u8) Try.underlying5 (by kernel_rfl))) (by kernel_rfl)) RdAll.nil) laidOut (by kernel_rfl) (fun (x : (List Int) × Unit) h => laws_FnDisks_ok 1099511627776 x.1 true (law x h)) enc W base args _ p hA (fun j t v h1 h2 => hval j t v (by simpa using h1) h2)).mono fun e W2 hh => ?_
  obtain ⟨he, bel, hT⟩ := hh
  subst he
  exact ⟨_, rfl, _, _, _, [], _, [], hW1, trodAll_mk1 (shut_bool Try.underlying4 _), hT, rfl, bel.frame _, fun h => by cases h⟩
theorem over : Rows.fnDisksRow.holds Try.pinned (OpenSpec.ofChange Rows.fnDisksSpec) :=
  OpenClaim.holds_of_wide 5 Try.f5 rfl rfl rfl rfl rfl rfl rfl ⟨rfl, rfl, rfl, rfl, rfl⟩ rfl rfl rfl rfl rfl (by kernel_rfl) Try.func5 (by kernel_rfl)
    (of_decide_eq_true (by kernel_rfl)) (by unfold Func.isWrapper; first | (rw [if_pos (by decide +kernel)]; kernel_rfl) | (rw [if_neg (by decide +kernel)]; exact ⟨rfl, rfl⟩))
    (fun os started H enc _ => lifted os started H enc)
theorem proved : Rows.FnDisksSaid := over
#print axioms proved
end Go.Proofs.Ytlhbkdaohjnjbaa.fnDisks
namespace Go.Proofs.Ytlhbkdaohjnjbaa
theorem fnDisks_holds : Rows.FnDisksSaid := fnDisks.proved
end Go.Proofs.Ytlhbkdaohjnjbaa
