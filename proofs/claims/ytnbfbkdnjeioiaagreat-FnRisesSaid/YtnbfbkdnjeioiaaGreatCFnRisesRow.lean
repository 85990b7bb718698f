/- The law FnRises holds for every input, as its row says; under no condition. -/
import Derived.Test.YtnbfbkdnjeioiaaGreatCFnRisesK2
import Derived.Test.YtnbfbkdnjeioiaaGreatCFnRisesP1
import Derived.Test.YtnbfbkdnjeioiaaGreatRows
import Derived.WalkKit
import Derived.ProofKit
import Derived.OpenShut
import Derived.ShutString
import Derived.ChangeOld
import Derived.Below
import Derived.SizedLaws
set_option maxRecDepth 100000
set_option linter.unusedVariables false
set_option linter.unusedSimpArgs false
namespace Go.Proofs.YtnbfbkdnjeioiaaGreat.fnRises
open Go.Tm Go.RowKit Go.ChangeShapes Go.WideShapes Go.ChangeAt Go.ChangeMaps
theorem own:ownKnob Tryz.prog.godebug=none:=by kernel_rfl
theorem laidOut:laidOutB Tryz.prog=true:=by kernel_rfl
theorem law (x:(List Int)×Unit) (h:(wSl (wInt .u8)) x.1∧True):laws_FnRises 1099511627776 x.1=some true:=Pu.FnRises_law x.1 h
theorem lifted (os:Os) (started:os.Started) (H:Type) (enc:TypeId×Value→H) :
    ReturnsInHanded {} Tryz.checked os 3 .any (Rows.fnRisesSpec.pre6 enc Tryz.prog Tryz.f3 Rows.fnRisesRow.domain false) (Rows.fnRisesSpec.post enc Tryz.prog Tryz.f3 false true false false):=by
  refine returnsInHanded_of_change_sized (C:=Tryz.checked) own started (by kernel_rfl) Tryz.func3
    (ChangeSpec.witness6 (enc:=enc) (C:=Tryz.checked) false ⟨#[],#[.slice none 0 0],[]⟩ 8 (by kernel_rfl) (by kernel_rfl) (by kernel_rfl) (by kernel_rfl)) ?_
  intro W base args ds gs before hval0 hW hcnd hsz0 _
  have hval:∀ (j:Nat) t v,Tryz.f3.params[j]?=some t→args[j]?=some v→Value.okWide Tryz.prog W .any base t v:=hval0
  have hW1:=hW
  obtain ⟨p,q,hA0,hV,rfl,hfz,hnd⟩:=hW
  have hA:DataW.TrodAll enc Tryz.prog W 0 (fun _=>true) true Tryz.f3.params.toList args.toList ds p:=hA0
  have hB:=hA
  rw [Tryz.params3] at hA hval
  obtain ⟨rfl,rfl⟩:=trodVars_none hV
  have hA2:=hA
  obtain ⟨v0,vs0,d0,ds0,p0,q0,ha0,rfl,hp0,h0,r0⟩:=trodAll_cons hA2
  obtain ⟨_,rfl,_⟩:=trodAll_nil r0
  refine (row_calls (RdAll.cons (RdV.one (RdTy.slice Tryz.underlying22 (by kernel_rfl) (RdTy.int (k:=.u8) Tryz.underlying5 (by kernel_rfl))) (by kernel_rfl)) RdAll.nil) laidOut (by kernel_rfl) (fun (x:(List Int)×Unit) h=>laws_FnRises_ok (law x h)) enc W base args _ p hA (fun j t v h1 h2=>hval j t v (by simpa using h1) h2) (.none (by kernel_rfl))).mono fun e W2 hh=>?_
  obtain ⟨he,bel,hT⟩:=hh
  subst he
  exact ⟨_,rfl,_,_,_,[],_,[],hW1,trodAll_mk1 (shut_bool Tryz.underlying4 _),hT,rfl,bel.frame _,fun h=>by cases h⟩
theorem over:Rows.fnRisesRow.holds Tryz.pinned (OpenSpec.ofChange Rows.fnRisesSpec) :=
  OpenClaim.holds_of_wide 3 Tryz.f3 rfl rfl rfl rfl rfl rfl rfl ⟨rfl,rfl,rfl,rfl,rfl⟩ rfl rfl rfl rfl rfl (by kernel_rfl) Tryz.func3 (by kernel_rfl)
    (of_decide_eq_true (by kernel_rfl)) (by unfold Func.isWrapper; first | (rw [if_pos (by decide +kernel)]; kernel_rfl) | (rw [if_neg (by decide +kernel)]; exact ⟨rfl,rfl⟩))
    (fun os started H enc _=>lifted os started H enc)
theorem proved:Rows.FnRisesSaid:=over
#print axioms proved
end Go.Proofs.YtnbfbkdnjeioiaaGreat.fnRises
namespace Go.Proofs.YtnbfbkdnjeioiaaGreat
theorem fnRises_holds:Rows.FnRisesSaid:=fnRises.proved
end Go.Proofs.YtnbfbkdnjeioiaaGreat