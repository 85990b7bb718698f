/- The law FnCommits holds for every input, as its row says; under no condition. -/
import Derived.Test.YthofgdapoklllaaCFnCommitsK1
import Derived.Test.YthofgdapoklllaaCFnCommitsP1
import Derived.Test.YthofgdapoklllaaRows
import Derived.WalkKit
import Derived.ProofKit
import Derived.OpenShut
import Derived.ShutString
import Derived.ChangeOld
import Derived.Below
import Derived.SizedLaws
set_option maxRecDepth 100000
set_option linter.unusedVariables false
set_option linter.unusedSimpArgs false
namespace Go.Proofs.Ythofgdapoklllaa.fnCommits
open Go.Tm Go.RowKit Go.ChangeShapes Go.WideShapes Go.ChangeAt Go.ChangeMaps
theorem own:ownKnob Try.prog.godebug=none:=by kernel_rfl
theorem laidOut:laidOutB Try.prog=true:=by kernel_rfl
theorem law (x:(List Int)×Unit) (h:(wSl (wInt .u8)) x.1∧True):laws_FnCommits 1099511627776 x.1=some true:=Pu.FnCommits_law x.1 h
theorem lifted (os:Os) (started:os.Started) (H:Type) (enc:TypeId×Value→H) :
    ReturnsInHanded {} Try.checked os 3 .any (Rows.fnCommitsSpec.pre6 enc Try.prog Try.f3 Rows.fnCommitsRow.domain false) (Rows.fnCommitsSpec.post enc Try.prog Try.f3 false true false false):=by
  refine returnsInHanded_of_change_sized (C:=Try.checked) own started (by kernel_rfl) Try.func3
    (ChangeSpec.witness6 (enc:=enc) (C:=Try.checked) false ⟨#[],#[.slice none 0 0],[]⟩ 8 (by kernel_rfl) (by kernel_rfl) (by kernel_rfl) (by kernel_rfl)) ?_
  intro W base args ds gs before hval0 hW hcnd hsz0 _
  have hval:∀ (j:Nat) t v,Try.f3.params[j]?=some t→args[j]?=some v→Value.okWide Try.prog W .any base t v:=hval0
  have hW1:=hW
  obtain ⟨p,q,hA0,hV,rfl,hfz,hnd⟩:=hW
  have hA:DataW.TrodAll enc Try.prog W 0 (fun _=>true) true Try.f3.params.toList args.toList ds p:=hA0
  have hB:=hA
  rw [Try.params3] at hA hval
  obtain ⟨rfl,rfl⟩:=trodVars_none hV
  have hA2:=hA
  obtain ⟨v0,vs0,d0,ds0,p0,q0,ha0,rfl,hp0,h0,r0⟩:=trodAll_cons hA2
  obtain ⟨_,rfl,_⟩:=trodAll_nil r0
  refine (row_calls (RdAll.cons (RdV.one (RdTy.slice Try.underlying22 (by kernel_rfl) (RdTy.int (k:=.u8) Try.underlying5 (by kernel_rfl))) (by kernel_rfl)) RdAll.nil) laidOut (by kernel_rfl) (fun (x:(List Int)×Unit) h=>laws_FnCommits_ok (law x h)) enc W base args _ p hA (fun j t v h1 h2=>hval j t v (by simpa using h1) h2) (.none (by kernel_rfl))).mono fun e W2 hh=>?_
  obtain ⟨he,bel,hT⟩:=hh
  subst he
  exact ⟨_,rfl,_,_,_,[],_,[],hW1,trodAll_mk1 (shut_bool Try.underlying4 _),hT,rfl,bel.frame _,fun h=>by cases h⟩
theorem cl1:runB Try.prog 296 [3] [] 0=([],List.reverse [3,4,5,18,19,49,21,51,74,20,50,6,22,23,24,52,75,53,27,76,31,54,57,77,87,7,25,26,55,56,28,58,29,59,8,30,9,32,12,42,63,82,86,68,83,89,84,85,43,69,34,13,45,46,71,72,44,41,67,70,35,33,60,10,11,36,61,78,14,79,88,80,62,81,37,40,64,66,38,65,39,15,47,73,17,16,48],1237940039285380274899124216):=by kernel_rfl
theorem cl2:Nat.ble 296 (fuelC Try.prog)=true:=by kernel_rfl
theorem cl:Try.prog.closure 3=[3,4,5,18,19,49,21,51,74,20,50,6,22,23,24,52,75,53,27,76,31,54,57,77,87,7,25,26,55,56,28,58,29,59,8,30,9,32,12,42,63,82,86,68,83,89,84,85,43,69,34,13,45,46,71,72,44,41,67,70,35,33,60,10,11,36,61,78,14,79,88,80,62,81,37,40,64,66,38,65,39,15,47,73,17,16,48]:=closure_of cl1 cl2
theorem clI:Try.prog.inPlace 3=[]:=inPlace_of cl (by kernel_rfl)
theorem clU:Try.prog.unfollowed 3=true:=unfollowed_of cl (by kernel_rfl)
theorem clR:Try.prog.recurses 3=true:=recurses_of clU
theorem clV:Try.prog.varsNamed 3=[]:=varsNamed_of cl (by kernel_rfl)
theorem closed:joinedFacts Try.prog 3 Try.f3 Rows.fnCommitsSpec Rows.fnCommitsRow=true:=by
  unfold joinedFacts
  rw [clI,clU,clR,clV]
  kernel_rfl
theorem over:Rows.fnCommitsRow.holds Try.pinned (OpenSpec.ofChange Rows.fnCommitsSpec) :=
  OpenClaim.holds_of_wide 3 Try.f3 rfl rfl rfl rfl rfl rfl rfl ⟨rfl,rfl,rfl,rfl,rfl⟩ rfl rfl rfl rfl rfl (by kernel_rfl) Try.func3 closed
    (of_decide_eq_true (by kernel_rfl)) (by unfold Func.isWrapper; first | (rw [if_pos (by decide +kernel)]; kernel_rfl) | (rw [if_neg (by decide +kernel)]; exact ⟨rfl,rfl⟩))
    (fun os started H enc _=>lifted os started H enc)
theorem proved:Rows.FnCommitsSaid:=over
#print axioms proved
end Go.Proofs.Ythofgdapoklllaa.fnCommits
namespace Go.Proofs.Ythofgdapoklllaa
theorem fnCommits_holds:Rows.FnCommitsSaid:=fnCommits.proved
end Go.Proofs.Ythofgdapoklllaa