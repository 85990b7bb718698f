/- The law FnCommitsBent holds for every input, as its row says; under no condition. -/
import Derived.Test.YthofgdapoklllaaGreatCFnCommitsBentK2
import Derived.Test.YthofgdapoklllaaGreatCFnCommitsBentP1
import Derived.Test.YthofgdapoklllaaGreatRows
import Derived.WalkKit
import Derived.ProofKit
import Derived.OpenShut
import Derived.ShutString
import Derived.ChangeOld
import Derived.Below
import Derived.SizedLaws
set_option maxRecDepth 100000
set_option linter.unusedVariables false
set_option linter.unusedSimpArgs false
namespace Go.Proofs.YthofgdapoklllaaGreat.fnCommitsBent
open Go.Tm Go.RowKit Go.ChangeShapes Go.WideShapes Go.ChangeAt Go.ChangeMaps
theorem own:ownKnob Tryz.prog.godebug=none:=by kernel_rfl
theorem laidOut:laidOutB Tryz.prog=true:=by kernel_rfl
theorem law (x:(List Int)×Unit) (h:(wSl (wInt .u8)) x.1∧True):laws_FnCommitsBent 1099511627776 x.1=some true:=Pu.FnCommitsBent_law x.1 h
theorem lifted (os:Os) (started:os.Started) (H:Type) (enc:TypeId×Value→H) :
    ReturnsInHanded {} Tryz.checked os 3 .any (Rows.fnCommitsBentSpec.pre6 enc Tryz.prog Tryz.f3 Rows.fnCommitsBentRow.domain false) (Rows.fnCommitsBentSpec.post enc Tryz.prog Tryz.f3 false true false false):=by
  refine returnsInHanded_of_change_sized (C:=Tryz.checked) own started (by kernel_rfl) Tryz.func3
    (ChangeSpec.witness6 (enc:=enc) (C:=Tryz.checked) false ⟨#[],#[.slice none 0 0],[]⟩ 8 (by kernel_rfl) (by kernel_rfl) (by kernel_rfl) (by kernel_rfl)) ?_
  intro W base args ds gs before hval0 hW hcnd hsz0 _
  have hval:∀ (j:Nat) t v,Tryz.f3.params[j]?=some t→args[j]?=some v→Value.okWide Tryz.prog W .any base t v:=hval0
  have hW1:=hW
  obtain ⟨p,q,hA0,hV,rfl,hfz,hnd⟩:=hW
  have hA:DataW.TrodAll enc Tryz.prog W 0 (fun _=>true) true Tryz.f3.params.toList args.toList ds p:=hA0
  have hB:=hA
  rw [Tryz.params3] at hA hval
  obtain ⟨rfl,rfl⟩:=trodVars_none hV
  have hA2:=hA
  obtain ⟨v0,vs0,d0,ds0,p0,q0,ha0,rfl,hp0,h0,r0⟩:=trodAll_cons hA2
  obtain ⟨_,rfl,_⟩:=trodAll_nil r0
  refine (row_calls (RdAll.cons (RdV.one (RdTy.slice Tryz.underlying22 (by kernel_rfl) (RdTy.int (k:=.u8) Tryz.underlying5 (by kernel_rfl))) (by kernel_rfl)) RdAll.nil) laidOut (by kernel_rfl) (fun (x:(List Int)×Unit) h=>laws_FnCommitsBent_ok (law x h)) enc W base args _ p hA (fun j t v h1 h2=>hval j t v (by simpa using h1) h2) (.none (by kernel_rfl))).mono fun e W2 hh=>?_
  obtain ⟨he,bel,hT⟩:=hh
  subst he
  exact ⟨_,rfl,_,_,_,[],_,[],hW1,trodAll_mk1 (shut_bool Tryz.underlying4 _),hT,rfl,bel.frame _,fun h=>by cases h⟩
theorem cl1:runB Tryz.prog 542 [3] [] 0=([],List.reverse [3,4,5,26,27,56,44,42,28,69,71,98,63,51,108,52,96,54,53,97,127,142,68,110,41,57,99,100,132,101,133,143,145,147,148,149,102,126,123,134,43,7,36,81,125,141,124,128,82,10,40,85,50,93,94,95,39,55,84,37,83,129,38,29,70,111,30,72,73,112,74,6,31,75,113,135,62,47,25,67,136,90,137,144,146,114,115,138,116,117,139,118,119,140,120,76,121,9,46,86,130,92,65,87,131,88,89,35,64,80,48,91,34,49,79,32,77,122,78,33,8,45,11,12,13,14,58,15,16,17,24,23,66,109,59,104,103,18,60,105,106,61,107,19,20,21,22],1427247692705959881058285969449495136382746616):=by kernel_rfl
theorem cl2:Nat.ble 542 (fuelC Tryz.prog)=true:=by kernel_rfl
theorem cl:Tryz.prog.closure 3=[3,4,5,26,27,56,44,42,28,69,71,98,63,51,108,52,96,54,53,97,127,142,68,110,41,57,99,100,132,101,133,143,145,147,148,149,102,126,123,134,43,7,36,81,125,141,124,128,82,10,40,85,50,93,94,95,39,55,84,37,83,129,38,29,70,111,30,72,73,112,74,6,31,75,113,135,62,47,25,67,136,90,137,144,146,114,115,138,116,117,139,118,119,140,120,76,121,9,46,86,130,92,65,87,131,88,89,35,64,80,48,91,34,49,79,32,77,122,78,33,8,45,11,12,13,14,58,15,16,17,24,23,66,109,59,104,103,18,60,105,106,61,107,19,20,21,22]:=closure_of cl1 cl2
theorem clI:Tryz.prog.inPlace 3=[]:=inPlace_of cl (by kernel_rfl)
theorem clU:Tryz.prog.unfollowed 3=true:=unfollowed_of cl (by kernel_rfl)
theorem clR:Tryz.prog.recurses 3=true:=recurses_of clU
theorem clV:Tryz.prog.varsNamed 3=[]:=varsNamed_of cl (by kernel_rfl)
theorem closed:joinedFacts Tryz.prog 3 Tryz.f3 Rows.fnCommitsBentSpec Rows.fnCommitsBentRow=true:=by
  unfold joinedFacts
  rw [clI,clU,clR,clV]
  kernel_rfl
theorem over:Rows.fnCommitsBentRow.holds Tryz.pinned (OpenSpec.ofChange Rows.fnCommitsBentSpec) :=
  OpenClaim.holds_of_wide 3 Tryz.f3 rfl rfl rfl rfl rfl rfl rfl ⟨rfl,rfl,rfl,rfl,rfl⟩ rfl rfl rfl rfl rfl (by kernel_rfl) Tryz.func3 closed
    (of_decide_eq_true (by kernel_rfl)) (by unfold Func.isWrapper; first | (rw [if_pos (by decide +kernel)]; kernel_rfl) | (rw [if_neg (by decide +kernel)]; exact ⟨rfl,rfl⟩))
    (fun os started H enc _=>lifted os started H enc)
theorem proved:Rows.FnCommitsBentSaid:=over
#print axioms proved
end Go.Proofs.YthofgdapoklllaaGreat.fnCommitsBent
namespace Go.Proofs.YthofgdapoklllaaGreat
theorem fnCommitsBent_holds:Rows.FnCommitsBentSaid:=fnCommitsBent.proved
end Go.Proofs.YthofgdapoklllaaGreat