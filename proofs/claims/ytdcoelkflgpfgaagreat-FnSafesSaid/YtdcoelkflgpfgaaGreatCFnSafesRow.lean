/- The law FnSafes holds for every input, as its row says; under no condition. -/
import Derived.Test.YtdcoelkflgpfgaaGreatCFnSafesK3
import Derived.Test.YtdcoelkflgpfgaaGreatCFnSafesP2
import Derived.Test.YtdcoelkflgpfgaaGreatRows
import Derived.WalkKit
import Derived.ProofKit
import Derived.OpenShut
import Derived.ShutString
import Derived.ChangeOld
import Derived.Below
import Derived.SizedLaws
set_option maxRecDepth 100000
set_option linter.unusedVariables false
set_option linter.unusedSimpArgs false
namespace Go.Proofs.YtdcoelkflgpfgaaGreat.fnSafes
open Go.Tm Go.RowKit Go.ChangeShapes Go.WideShapes Go.ChangeAt Go.ChangeMaps
theorem own:ownKnob Tryz.prog.godebug=none:=by kernel_rfl
theorem UU:laidOutB Tryz.prog=true:=by kernel_rfl
theorem law (x:(List Int)×Unit) (h:(Jw (jw .u8)) x.1∧True):pS 1099511627776 x.1=some true:=Pu.Pz x.1 h
theorem lifted (os:Os) (started:os.Started) (H:Type) (enc:TypeId×Value→H) :
    ReturnsInHanded {} Tryz.checked os 4 .any (Rows.fnSafesSpec.pre6 enc Tryz.prog Tryz.f4 Rows.fnSafesRow.domain false) (Rows.fnSafesSpec.post enc Tryz.prog Tryz.f4 false true false false):=by
  refine returnsInHanded_of_change_sized (C:=Tryz.checked) own started (by kernel_rfl) Tryz.func4
    (ChangeSpec.witness6 (enc:=enc) (C:=Tryz.checked) false ⟨#[],#[.slice none 0 0],[]⟩ 8 (by kernel_rfl) (by kernel_rfl) (by kernel_rfl) (by kernel_rfl)) ?_
  intro W base args ds gs before hval0 hW hcnd hsz0 _
  have hval:∀ (j:Nat) t v,Tryz.f4.params[j]?=some t→args[j]?=some v→Value.okWide Tryz.prog W .any base t v:=hval0
  have hW1:=hW
  obtain ⟨p,q,hA0,hV,rfl,hfz,hnd⟩:=hW
  have hA:DataW.TrodAll enc Tryz.prog W 0 (fun _=>true) true Tryz.f4.params.toList args.toList ds p:=hA0
  have hB:=hA
  rw [Tryz.params4] at hA hval
  obtain ⟨rfl,rfl⟩:=trodVars_none hV
  have hA2:=hA
  obtain ⟨v0,vs0,d0,ds0,p0,q0,ha0,rfl,hp0,h0,r0⟩:=trodAll_cons hA2
  obtain ⟨_,rfl,_⟩:=trodAll_nil r0
  refine (RS (G8.cons (V7.one (Oj.slice Tryz.underlying22 (by kernel_rfl) (Oj.int (k:=.u8) Tryz.underlying5 (by kernel_rfl))) (by kernel_rfl)) G8.nil) UU (by kernel_rfl) (fun (x:(List Int)×Unit) h=>Ia (law x h)) enc W base args _ p hA (fun j t v h1 h2=>hval j t v (by simpa using h1) h2) (.none (by kernel_rfl))).mono fun e W2 hh=>?_
  obtain ⟨he,bel,hT⟩:=hh
  subst he
  exact ⟨_,rfl,_,_,_,[],_,[],hW1,trodAll_mk1 (shut_bool Tryz.underlying4 _),hT,rfl,bel.frame _,fun h=>by cases h⟩
theorem Wt:MZ Tryz.prog 1354 [4] [] 0=([],List.reverse [4,8,9,64,66,65,144,98,187,78,154,99,188,251,191,189,169,190,52,111,81,112,113,114,115,116,204,62,143,232,244,314,304,164,241,288,262,117,205,287,206,226,207,202,282,283,327,343,353,360,361,362,284,152,153,315,118,95,179,257,180,258,181,233,305,167,201,249,250,252,253,261,128,316,317,340,318,319,335,182,259,260,320,341,321,162,336,234,306,337,346,347,220,298,297,203,223,222,299,247,246,300,301,285,127,224,137,225,138,328,329,139,231,303,286,348,355,354,349,77,168,96,307,338,350,351,356,363,357,365,364,76,366,367,352,358,161,359,368,369,308,309,242,310,19,67,145,100,101,235,311,339,236,20,21,13,70,71,146,120,214,200,296,133,134,228,215,216,171,147,227,22,79,155,157,240,312,149,237,238,229,175,256,302,158,156,239,23,80,159,160,82,24,25,16],2404907488225608980564756573614699035340621337754487364396181951532760481458017549317870671042719614702441800464):=by kernel_rfl
theorem Wu:Nat.ble 1354 (Mi Tryz.prog)=true:=by kernel_rfl
theorem cl:Tryz.prog.closure 4=[4,8,9,64,66,65,144,98,187,78,154,99,188,251,191,189,169,190,52,111,81,112,113,114,115,116,204,62,143,232,244,314,304,164,241,288,262,117,205,287,206,226,207,202,282,283,327,343,353,360,361,362,284,152,153,315,118,95,179,257,180,258,181,233,305,167,201,249,250,252,253,261,128,316,317,340,318,319,335,182,259,260,320,341,321,162,336,234,306,337,346,347,220,298,297,203,223,222,299,247,246,300,301,285,127,224,137,225,138,328,329,139,231,303,286,348,355,354,349,77,168,96,307,338,350,351,356,363,357,365,364,76,366,367,352,358,161,359,368,369,308,309,242,310,19,67,145,100,101,235,311,339,236,20,21,13,70,71,146,120,214,200,296,133,134,228,215,216,171,147,227,22,79,155,157,240,312,149,237,238,229,175,256,302,158,156,239,23,80,159,160,82,24,25,16]:=PY Wt Wu
theorem Wv:Tryz.prog.inPlace 4=[]:=PZ cl (by kernel_rfl)
theorem Wo:Tryz.prog.unfollowed 4=true:=Lf cl (by kernel_rfl)
theorem Ww:Tryz.prog.recurses 4=true:=Ow Wo
theorem Wx:Tryz.prog.varsNamed 4=[]:=M0 cl (by kernel_rfl)
theorem closed:joinedFacts Tryz.prog 4 Tryz.f4 Rows.fnSafesSpec Rows.fnSafesRow=true:=by
  unfold joinedFacts
  rw [Wv,Wo,Ww,Wx]
  kernel_rfl
theorem over:Rows.fnSafesRow.holds Tryz.pinned (OpenSpec.ofChange Rows.fnSafesSpec) :=
  OpenClaim.holds_of_wide 4 Tryz.f4 rfl rfl rfl rfl rfl rfl rfl ⟨rfl,rfl,rfl,rfl,rfl⟩ rfl rfl rfl rfl rfl (by kernel_rfl) Tryz.func4 closed
    (of_decide_eq_true (by kernel_rfl)) (by unfold Func.isWrapper; first | (rw [if_pos (by decide +kernel)]; kernel_rfl) | (rw [if_neg (by decide +kernel)]; exact ⟨rfl,rfl⟩))
    (fun os started H enc _=>lifted os started H enc)
theorem proved:Rows.FnSafesSaid:=over
#print axioms proved
end Go.Proofs.YtdcoelkflgpfgaaGreat.fnSafes
namespace Go.Proofs.YtdcoelkflgpfgaaGreat
theorem fnSafes_holds:Rows.FnSafesSaid:=fnSafes.proved
end Go.Proofs.YtdcoelkflgpfgaaGreat