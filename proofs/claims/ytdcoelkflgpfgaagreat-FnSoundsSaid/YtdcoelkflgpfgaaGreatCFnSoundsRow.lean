/- The law FnSounds holds for every input, as its row says; under no condition. -/
import Derived.Test.YtdcoelkflgpfgaaGreatCFnSoundsK3
import Derived.Test.YtdcoelkflgpfgaaGreatCFnSoundsP2
import Derived.Test.YtdcoelkflgpfgaaGreatRows
import Derived.WalkKit
import Derived.ProofKit
import Derived.OpenShut
import Derived.ShutString
import Derived.ChangeOld
import Derived.Below
import Derived.SizedLaws
set_option maxRecDepth 100000
set_option linter.unusedVariables false
set_option linter.unusedSimpArgs false
namespace Go.Proofs.YtdcoelkflgpfgaaGreat.fnSounds
open Go.Tm Go.RowKit Go.ChangeShapes Go.WideShapes Go.ChangeAt Go.ChangeMaps
theorem own:ownKnob Tryz.prog.godebug=none:=by kernel_rfl
theorem Ui:laidOutB Tryz.prog=true:=by kernel_rfl
theorem law (x:(List Int)×Unit) (h:(IF (jj .u8)) x.1∧True):nQ 1099511627776 x.1=some true:=Pu.M1 x.1 h
theorem lifted (os:Os) (started:os.Started) (H:Type) (enc:TypeId×Value→H) :
    ReturnsInHanded {} Tryz.checked os 3 .any (Rows.fnSoundsSpec.pre6 enc Tryz.prog Tryz.f3 Rows.fnSoundsRow.domain false) (Rows.fnSoundsSpec.post enc Tryz.prog Tryz.f3 false true false false):=by
  refine returnsInHanded_of_change_sized (C:=Tryz.checked) own started (by kernel_rfl) Tryz.func3
    (ChangeSpec.witness6 (enc:=enc) (C:=Tryz.checked) false ⟨#[],#[.slice none 0 0],[]⟩ 8 (by kernel_rfl) (by kernel_rfl) (by kernel_rfl) (by kernel_rfl)) ?_
  intro W base args ds gs before hval0 hW hcnd hsz0 _
  have hval:∀ (j:Nat) t v,Tryz.f3.params[j]?=some t→args[j]?=some v→Value.okWide Tryz.prog W .any base t v:=hval0
  have hW1:=hW
  obtain ⟨p,q,hA0,hV,rfl,hfz,hnd⟩:=hW
  have hA:DataW.TrodAll enc Tryz.prog W 0 (fun _=>true) true Tryz.f3.params.toList args.toList ds p:=hA0
  have hB:=hA
  rw [Tryz.params3] at hA hval
  obtain ⟨rfl,rfl⟩:=trodVars_none hV
  have hA2:=hA
  obtain ⟨v0,vs0,d0,ds0,p0,q0,ha0,rfl,hp0,h0,r0⟩:=trodAll_cons hA2
  obtain ⟨_,rfl,_⟩:=trodAll_nil r0
  refine (Q3 (Gg.cons (Vu.one (NB.slice Tryz.underlying22 (by kernel_rfl) (NB.int (k:=.u8) Tryz.underlying5 (by kernel_rfl))) (by kernel_rfl)) Gg.nil) Ui (by kernel_rfl) (fun (x:(List Int)×Unit) h=>FD (law x h)) enc W base args _ p hA (fun j t v h1 h2=>hval j t v (by simpa using h1) h2) (.none (by kernel_rfl))).mono fun e W2 hh=>?_
  obtain ⟨he,bel,hT⟩:=hh
  subst he
  exact ⟨_,rfl,_,_,_,[],_,[],hW1,trodAll_mk1 (shut_bool Tryz.underlying4 _),hT,rfl,bel.frame _,fun h=>by cases h⟩
theorem VN:Md Tryz.prog 1354 [3] [] 0=([],List.reverse [3,8,9,64,66,65,144,98,187,78,154,99,188,251,191,189,169,190,52,111,81,112,113,114,115,116,204,62,143,232,244,314,304,164,241,288,262,117,205,287,206,226,207,202,282,283,327,343,353,360,361,362,284,152,153,315,118,95,179,257,180,258,181,233,305,167,201,249,250,252,253,261,128,316,317,340,318,319,335,182,259,260,320,341,321,162,336,234,306,337,346,347,220,298,297,203,223,222,299,247,246,300,301,285,127,224,137,225,138,328,329,139,231,303,286,348,355,354,349,77,168,96,307,338,350,351,356,363,357,365,364,76,366,367,352,358,161,359,368,369,308,309,242,310,10,67,145,100,101,235,311,339,236,11,12,68,69,13,70,71,146,120,214,200,296,133,134,228,215,216,171,147,227,14,17,75,150,237,151,74,149,238,73,72,148,15,18,24,82,16],2404907488225608972212909070643305965845253644644380555199280259860571985657189810145743078980705422106899775240):=by kernel_rfl
theorem VO:Nat.ble 1354 (Lu Tryz.prog)=true:=by kernel_rfl
theorem cl:Tryz.prog.closure 3=[3,8,9,64,66,65,144,98,187,78,154,99,188,251,191,189,169,190,52,111,81,112,113,114,115,116,204,62,143,232,244,314,304,164,241,288,262,117,205,287,206,226,207,202,282,283,327,343,353,360,361,362,284,152,153,315,118,95,179,257,180,258,181,233,305,167,201,249,250,252,253,261,128,316,317,340,318,319,335,182,259,260,320,341,321,162,336,234,306,337,346,347,220,298,297,203,223,222,299,247,246,300,301,285,127,224,137,225,138,328,329,139,231,303,286,348,355,354,349,77,168,96,307,338,350,351,356,363,357,365,364,76,366,367,352,358,161,359,368,369,308,309,242,310,10,67,145,100,101,235,311,339,236,11,12,68,69,13,70,71,146,120,214,200,296,133,134,228,215,216,171,147,227,14,17,75,150,237,151,74,149,238,73,72,148,15,18,24,82,16]:=Pd VN VO
theorem VP:Tryz.prog.inPlace 3=[]:=Pe cl (by kernel_rfl)
theorem VK:Tryz.prog.unfollowed 3=true:=Kn cl (by kernel_rfl)
theorem VQ:Tryz.prog.recurses 3=true:=NK VK
theorem VS:Tryz.prog.varsNamed 3=[]:=Me cl (by kernel_rfl)
theorem closed:joinedFacts Tryz.prog 3 Tryz.f3 Rows.fnSoundsSpec Rows.fnSoundsRow=true:=by
  unfold joinedFacts
  rw [VP,VK,VQ,VS]
  kernel_rfl
theorem over:Rows.fnSoundsRow.holds Tryz.pinned (OpenSpec.ofChange Rows.fnSoundsSpec) :=
  OpenClaim.holds_of_wide 3 Tryz.f3 rfl rfl rfl rfl rfl rfl rfl ⟨rfl,rfl,rfl,rfl,rfl⟩ rfl rfl rfl rfl rfl (by kernel_rfl) Tryz.func3 closed
    (of_decide_eq_true (by kernel_rfl)) (by unfold Func.isWrapper; first | (rw [if_pos (by decide +kernel)]; kernel_rfl) | (rw [if_neg (by decide +kernel)]; exact ⟨rfl,rfl⟩))
    (fun os started H enc _=>lifted os started H enc)
theorem proved:Rows.FnSoundsSaid:=over
#print axioms proved
end Go.Proofs.YtdcoelkflgpfgaaGreat.fnSounds
namespace Go.Proofs.YtdcoelkflgpfgaaGreat
theorem fnSounds_holds:Rows.FnSoundsSaid:=fnSounds.proved
end Go.Proofs.YtdcoelkflgpfgaaGreat