/- The law FnEdges holds for every input, as its row says; under no condition. -/
import Derived.Test.YtdcoelkflgpfgaaGreatCFnEdgesK3
import Derived.Test.YtdcoelkflgpfgaaGreatCFnEdgesP2
import Derived.Test.YtdcoelkflgpfgaaGreatRows
import Derived.WalkKit
import Derived.ProofKit
import Derived.OpenShut
import Derived.ShutString
import Derived.ChangeOld
import Derived.Below
import Derived.SizedLaws
set_option maxRecDepth 100000
set_option linter.unusedVariables false
set_option linter.unusedSimpArgs false
namespace Go.Proofs.YtdcoelkflgpfgaaGreat.fnEdges
open Go.Tm Go.RowKit Go.ChangeShapes Go.WideShapes Go.ChangeAt Go.ChangeMaps
theorem own:ownKnob Tryz.prog.godebug=none:=by kernel_rfl
theorem Vi:laidOutB Tryz.prog=true:=by kernel_rfl
theorem law (x:(List Int)×Unit) (h:(JM (iU .u8)) x.1∧True):pH 1099511627776 x.1=some true:=Pu.P0 x.1 h
theorem lifted (os:Os) (started:os.Started) (H:Type) (enc:TypeId×Value→H) :
    ReturnsInHanded {} Tryz.checked os 5 .any (Rows.fnEdgesSpec.pre6 enc Tryz.prog Tryz.f5 Rows.fnEdgesRow.domain false) (Rows.fnEdgesSpec.post enc Tryz.prog Tryz.f5 false true false false):=by
  refine returnsInHanded_of_change_sized (C:=Tryz.checked) own started (by kernel_rfl) Tryz.func5
    (ChangeSpec.witness6 (enc:=enc) (C:=Tryz.checked) false ⟨#[],#[.slice none 0 0],[]⟩ 8 (by kernel_rfl) (by kernel_rfl) (by kernel_rfl) (by kernel_rfl)) ?_
  intro W base args ds gs before hval0 hW hcnd hsz0 _
  have hval:∀ (j:Nat) t v,Tryz.f5.params[j]?=some t→args[j]?=some v→Value.okWide Tryz.prog W .any base t v:=hval0
  have hW1:=hW
  obtain ⟨p,q,hA0,hV,rfl,hfz,hnd⟩:=hW
  have hA:DataW.TrodAll enc Tryz.prog W 0 (fun _=>true) true Tryz.f5.params.toList args.toList ds p:=hA0
  have hB:=hA
  rw [Tryz.params5] at hA hval
  obtain ⟨rfl,rfl⟩:=trodVars_none hV
  have hA2:=hA
  obtain ⟨v0,vs0,d0,ds0,p0,q0,ha0,rfl,hp0,h0,r0⟩:=trodAll_cons hA2
  obtain ⟨_,rfl,_⟩:=trodAll_nil r0
  refine (Sr (He.cons (Wy.one (OG.slice Tryz.underlying22 (by kernel_rfl) (OG.int (k:=.u8) Tryz.underlying5 (by kernel_rfl))) (by kernel_rfl)) He.nil) Vi (by kernel_rfl) (fun (x:(List Int)×Unit) h=>Iq (law x h)) enc W base args _ p hA (fun j t v h1 h2=>hval j t v (by simpa using h1) h2) (.none (by kernel_rfl))).mono fun e W2 hh=>?_
  obtain ⟨he,bel,hT⟩:=hh
  subst he
  exact ⟨_,rfl,_,_,_,[],_,[],hW1,trodAll_mk1 (shut_bool Tryz.underlying4 _),hT,rfl,bel.frame _,fun h=>by cases h⟩
theorem WS:Ng Tryz.prog 1354 [5] [] 0=([],List.reverse [5,8,26,83,67,64,145,65,144,98,187,78,154,99,188,251,191,189,169,190,52,111,81,112,113,114,115,116,204,62,143,232,244,314,304,164,241,288,262,117,205,287,206,226,207,202,282,283,327,343,353,360,361,362,284,152,153,315,118,95,179,257,180,258,181,233,305,167,201,249,250,252,253,261,128,316,317,340,318,319,335,182,259,260,320,341,321,162,336,234,306,337,346,347,220,298,297,203,223,222,299,247,246,300,301,285,127,224,137,225,138,328,329,139,231,303,286,348,355,354,349,77,168,96,307,338,350,351,356,363,357,365,364,76,366,367,352,358,161,359,368,369,308,309,242,310,100,101,235,311,339,236,27,28,84,29,30,31,16,32,33,34,85,163,243,104,70,313,35,86,36,37,38,61,108,199,280,322,171,281,272,324,342,87,165,245,278,325,74,149,237,238,39,88,166,248,40,41],2404907497184699028937265209902211193195329194057936975273874060844516967094183004230539034938265660957246161184):=by kernel_rfl
theorem WT:Nat.ble 1354 (MC Tryz.prog)=true:=by kernel_rfl
theorem cl:Tryz.prog.closure 5=[5,8,26,83,67,64,145,65,144,98,187,78,154,99,188,251,191,189,169,190,52,111,81,112,113,114,115,116,204,62,143,232,244,314,304,164,241,288,262,117,205,287,206,226,207,202,282,283,327,343,353,360,361,362,284,152,153,315,118,95,179,257,180,258,181,233,305,167,201,249,250,252,253,261,128,316,317,340,318,319,335,182,259,260,320,341,321,162,336,234,306,337,346,347,220,298,297,203,223,222,299,247,246,300,301,285,127,224,137,225,138,328,329,139,231,303,286,348,355,354,349,77,168,96,307,338,350,351,356,363,357,365,364,76,366,367,352,358,161,359,368,369,308,309,242,310,100,101,235,311,339,236,27,28,84,29,30,31,16,32,33,34,85,163,243,104,70,313,35,86,36,37,38,61,108,199,280,322,171,281,272,324,342,87,165,245,278,325,74,149,237,238,39,88,166,248,40,41]:=Qt WS WT
theorem WU:Tryz.prog.inPlace 5=[]:=Qu cl (by kernel_rfl)
theorem WP:Tryz.prog.unfollowed 5=false:=Lw cl (by kernel_rfl)
theorem WV:OX Tryz.prog [8,16,64,154,78,115,207,257,179,258,180,181,95,81,113,314,244,262,288,241,164,304,232,143,62,111,112,114,204,116,287,205,282,360,361,362,353,343,327,283,153,152,315,284,202,226,206,117,118,52,99,187,191,251,188,169,189,190,98,201,249,250,252,167,128,261,316,340,317,318,319,253,162,259,341,320,321,260,182,335,336,305,233,96,168,138,137,224,225,127,303,231,139,246,247,299,300,222,301,223,329,328,285,286,203,346,297,298,220,347,354,355,348,77,349,337,306,350,363,356,76,364,365,366,367,357,351,161,358,368,369,359,352,338,307,308,242,309,310,234,144,65,100,101,339,311,235,236,145,67,83,26,27,84,28,29,30,31,32,33,70,104,313,243,163,85,34,86,35,36,37,171,322,280,342,324,272,281,199,108,61,237,238,149,74,325,278,245,165,87,38,248,166,88,39,40,41,5] 0=some 2404907497184699028937265209902211193195329194057936975273874060844516967094183004230539034938265660957246161184:=by kernel_rfl
theorem WW:Tryz.prog.recurses 5=false:=OY cl WP WV (by kernel_rfl)
theorem WX:Tryz.prog.varsNamed 5=[]:=Nh cl (by kernel_rfl)
theorem closed:joinedFacts Tryz.prog 5 Tryz.f5 Rows.fnEdgesSpec Rows.fnEdgesRow=true:=by
  unfold joinedFacts
  rw [WU,WP,WW,WX]
  kernel_rfl
theorem over:Rows.fnEdgesRow.holds Tryz.pinned (OpenSpec.ofChange Rows.fnEdgesSpec) :=
  OpenClaim.holds_of_wide 5 Tryz.f5 rfl rfl rfl rfl rfl rfl rfl ⟨rfl,rfl,rfl,rfl,rfl⟩ rfl rfl rfl rfl rfl (by kernel_rfl) Tryz.func5 closed
    (of_decide_eq_true (by kernel_rfl)) (by unfold Func.isWrapper; first | (rw [if_pos (by decide +kernel)]; kernel_rfl) | (rw [if_neg (by decide +kernel)]; exact ⟨rfl,rfl⟩))
    (fun os started H enc _=>lifted os started H enc)
theorem proved:Rows.FnEdgesSaid:=over
#print axioms proved
end Go.Proofs.YtdcoelkflgpfgaaGreat.fnEdges
namespace Go.Proofs.YtdcoelkflgpfgaaGreat
theorem fnEdges_holds:Rows.FnEdgesSaid:=fnEdges.proved
end Go.Proofs.YtdcoelkflgpfgaaGreat