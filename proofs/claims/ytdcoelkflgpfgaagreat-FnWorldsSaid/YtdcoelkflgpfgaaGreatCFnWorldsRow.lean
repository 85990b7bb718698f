/- The law FnWorlds holds for every input, jo its row says; under no condition. -/
import Derived.Test.YtdcoelkflgpfgaaGreatCFnWorldsK4
import Derived.Test.YtdcoelkflgpfgaaGreatCFnWorldsP3
import Derived.Test.YtdcoelkflgpfgaaGreatRows
import Derived.WalkKit
import Derived.ProofKit
import Derived.OpenShut
import Derived.ShutString
import Derived.ChangeOld
import Derived.Below
import Derived.SizedLaws
set_option maxRecDepth 100000
set_option linter.unusedVariables false
set_option linter.unusedSimpArgs false
namespace Go.Proofs.YtdcoelkflgpfgaaGreat.fnWorlds
open Go.Tm Go.RowKit Go.ChangeShapes Go.WideShapes Go.ChangeAt Go.ChangeMaps
theorem own:ownKnob Tryz.prog.godebug=none:=by kernel_rfl
theorem qis:laidOutB Tryz.prog=true:=by kernel_rfl
theorem law (x:(List Int)×Unit) (h:(Ve (mn .u8)) x.1∧True):tZ x.1=some true:=Pu.qak x.1 h
theorem lifted (os:Os) (started:os.Started) (H:Type) (enc:TypeId×Value→H) :
    ReturnsInHanded {} Tryz.checked os 7 .any (Rows.fnWorldsSpec.pre6 enc Tryz.prog Tryz.f7 Rows.fnWorldsRow.domain false) (Rows.fnWorldsSpec.post enc Tryz.prog Tryz.f7 false true false false):=by
  refine returnsInHanded_of_change_sized (C:=Tryz.checked) own started (by kernel_rfl) Tryz.func7
    (ChangeSpec.witness6 (enc:=enc) (C:=Tryz.checked) false ⟨#[],#[.slice none 0 0],[]⟩ 8 (by kernel_rfl) (by kernel_rfl) (by kernel_rfl) (by kernel_rfl)) ?_
  intro W base args ds gs before hval0 hW hcnd hsz0 _
  have hval:∀ (j:Nat) t v,Tryz.f7.params[j]?=some t→args[j]?=some v→Value.okWide Tryz.prog W .any base t v:=hval0
  have hW1:=hW
  obtain ⟨p,q,hA0,hV,rfl,hfz,hnd⟩:=hW
  have hA:DataW.TrodAll enc Tryz.prog W 0 (fun _=>true) true Tryz.f7.params.toList args.toList ds p:=hA0
  have hB:=hA
  rw [Tryz.params7] at hA hval
  obtain ⟨rfl,rfl⟩:=trodVars_none hV
  have hA2:=hA
  obtain ⟨v0,vs0,d0,ds0,p0,q0,ha0,rfl,hp0,h0,r0⟩:=trodAll_cons hA2
  obtain ⟨_,rfl,_⟩:=trodAll_nil r0
  refine (qeN (R9.cons (RdV.one (qaR.slice Tryz.underlying22 (by kernel_rfl) (qaR.int (k:=.u8) Tryz.underlying5 (by kernel_rfl))) (by kernel_rfl)) R9.nil) qis (by kernel_rfl) (fun (x:(List Int)×Unit) h=>Ra (law x h)) enc W base args _ p hA (fun j t v h1 h2=>hval j t v (by simpa using h1) h2) (.none (by kernel_rfl))).mono fun e W2 hh=>?_
  obtain ⟨he,bel,hT⟩:=hh
  subst he
  exact ⟨_,rfl,_,_,_,[],_,[],hW1,trodAll_mk1 (shut_bool Tryz.underlying4 _),hT,rfl,bel.frame _,fun h=>by cases h⟩
theorem cl1:Zl Tryz.prog 1354 [7] [] 0=([],List.reverse [7,8,48,64,98,187,78,154,99,188,251,191,189,169,190,52,111,81,112,113,114,115,116,204,62,143,232,244,314,304,164,241,288,262,117,205,287,206,226,207,202,282,283,327,343,353,360,361,362,284,152,153,315,118,100,101,49,102,70,103,104,105,192,273,193,106,124,194,108,199,243,313,280,163,322,171,281,272,324,342,107,195,274,275,196,217,197,276,198,277,278,325,279,326,109,200,90,170,172,176,173,174,254,255,175,256,50,67,145,65,144,95,179,257,180,258,181,233,305,167,201,249,250,252,253,261,128,316,317,340,318,319,335,182,259,260,320,341,321,162,336,234,306,337,346,347,220,298,297,203,223,222,299,247,246,300,301,285,127,224,137,225,138,328,329,139,231,303,286,348,355,354,349,77,168,96,307,338,350,351,356,363,357,365,364,76,366,367,352,358,161,359,368,369,308,309,242,310,235,311,339,236,9,66,51,110,44,16,92,46,93,60,142,177,178,94,53,61,119,208,289,209,291,290,330,210,292,237,331,344,149,238,332,345,333,293,334,211,294,213,212,295,120,214,296,133,134,228,215,216,121,122,71,146,147,227,55,130,131,132,135,136,229,302,230,123,125,218,54,126,219,221,129,82,160,56,140,57,68,141,58,12,69,59,63],2404907604760388129118841404757993217019159430976782583715560069400673876354510019038088683503897868825748640640):=by kernel_rfl
theorem cl2:Nat.ble 1354 (Ym Tryz.prog)=true:=by kernel_rfl
theorem cl:Tryz.prog.closure 7=[7,8,48,64,98,187,78,154,99,188,251,191,189,169,190,52,111,81,112,113,114,115,116,204,62,143,232,244,314,304,164,241,288,262,117,205,287,206,226,207,202,282,283,327,343,353,360,361,362,284,152,153,315,118,100,101,49,102,70,103,104,105,192,273,193,106,124,194,108,199,243,313,280,163,322,171,281,272,324,342,107,195,274,275,196,217,197,276,198,277,278,325,279,326,109,200,90,170,172,176,173,174,254,255,175,256,50,67,145,65,144,95,179,257,180,258,181,233,305,167,201,249,250,252,253,261,128,316,317,340,318,319,335,182,259,260,320,341,321,162,336,234,306,337,346,347,220,298,297,203,223,222,299,247,246,300,301,285,127,224,137,225,138,328,329,139,231,303,286,348,355,354,349,77,168,96,307,338,350,351,356,363,357,365,364,76,366,367,352,358,161,359,368,369,308,309,242,310,235,311,339,236,9,66,51,110,44,16,92,46,93,60,142,177,178,94,53,61,119,208,289,209,291,290,330,210,292,237,331,344,149,238,332,345,333,293,334,211,294,213,212,295,120,214,296,133,134,228,215,216,121,122,71,146,147,227,55,130,131,132,135,136,229,302,230,123,125,218,54,126,219,221,129,82,160,56,140,57,68,141,58,12,69,59,63]:=qcF cl1 cl2
theorem clI:Tryz.prog.inPlace 7=[]:=qcG cl (by kernel_rfl)
theorem clU:Tryz.prog.unfollowed 7=true:=Xh cl (by kernel_rfl)
theorem clR:Tryz.prog.recurses 7=true:=qaY clU
theorem clV:Tryz.prog.varsNamed 7=[]:=Zm cl (by kernel_rfl)
theorem closed:joinedFacts Tryz.prog 7 Tryz.f7 Rows.fnWorldsSpec Rows.fnWorldsRow=true:=by
  unfold joinedFacts
  rw [clI,clU,clR,clV]
  kernel_rfl
theorem over:Rows.fnWorldsRow.holds Tryz.pinned (OpenSpec.ofChange Rows.fnWorldsSpec) :=
  OpenClaim.holds_of_wide 7 Tryz.f7 rfl rfl rfl rfl rfl rfl rfl ⟨rfl,rfl,rfl,rfl,rfl⟩ rfl rfl rfl rfl rfl (by kernel_rfl) Tryz.func7 closed
    (of_decide_eq_true (by kernel_rfl)) (by unfold Func.isWrapper; first | (rw [if_pos (by decide +kernel)]; kernel_rfl) | (rw [if_neg (by decide +kernel)]; exact ⟨rfl,rfl⟩))
    (fun os started H enc _=>lifted os started H enc)
theorem proved:Rows.FnWorldsSaid:=over
#print axioms proved
end Go.Proofs.YtdcoelkflgpfgaaGreat.fnWorlds
namespace Go.Proofs.YtdcoelkflgpfgaaGreat
theorem fnWorlds_holds:Rows.FnWorldsSaid:=fnWorlds.proved
end Go.Proofs.YtdcoelkflgpfgaaGreat