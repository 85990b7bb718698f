/- The law FnWires holds for every input, as its row says; under no condition. -/
import Derived.Test.YtdcoelkflgpfgaaGreatCFnWiresK3
import Derived.Test.YtdcoelkflgpfgaaGreatCFnWiresP2
import Derived.Test.YtdcoelkflgpfgaaGreatRows
import Derived.WalkKit
import Derived.ProofKit
import Derived.OpenShut
import Derived.ShutString
import Derived.ChangeOld
import Derived.Below
import Derived.SizedLaws
set_option maxRecDepth 100000
set_option linter.unusedVariables false
set_option linter.unusedSimpArgs false
namespace Go.Proofs.YtdcoelkflgpfgaaGreat.fnWires
open Go.Tm Go.RowKit Go.ChangeShapes Go.WideShapes Go.ChangeAt Go.ChangeMaps
theorem own:ownKnob Tryz.prog.godebug=none:=by kernel_rfl
theorem Vt:laidOutB Tryz.prog=true:=by kernel_rfl
theorem law (x:(List Int)×Unit) (h:(KR (jq .u8)) x.1∧True):qo 1099511627776 x.1=some true:=Pu.QC x.1 h
theorem lifted (os:Os) (started:os.Started) (H:Type) (enc:TypeId×Value→H) :
    ReturnsInHanded {} Tryz.checked os 6 .any (Rows.fnWiresSpec.pre6 enc Tryz.prog Tryz.f6 Rows.fnWiresRow.domain false) (Rows.fnWiresSpec.post enc Tryz.prog Tryz.f6 false true false false):=by
  refine returnsInHanded_of_change_sized (C:=Tryz.checked) own started (by kernel_rfl) Tryz.func6
    (ChangeSpec.witness6 (enc:=enc) (C:=Tryz.checked) false ⟨#[],#[.slice none 0 0],[]⟩ 8 (by kernel_rfl) (by kernel_rfl) (by kernel_rfl) (by kernel_rfl)) ?_
  intro W base args ds gs before hval0 hW hcnd hsz0 _
  have hval:∀ (j:Nat) t v,Tryz.f6.params[j]?=some t→args[j]?=some v→Value.okWide Tryz.prog W .any base t v:=hval0
  have hW1:=hW
  obtain ⟨p,q,hA0,hV,rfl,hfz,hnd⟩:=hW
  have hA:DataW.TrodAll enc Tryz.prog W 0 (fun _=>true) true Tryz.f6.params.toList args.toList ds p:=hA0
  have hB:=hA
  rw [Tryz.params6] at hA hval
  obtain ⟨rfl,rfl⟩:=trodVars_none hV
  have hA2:=hA
  obtain ⟨v0,vs0,d0,ds0,p0,q0,ha0,rfl,hp0,h0,r0⟩:=trodAll_cons hA2
  obtain ⟨_,rfl,_⟩:=trodAll_nil r0
  refine (SV (Il.cons (WP.one (PA.slice Tryz.underlying22 (by kernel_rfl) (PA.int (k:=.u8) Tryz.underlying5 (by kernel_rfl))) (by kernel_rfl)) Il.nil) Vt (by kernel_rfl) (fun (x:(List Int)×Unit) h=>Jt (law x h)) enc W base args _ p hA (fun j t v h1 h2=>hval j t v (by simpa using h1) h2) (.none (by kernel_rfl))).mono fun e W2 hh=>?_
  obtain ⟨he,bel,hT⟩:=hh
  subst he
  exact ⟨_,rfl,_,_,_,[],_,[],hW1,trodAll_mk1 (shut_bool Tryz.underlying4 _),hT,rfl,bel.frame _,fun h=>by cases h⟩
theorem W9:N1 Tryz.prog 1354 [6] [] 0=([],List.reverse [6,8,42,67,64,145,65,144,98,187,78,154,99,188,251,191,189,169,190,52,111,81,112,113,114,115,116,204,62,143,232,244,314,304,164,241,288,262,117,205,287,206,226,207,202,282,283,327,343,353,360,361,362,284,152,153,315,118,95,179,257,180,258,181,233,305,167,201,249,250,252,253,261,128,316,317,340,318,319,335,182,259,260,320,341,321,162,336,234,306,337,346,347,220,298,297,203,223,222,299,247,246,300,301,285,127,224,137,225,138,328,329,139,231,303,286,348,355,354,349,77,168,96,307,338,350,351,356,363,357,365,364,76,366,367,352,358,161,359,368,369,308,309,242,310,100,101,235,311,339,236,89,43,90,170,171,172,176,173,174,197,276,254,255,175,256,91,97,183,263,70,184,264,265,243,104,313,275,281,272,324,342,195,274,163,266,322,185,267,200,237,238,186,268,323,269,270,271,147,227,45,44,16,92,46,93,60,142,177,178,94,47],2404907497184647765248403105851950938579547707326681900154314576890899752125855658974625904461524351126002008384):=by kernel_rfl
theorem Xa:Nat.ble 1354 (Np Tryz.prog)=true:=by kernel_rfl
theorem cl:Tryz.prog.closure 6=[6,8,42,67,64,145,65,144,98,187,78,154,99,188,251,191,189,169,190,52,111,81,112,113,114,115,116,204,62,143,232,244,314,304,164,241,288,262,117,205,287,206,226,207,202,282,283,327,343,353,360,361,362,284,152,153,315,118,95,179,257,180,258,181,233,305,167,201,249,250,252,253,261,128,316,317,340,318,319,335,182,259,260,320,341,321,162,336,234,306,337,346,347,220,298,297,203,223,222,299,247,246,300,301,285,127,224,137,225,138,328,329,139,231,303,286,348,355,354,349,77,168,96,307,338,350,351,356,363,357,365,364,76,366,367,352,358,161,359,368,369,308,309,242,310,100,101,235,311,339,236,89,43,90,170,171,172,176,173,174,197,276,254,255,175,256,91,97,183,263,70,184,264,265,243,104,313,275,281,272,324,342,195,274,163,266,322,185,267,200,237,238,186,268,323,269,270,271,147,227,45,44,16,92,46,93,60,142,177,178,94,47]:=Q3 W9 Xa
theorem Xb:Tryz.prog.inPlace 6=[]:=Q4 cl (by kernel_rfl)
theorem W6:Tryz.prog.unfollowed 6=false:=Mr cl (by kernel_rfl)
theorem Xc:PQ Tryz.prog [8,64,154,78,115,207,257,179,258,180,181,95,81,113,314,244,262,288,241,164,304,232,143,62,111,112,114,204,116,287,205,282,360,361,362,353,343,327,283,153,152,315,284,202,226,206,117,118,52,99,187,191,251,188,169,189,190,98,201,249,250,252,167,128,261,316,340,317,318,319,253,162,259,341,320,321,260,182,335,336,305,233,96,168,138,137,224,225,127,303,231,139,246,247,299,300,222,301,223,329,328,285,286,203,346,297,298,220,347,354,355,348,77,349,337,306,350,363,356,76,364,365,366,367,357,351,161,358,368,369,359,352,338,307,308,242,309,310,234,144,65,100,101,339,311,235,236,145,67,89,42,170,171,176,172,173,276,197,254,255,174,256,175,90,227,147,70,263,183,104,313,243,163,342,324,272,274,275,195,265,281,264,322,266,184,200,237,238,267,185,323,268,269,270,271,186,97,91,43,16,92,46,142,60,177,178,93,94,44,45,47,6] 0=some 2404907497184647765248403105851950938579547707326681900154314576890899752125855658974625904461524351126002008384:=by kernel_rfl
theorem Xd:Tryz.prog.recurses 6=false:=PS cl W6 Xc (by kernel_rfl)
theorem Xe:Tryz.prog.varsNamed 6=[]:=N2 cl (by kernel_rfl)
theorem closed:joinedFacts Tryz.prog 6 Tryz.f6 Rows.fnWiresSpec Rows.fnWiresRow=true:=by
  unfold joinedFacts
  rw [Xb,W6,Xd,Xe]
  kernel_rfl
theorem over:Rows.fnWiresRow.holds Tryz.pinned (OpenSpec.ofChange Rows.fnWiresSpec) :=
  OpenClaim.holds_of_wide 6 Tryz.f6 rfl rfl rfl rfl rfl rfl rfl ⟨rfl,rfl,rfl,rfl,rfl⟩ rfl rfl rfl rfl rfl (by kernel_rfl) Tryz.func6 closed
    (of_decide_eq_true (by kernel_rfl)) (by unfold Func.isWrapper; first | (rw [if_pos (by decide +kernel)]; kernel_rfl) | (rw [if_neg (by decide +kernel)]; exact ⟨rfl,rfl⟩))
    (fun os started H enc _=>lifted os started H enc)
theorem proved:Rows.FnWiresSaid:=over
#print axioms proved
end Go.Proofs.YtdcoelkflgpfgaaGreat.fnWires
namespace Go.Proofs.YtdcoelkflgpfgaaGreat
theorem fnWires_holds:Rows.FnWiresSaid:=fnWires.proved
end Go.Proofs.YtdcoelkflgpfgaaGreat