/- The law FnTicks holds for every input, as its row says; under no condition. -/
import Derived.Test.YtnbfbkdnjeioiaaGreatCFnTicksK2
import Derived.Test.YtnbfbkdnjeioiaaGreatCFnTicksP2
import Derived.Test.YtnbfbkdnjeioiaaGreatRows
import Derived.WalkKit
import Derived.ProofKit
import Derived.OpenShut
import Derived.ShutString
import Derived.ChangeOld
import Derived.Below
import Derived.SizedLaws
set_option maxRecDepth 100000
set_option linter.unusedVariables false
set_option linter.unusedSimpArgs false
namespace Go.Proofs.YtnbfbkdnjeioiaaGreat.fnTicks
open Go.Tm Go.RowKit Go.ChangeShapes Go.WideShapes Go.ChangeAt Go.ChangeMaps
theorem own:ownKnob Tryz.prog.godebug=none:=by kernel_rfl
theorem laidOut:laidOutB Tryz.prog=true:=by kernel_rfl
theorem law (x:(List Int)×Unit) (h:(wSl (wInt .u8)) x.1∧True):laws_FnTicks 1099511627776 x.1=some true:=Pu.FnTicks_law x.1 h
theorem lifted (os:Os) (started:os.Started) (H:Type) (enc:TypeId×Value→H) :
    ReturnsInHanded {} Tryz.checked os 4 .any (Rows.fnTicksSpec.pre6 enc Tryz.prog Tryz.f4 Rows.fnTicksRow.domain false) (Rows.fnTicksSpec.post enc Tryz.prog Tryz.f4 false true false false):=by
  refine returnsInHanded_of_change_sized (C:=Tryz.checked) own started (by kernel_rfl) Tryz.func4
    (ChangeSpec.witness6 (enc:=enc) (C:=Tryz.checked) false ⟨#[],#[.slice none 0 0],[]⟩ 8 (by kernel_rfl) (by kernel_rfl) (by kernel_rfl) (by kernel_rfl)) ?_
  intro W base args ds gs before hval0 hW hcnd hsz0 _
  have hval:∀ (j:Nat) t v,Tryz.f4.params[j]?=some t→args[j]?=some v→Value.okWide Tryz.prog W .any base t v:=hval0
  have hW1:=hW
  obtain ⟨p,q,hA0,hV,rfl,hfz,hnd⟩:=hW
  have hA:DataW.TrodAll enc Tryz.prog W 0 (fun _=>true) true Tryz.f4.params.toList args.toList ds p:=hA0
  have hB:=hA
  rw [Tryz.params4] at hA hval
  obtain ⟨rfl,rfl⟩:=trodVars_none hV
  have hA2:=hA
  obtain ⟨v0,vs0,d0,ds0,p0,q0,ha0,rfl,hp0,h0,r0⟩:=trodAll_cons hA2
  obtain ⟨_,rfl,_⟩:=trodAll_nil r0
  refine (row_calls (RdAll.cons (RdV.one (RdTy.slice Tryz.underlying22 (by kernel_rfl) (RdTy.int (k:=.u8) Tryz.underlying5 (by kernel_rfl))) (by kernel_rfl)) RdAll.nil) laidOut (by kernel_rfl) (fun (x:(List Int)×Unit) h=>laws_FnTicks_ok (law x h)) enc W base args _ p hA (fun j t v h1 h2=>hval j t v (by simpa using h1) h2) (.none (by kernel_rfl))).mono fun e W2 hh=>?_
  obtain ⟨he,bel,hT⟩:=hh
  subst he
  exact ⟨_,rfl,_,_,_,[],_,[],hW1,trodAll_mk1 (shut_bool Tryz.underlying4 _),hT,rfl,bel.frame _,fun h=>by cases h⟩
theorem cl1:runB Tryz.prog 1372 [4] [] 0=([],List.reverse [4,8,31,108,182,75,235,238,82,161,77,303,157,80,159,118,240,93,278,180,258,315,259,256,292,260,286,81,160,241,308,309,339,178,257,314,341,352,353,354,310,170,216,179,304,104,174,198,305,337,351,275,94,152,78,236,293,237,306,122,338,156,119,197,124,202,276,324,344,323,325,277,203,121,200,169,249,177,250,206,279,280,204,171,251,205,32,109,183,262,184,106,185,110,186,111,112,89,83,90,187,264,263,316,113,188,265,301,336,84,162,242,335,243,245,311,340,247,317,342,318,168,248,164,319,343,320,266,321,189,175,252,105,312,176,253,313,254,255,163,244,192,267,269,190,166,246,268,191,115,194,193,139,116,140,214,215,195,114,117,196,234,302,270,322,271,272,273,33,34,35,72,36,38,120,199,123,92,201,274,127,209,208,128,142,126,125,207,281,100,282,283,326,284,285,37,16,86,165,87,95,88,20,70,39,40,41,42,43,44,45,129,46,130,47,48],68876560592834717834000629117510398546587917426750489581558440079524360638960379683066409737618309021499664):=by kernel_rfl
theorem cl2:Nat.ble 1372 (fuelC Tryz.prog)=true:=by kernel_rfl
theorem cl:Tryz.prog.closure 4=[4,8,31,108,182,75,235,238,82,161,77,303,157,80,159,118,240,93,278,180,258,315,259,256,292,260,286,81,160,241,308,309,339,178,257,314,341,352,353,354,310,170,216,179,304,104,174,198,305,337,351,275,94,152,78,236,293,237,306,122,338,156,119,197,124,202,276,324,344,323,325,277,203,121,200,169,249,177,250,206,279,280,204,171,251,205,32,109,183,262,184,106,185,110,186,111,112,89,83,90,187,264,263,316,113,188,265,301,336,84,162,242,335,243,245,311,340,247,317,342,318,168,248,164,319,343,320,266,321,189,175,252,105,312,176,253,313,254,255,163,244,192,267,269,190,166,246,268,191,115,194,193,139,116,140,214,215,195,114,117,196,234,302,270,322,271,272,273,33,34,35,72,36,38,120,199,123,92,201,274,127,209,208,128,142,126,125,207,281,100,282,283,326,284,285,37,16,86,165,87,95,88,20,70,39,40,41,42,43,44,45,129,46,130,47,48]:=closure_of cl1 cl2
theorem clI:Tryz.prog.inPlace 4=[]:=inPlace_of cl (by kernel_rfl)
theorem clU:Tryz.prog.unfollowed 4=true:=unfollowed_of cl (by kernel_rfl)
theorem clR:Tryz.prog.recurses 4=true:=recurses_of clU
theorem clV:Tryz.prog.varsNamed 4=[]:=varsNamed_of cl (by kernel_rfl)
theorem closed:joinedFacts Tryz.prog 4 Tryz.f4 Rows.fnTicksSpec Rows.fnTicksRow=true:=by
  unfold joinedFacts
  rw [clI,clU,clR,clV]
  kernel_rfl
theorem over:Rows.fnTicksRow.holds Tryz.pinned (OpenSpec.ofChange Rows.fnTicksSpec) :=
  OpenClaim.holds_of_wide 4 Tryz.f4 rfl rfl rfl rfl rfl rfl rfl ⟨rfl,rfl,rfl,rfl,rfl⟩ rfl rfl rfl rfl rfl (by kernel_rfl) Tryz.func4 closed
    (of_decide_eq_true (by kernel_rfl)) (by unfold Func.isWrapper; first | (rw [if_pos (by decide +kernel)]; kernel_rfl) | (rw [if_neg (by decide +kernel)]; exact ⟨rfl,rfl⟩))
    (fun os started H enc _=>lifted os started H enc)
theorem proved:Rows.FnTicksSaid:=over
#print axioms proved
end Go.Proofs.YtnbfbkdnjeioiaaGreat.fnTicks
namespace Go.Proofs.YtnbfbkdnjeioiaaGreat
theorem fnTicks_holds:Rows.FnTicksSaid:=fnTicks.proved
end Go.Proofs.YtnbfbkdnjeioiaaGreat