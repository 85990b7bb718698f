/- The law FnSameImage holds for every input, ln its row says; under no condition. -/
import Derived.Test.YtkomlmhelfnajaaGreatCFnSameImageK3
import Derived.Test.YtkomlmhelfnajaaGreatCFnSameImageP2
import Derived.Test.YtkomlmhelfnajaaGreatRows
import Derived.WalkKit
import Derived.ProofKit
import Derived.OpenShut
import Derived.ShutString
import Derived.ChangeOld
import Derived.Below
import Derived.SizedLaws
set_option maxRecDepth 100000
set_option linter.unusedVariables false
set_option linter.unusedSimpArgs false
namespace Go.Proofs.YtkomlmhelfnajaaGreat.fnSameImage
open Go.Tm Go.RowKit Go.ChangeShapes Go.WideShapes Go.ChangeAt Go.ChangeMaps
theorem own:ownKnob Tryz.prog.godebug=none:=by kernel_rfl
theorem ZF:laidOutB Tryz.prog=true:=by kernel_rfl
theorem law (x:(List Int)×Unit) (h:(MY (lh .u8)) x.1∧True):mX 1099511627776 x.1=some true:=Pu.Mf x.1 h
theorem lifted (os:Os) (started:os.Started) (H:Type) (enc:TypeId×Value→H) :
    ReturnsInHanded {} Tryz.checked os 3 .any (Rows.fnSameImageSpec.pre6 enc Tryz.prog Tryz.f3 Rows.fnSameImageRow.domain false) (Rows.fnSameImageSpec.post enc Tryz.prog Tryz.f3 false true false false):=by
  refine returnsInHanded_of_change_sized (C:=Tryz.checked) own started (by kernel_rfl) Tryz.func3
    (ChangeSpec.witness6 (enc:=enc) (C:=Tryz.checked) false ⟨#[],#[.slice none 0 0],[]⟩ 8 (by kernel_rfl) (by kernel_rfl) (by kernel_rfl) (by kernel_rfl)) ?_
  intro W base args ds gs before hval0 hW hcnd hsz0 _
  have hval:∀ (j:Nat) t v,Tryz.f3.params[j]?=some t→args[j]?=some v→Value.okWide Tryz.prog W .any base t v:=hval0
  have hW1:=hW
  obtain ⟨p,q,hA0,hV,rfl,hfz,hnd⟩:=hW
  have hA:DataW.TrodAll enc Tryz.prog W 0 (fun _=>true) true Tryz.f3.params.toList args.toList ds p:=hA0
  have hB:=hA
  rw [Tryz.params3] at hA hval
  obtain ⟨rfl,rfl⟩:=trodVars_none hV
  have hA2:=hA
  obtain ⟨v0,vs0,d0,ds0,p0,q0,ha0,rfl,hp0,h0,r0⟩:=trodAll_cons hA2
  obtain ⟨_,rfl,_⟩:=trodAll_nil r0
  refine (V9 (Ko.cons (RdV.one (Sg.slice Tryz.underlying22 (by kernel_rfl) (Sg.int (k:=.u8) Tryz.underlying5 (by kernel_rfl))) (by kernel_rfl)) Ko.nil) ZF (by kernel_rfl) (fun (x:(List Int)×Unit) h=>Fk (law x h)) enc W base args _ p hA (fun j t v h1 h2=>hval j t v (by simpa using h1) h2) (.none (by kernel_rfl))).mono fun e W2 hh=>?_
  obtain ⟨he,bel,hT⟩:=hh
  subst he
  exact ⟨_,rfl,_,_,_,[],_,[],hW1,trodAll_mk1 (shut_bool Tryz.underlying4 _),hT,rfl,bel.frame _,fun h=>by cases h⟩
theorem cl1:Qx Tryz.prog 1360 [3] [] 0=([],List.reverse [3,5,6,16,17,70,18,75,144,71,145,150,72,146,74,73,112,47,113,114,115,108,147,228,116,181,241,291,334,297,247,299,249,300,148,229,292,230,190,178,231,293,294,335,366,400,405,406,407,295,248,244,308,149,8,21,59,22,23,24,78,151,79,25,80,81,27,86,77,76,161,154,235,88,162,155,232,296,26,82,152,153,83,156,84,157,85,158,159,233,160,234,28,87,29,89,90,163,91,92,164,165,93,166,7,20,19,58,102,129,202,269,203,270,36,100,204,271,236,316,349,167,237,317,350,318,272,319,205,273,207,206,274,130,208,275,209,210,276,211,212,131,132,134,214,215,282,213,277,278,279,280,281,320,351,321,133,135,216,61,136,217,218,283,322,323,324,352,353,378,379,354,326,356,355,94,327,95,168,169,357,325,328,358,361,388,380,401,381,382,383,284,329,359,384,360,385,386,387,219,220,286,285,330,362,389,402,390,391,403,404,408,409,363,393,392,394,395,396,331,364,397,365,398,399,221,222,287,332,137,9,30,31,96,34,98,99,171,172,170,97,32,35,33,10,37,101,173,238],2644223874545638661292965723004971956924197943969294244083512640597847562437735919698086873323063503161215112528418995898344):=by kernel_rfl
theorem cl2:Nat.ble 1360 (PJ Tryz.prog)=true:=by kernel_rfl
theorem cl:Tryz.prog.closure 3=[3,5,6,16,17,70,18,75,144,71,145,150,72,146,74,73,112,47,113,114,115,108,147,228,116,181,241,291,334,297,247,299,249,300,148,229,292,230,190,178,231,293,294,335,366,400,405,406,407,295,248,244,308,149,8,21,59,22,23,24,78,151,79,25,80,81,27,86,77,76,161,154,235,88,162,155,232,296,26,82,152,153,83,156,84,157,85,158,159,233,160,234,28,87,29,89,90,163,91,92,164,165,93,166,7,20,19,58,102,129,202,269,203,270,36,100,204,271,236,316,349,167,237,317,350,318,272,319,205,273,207,206,274,130,208,275,209,210,276,211,212,131,132,134,214,215,282,213,277,278,279,280,281,320,351,321,133,135,216,61,136,217,218,283,322,323,324,352,353,378,379,354,326,356,355,94,327,95,168,169,357,325,328,358,361,388,380,401,381,382,383,284,329,359,384,360,385,386,387,219,220,286,285,330,362,389,402,390,391,403,404,408,409,363,393,392,394,395,396,331,364,397,365,398,399,221,222,287,332,137,9,30,31,96,34,98,99,171,172,170,97,32,35,33,10,37,101,173,238]:=T9 cl1 cl2
theorem clI:Tryz.prog.inPlace 3=["slices.overlaps[loop.example/g00503/impl.Kid]"]:=Ua cl (by kernel_rfl)
theorem clU:Tryz.prog.unfollowed 3=true:=OH cl (by kernel_rfl)
theorem clR:Tryz.prog.recurses 3=true:=So clU
theorem clV:Tryz.prog.varsNamed 3=[]:=Qy cl (by kernel_rfl)
theorem closed:joinedFacts Tryz.prog 3 Tryz.f3 Rows.fnSameImageSpec Rows.fnSameImageRow=true:=by
  unfold joinedFacts
  rw [clI,clU,clR,clV]
  kernel_rfl
theorem over:Rows.fnSameImageRow.holds Tryz.pinned (OpenSpec.ofChange Rows.fnSameImageSpec) :=
  OpenClaim.holds_of_wide 3 Tryz.f3 rfl rfl rfl rfl rfl rfl rfl ⟨rfl,rfl,rfl,rfl,rfl⟩ rfl rfl rfl rfl rfl (by kernel_rfl) Tryz.func3 closed
    (of_decide_eq_true (by kernel_rfl)) (by unfold Func.isWrapper; first | (rw [if_pos (by decide +kernel)]; kernel_rfl) | (rw [if_neg (by decide +kernel)]; exact ⟨rfl,rfl⟩))
    (fun os started H enc _=>lifted os started H enc)
theorem proved:Rows.FnSameImageSaid:=over
#print axioms proved
end Go.Proofs.YtkomlmhelfnajaaGreat.fnSameImage
namespace Go.Proofs.YtkomlmhelfnajaaGreat
theorem fnSameImage_holds:Rows.FnSameImageSaid:=fnSameImage.proved
end Go.Proofs.YtkomlmhelfnajaaGreat