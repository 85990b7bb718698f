/- The law FnTexts holds for every input, sr its row says; under no condition. -/
import Derived.Test.YtdcoelkflgpfgaaGreatDoorCFnTextsK3
import Derived.Test.YtdcoelkflgpfgaaGreatDoorCFnTextsP2
import Derived.Test.YtdcoelkflgpfgaaGreatDoorRows
import Derived.WalkKit
import Derived.ProofKit
import Derived.OpenShut
import Derived.ShutString
import Derived.ChangeOld
import Derived.Below
import Derived.SizedLaws
import Derived.Test.YtdcoelkflgpfgaaGreatDoorTie
import Derived.Test.YtdcoelkflgpfgaaGreatDoorCards
import Derived.Lay
import Derived.Stop.LaidErr
import Derived.LaidMore
import Derived.SevenTiedAt
import Derived.Lib.LaidTab
set_option maxRecDepth 100000
set_option linter.unusedVariables false
set_option linter.unusedSimpArgs false
open List renaming all_eq_true->aae
namespace Go.Proofs.YtdcoelkflgpfgaaGreatDoor.fnTexts
open Go.Tm Go.RowKit Go.ChangeShapes Go.WideShapes Go.ChangeAt Go.ChangeMaps
theorem own:ownKnob Tryz.prog.godebug=none:=by kernel_rfl
theorem Z0:laidOutB Tryz.prog=true:=by kernel_rfl
theorem law (x:(List Int)×Unit) (h:(M1 (kc .u8)) x.1∧True):q7 1099511627776 x.1=some true:=Pu.TX x.1 h
theorem tbw {W:Go.World} (h:laidMetH Tryz.prog [("math/bits.deBruijn32tab",Rows.laid_math_bits_deBruijn32tab),("math/bits.deBruijn64tab",Rows.laid_math_bits_deBruijn64tab),("internal/strconv.uint64pow10",Rows.laid_internal_strconv_uint64pow10)] W):PW Tryz.prog W fun _=>False:=by
  rw [MakeChecks.laidMetH_plain _ _ _ (by kernel_rfl)] at h
  have h3:laidMet Tryz.prog (("internal/strconv.uint64pow10",Rows.laid_internal_strconv_uint64pow10) :: []) W:=h.tail.tail
  have e:(Rows.laid_internal_strconv_uint64pow10:DataW Unit)=Lib.tabData .u64 Lib.pow10Tab:=by kernel_rfl
  rw [e] at h3
  exact fun k hk=>⟨Lib.tabIs_of_head (g:=1) (t:=198) (e:=129) (n:=20) (by kernel_rfl) (by kernel_rfl) Tryz.underlying198 Tryz.underlying129 (by kernel_rfl) (by kernel_rfl) h3,fun h=>h⟩
theorem lifted (os:Os) (started:os.Started) (H:Type) (enc:TypeId×Value→H) :
    ReturnsInHanded {} Tryz.checked os 3 .any (fun w args=>(Rows.fnTextsSpec.pre enc Tryz.prog Tryz.f3 [] false w args∧laidMetH Tryz.prog Rows.fnTextsRow.laid w)∧sizedMet enc Tryz.prog Tryz.f3 (OpenSpec.ofChange Rows.fnTextsSpec) false w args)
      (Rows.fnTextsSpec.post enc Tryz.prog Tryz.f3 false true false false):=by
  refine returnsInHanded_of_change_and (C:=Tryz.checked) (X:=fun w _=>laidMetH Tryz.prog Rows.fnTextsRow.laid w) (fun _ _ _ hh h=>h.of_heap hh) own started (by kernel_rfl) Tryz.func3
    (ChangeSpec.witness_shaped (enc:=enc) (C:=Tryz.checked) (os:=os) (X:=fun w _=>laidMetH Tryz.prog Rows.fnTextsRow.laid w) false (Go.World.laidAll Tryz.prog os Rows.fnTextsRow.laid) #[.slice none 0 0] 8 (Go.World.laidAll_os _ _ _)
      (Go.World.shaped_of_ZipB (by kernel_rfl) (by kernel_rfl)) (by kernel_rfl) (by kernel_rfl) (by kernel_rfl)
      (by rw [MakeChecks.laidMetH_plain _ _ _ (by kernel_rfl)]; exact laidMet_laidAll _ (by kernel_rfl) (by kernel_rfl))) ?_
  intro W base args ds gs before hval0 hW hcnd hsz0 hL _
  have htb:=tbw hL
  have hval:∀ (j:Nat) t v,Tryz.f3.params[j]?=some t→args[j]?=some v→Value.okWide Tryz.prog W .any base t v:=hval0
  have hW1:=hW
  obtain ⟨p,q,hA0,hV,rfl,hfz,hnd⟩:=hW
  have hA:DataW.TrodAll enc Tryz.prog W 0 (fun _=>true) true Tryz.f3.params.toList args.toList ds p:=hA0
  have hB:=hA
  rw [Tryz.params3] at hA hval
  obtain ⟨rfl,rfl⟩:=trodVars_none hV
  have hA2:=hA
  obtain ⟨v0,vs0,d0,ds0,p0,q0,ha0,rfl,hp0,h0,r0⟩:=trodAll_cons hA2
  obtain ⟨_,rfl,_⟩:=trodAll_nil r0
  refine (Wx (Kk.cons (RdV.one (SJ.slice Tryz.underlying22 (by kernel_rfl) (SJ.int (k:=.u8) Tryz.underlying5 (by kernel_rfl))) (by kernel_rfl)) Kk.nil) Z0 (by kernel_rfl) (fun (x:(List Int)×Unit) h=>LA (law x h)) enc W base args _ p hA (fun j t v h1 h2=>hval j t v (by simpa using h1) h2) htb).mono fun e W2 hh=>?_
  obtain ⟨he,bel,hT⟩:=hh
  subst he
  exact ⟨_,rfl,_,_,_,[],_,[],hW1,trodAll_mk1 (shut_bool Tryz.underlying4 _),hT,rfl,bel.frame _,fun h=>by cases h⟩
theorem cl1:QX Tryz.prog 1000 [3] [] 0=([],List.reverse [3,4,5,24,25,47,79,123,152,125,26,48,88,82,53,50,173,200,124,174,201,41,202,150,203,175,184,214,205,127,161,145,171,190,151,172,148,78,204,121,147,220,149,206,221,230,231,246,260,264,266,267,268,232,99,122,241,156,153,176,207,177,186,178,154,179,49,84,85,86,87,55,77,120,89,90,128,91,92,208,45,75,76,118,146,119,131,209,155,180,210,222,223,233,248,247,224,234,249,262,265,261,263,250,235,160,188,164,189,237,251,158,159,187,215,236,225,239,238,226,240,28,211,181,212,227,228,242,252,243,254,253,255,256,257,229,244,130,245,258,259,182,183,213,185,80,81,83,126,157,54,6,7,8,9,10,27,51,52,11,29,56,38,93,129,162,191,110,216,163,192,217,193,194,142,73,112,12,30,57,94,13,31,58,59,95,96,40,69,103,134,165,166,196,195,197,167,168,198,199,218,219,32,60,97,132,98,133,61,62,14,33,63,42,64,15,21,43,70,104,71,105,106,135,140,169,136,137,117,144,170,108,139,141,107,138,72,109,111,74,113,143,114,115,116,44,16,22,46,17,35,65,100,101,66,102,34,18,37,67,68,36,19,39,20,23],948568795032094272909893509191171341133987714380927500611236528192824358010355704):=by kernel_rfl
theorem cl2:Nat.ble 1000 (Qh Tryz.prog)=true:=by kernel_rfl
theorem cl:Tryz.prog.closure 3=[3,4,5,24,25,47,79,123,152,125,26,48,88,82,53,50,173,200,124,174,201,41,202,150,203,175,184,214,205,127,161,145,171,190,151,172,148,78,204,121,147,220,149,206,221,230,231,246,260,264,266,267,268,232,99,122,241,156,153,176,207,177,186,178,154,179,49,84,85,86,87,55,77,120,89,90,128,91,92,208,45,75,76,118,146,119,131,209,155,180,210,222,223,233,248,247,224,234,249,262,265,261,263,250,235,160,188,164,189,237,251,158,159,187,215,236,225,239,238,226,240,28,211,181,212,227,228,242,252,243,254,253,255,256,257,229,244,130,245,258,259,182,183,213,185,80,81,83,126,157,54,6,7,8,9,10,27,51,52,11,29,56,38,93,129,162,191,110,216,163,192,217,193,194,142,73,112,12,30,57,94,13,31,58,59,95,96,40,69,103,134,165,166,196,195,197,167,168,198,199,218,219,32,60,97,132,98,133,61,62,14,33,63,42,64,15,21,43,70,104,71,105,106,135,140,169,136,137,117,144,170,108,139,141,107,138,72,109,111,74,113,143,114,115,116,44,16,22,46,17,35,65,100,101,66,102,34,18,37,67,68,36,19,39,20,23]:=Ur cl1 cl2
theorem clI:Tryz.prog.inPlace 3=["internal/abi.NoEscape", "internal/bytealg.MakeNoZero"]:=Us cl (by kernel_rfl)
theorem clU:Tryz.prog.unfollowed 3=true:=Pe cl (by kernel_rfl)
theorem clR:Tryz.prog.recurses 3=true:=SS clU
theorem clV:Tryz.prog.varsNamed 3=["internal/strconv.uint64pow10", "math/bits.deBruijn32tab", "math/bits.deBruijn64tab"]:=QY cl (by kernel_rfl)
theorem closed:joinedFacts Tryz.prog 3 Tryz.f3 Rows.fnTextsSpec Rows.fnTextsRow=true:=by
  unfold joinedFacts
  rw [clI,clU,clR,clV]
  kernel_rfl
theorem over:Rows.fnTextsRow.holds Tryz.pinned (OpenSpec.ofChange Rows.fnTextsSpec) :=
  OpenClaim.holds_of_wide 3 Tryz.f3 rfl rfl rfl rfl rfl rfl rfl ⟨rfl,rfl,rfl,rfl,rfl⟩ rfl rfl rfl rfl rfl (by kernel_rfl) Tryz.func3 closed
    (of_decide_eq_true (by kernel_rfl)) (by unfold Func.isWrapper; first | (rw [if_pos (by decide +kernel)]; kernel_rfl) | (rw [if_neg (by decide +kernel)]; exact ⟨rfl,rfl⟩))
    (fun os started H enc _=>lifted os started H enc)
theorem card:Rows.FnTextsCardSaid :=
  Claim7.holds_tied_plain_at .later [] [.data,.data,.data] true (true, "a8371fc6b5f74e3b63b6fa8f9b03b77ab0d33fd1a27d79169510d6bdb923d45d") false over (fun _ h=>by cases h) (by kernel_rfl) (fun _ h=>by cases h) fnTexts_row_tie rfl ⟨rfl,rfl⟩ (by kernel_rfl) rfl
    (fun f fn hf hfn=>by
      obtain rfl:f=3:=Option.some.inj ((show Tryz.prog.funcNamed "loop.example/g00503/laws.FnTexts" = some 3 by kernel_rfl).symm.trans hf) |>.symm
      obtain rfl:fn=Tryz.f3:=(Option.some.inj (Tryz.func3.symm.trans hfn)).symm
      exact ⟨by kernel_rfl,fun j t ht=>by
        rw [Tryz.params3] at ht
        have hm:t∈[22]:=by simpa using Array.mem_of_getElem? ht
        have hall:([22].all fun u=>!Tryz.prog.wantsStandIn u)=true:=by kernel_rfl
        exact (show Tryz.prog.wantsStandIn t=false by simpa using aae.1 hall t hm)⟩)
    (by kernel_rfl)
#print axioms card
end Go.Proofs.YtdcoelkflgpfgaaGreatDoor.fnTexts
namespace Go.Proofs.YtdcoelkflgpfgaaGreatDoor
theorem fnTexts_holds:Rows.FnTextsCardSaid:=fnTexts.card
end Go.Proofs.YtdcoelkflgpfgaaGreatDoor