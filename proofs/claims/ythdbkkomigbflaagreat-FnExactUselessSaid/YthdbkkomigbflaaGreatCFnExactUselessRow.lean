/- The law FnExactUseless holds for every input, as its row says; under no condition. -/
import Derived.Test.YthdbkkomigbflaaGreatCFnExactUselessK3
import Derived.Test.YthdbkkomigbflaaGreatCFnExactUselessP2
import Derived.Test.YthdbkkomigbflaaGreatRows
import Derived.WalkKit
import Derived.ProofKit
import Derived.OpenShut
import Derived.ShutString
import Derived.ChangeOld
import Derived.Below
import Derived.SizedLaws
set_option maxRecDepth 100000
set_option linter.unusedVariables false
set_option linter.unusedSimpArgs false
namespace Go.Proofs.YthdbkkomigbflaaGreat.fnExactUseless
open Go.Tm Go.RowKit Go.ChangeShapes Go.WideShapes Go.ChangeAt Go.ChangeMaps
theorem qaL:cX Tryz.prog 23 4 Tm.vm.wf Tm.pG:=cX.map (cX.struct Tryz.underlying23 (by kernel_rfl) (fe.cons (n:=1) (m:=3) rfl (cX.int (k:=.i64) Tryz.underlying3 (by kernel_rfl)) (fe.cons (n:=1) (m:=2) rfl (cX.int (k:=.i64) Tryz.underlying3 (by kernel_rfl)) (fe.cons (n:=1) (m:=1) rfl (cX.int (k:=.i64) Tryz.underlying3 (by kernel_rfl)) (fe.cons (n:=1) (m:=0) rfl (cX.int (k:=.i64) Tryz.underlying3 (by kernel_rfl)) fe.nil))))) (fun (x:Int×Int×Int×Int×Unit)=>⟨x.1,x.2.1,x.2.2.1,x.2.2.2.1⟩) (fun _=>rfl) (fun _=>rfl) (fun _ h=>h)
theorem qaM:cX Tryz.prog 26 1 Tm.co.wf Tm.hH:=cX.map (cX.struct Tryz.underlying26 (by kernel_rfl) (fe.cons (n:=1) (m:=0) rfl (cX.slice Tryz.underlying24 (by kernel_rfl) (cX.int (k:=.i64) Tryz.underlying3 (by kernel_rfl))) fe.nil)) (fun (x:(List Int)×Unit)=>⟨x.1⟩) (fun _=>rfl) (fun _=>rfl) (fun _ h=>h)
theorem qaN:cX Tryz.prog 80 1 Tm.ba.wf Tm.bd:=cX.map (cX.struct Tryz.underlying80 (by kernel_rfl) (fe.cons (n:=1) (m:=0) rfl (cX.slice Tryz.underlying27 (by kernel_rfl) (cX.int (k:=.u8) Tryz.underlying5 (by kernel_rfl))) fe.nil)) (fun (x:(List Int)×Unit)=>⟨x.1⟩) (fun _=>rfl) (fun _=>rfl) (fun _ h=>h)
theorem qao:cX Tryz.prog 238 2 Tm.bN.wf Tm.aH:=cX.map (cX.struct Tryz.underlying238 (by kernel_rfl) (fe.cons (n:=1) (m:=1) rfl (cX.int (k:=.i64) Tryz.underlying3 (by kernel_rfl)) (fe.cons (n:=1) (m:=0) rfl (cX.int (k:=.i64) Tryz.underlying3 (by kernel_rfl)) fe.nil))) (fun (x:Int×Int×Unit)=>⟨x.1,x.2.1⟩) (fun _=>rfl) (fun _=>rfl) (fun _ h=>h)
theorem qaO:cX Tryz.prog 84 4 Tm.af.wf Tm.ai:=cX.map (cX.struct Tryz.underlying84 (by kernel_rfl) (fe.cons (n:=1) (m:=3) rfl (cX.int (k:=.i64) Tryz.underlying3 (by kernel_rfl)) (fe.cons (n:=1) (m:=2) rfl (cX.int (k:=.i64) Tryz.underlying3 (by kernel_rfl)) (fe.cons (n:=1) (m:=1) rfl (cX.int (k:=.i64) Tryz.underlying3 (by kernel_rfl)) (fe.cons (n:=1) (m:=0) rfl (cX.slice Tryz.underlying82 (by kernel_rfl) qao) fe.nil))))) (fun (x:Int×Int×Int×(List Tm.bN)×Unit)=>⟨x.1,x.2.1,x.2.2.1,x.2.2.2.1⟩) (fun _=>rfl) (fun _=>rfl) (fun _ h=>h)
theorem qaP:cX Tryz.prog 86 2 Tm.aX.wf Tm.cJ:=cX.map (cX.struct Tryz.underlying86 (by kernel_rfl) (fe.cons (n:=1) (m:=1) rfl (cX.int (k:=.i64) Tryz.underlying3 (by kernel_rfl)) (fe.cons (n:=1) (m:=0) rfl (cX.slice Tryz.underlying27 (by kernel_rfl) (cX.int (k:=.u8) Tryz.underlying5 (by kernel_rfl))) fe.nil))) (fun (x:Int×(List Int)×Unit)=>⟨x.1,x.2.1⟩) (fun _=>rfl) (fun _=>rfl) (fun _ h=>h)
theorem qap:cX Tryz.prog 210 5 Tm.Kid.wf Tm.am:=cX.map (cX.struct Tryz.underlying210 (by kernel_rfl) (fe.cons (n:=1) (m:=4) rfl (cX.int (k:=.i64) Tryz.underlying3 (by kernel_rfl)) (fe.cons (n:=1) (m:=3) rfl (cX.int (k:=.i64) Tryz.underlying3 (by kernel_rfl)) (fe.cons (n:=1) (m:=2) rfl (cX.int (k:=.i64) Tryz.underlying3 (by kernel_rfl)) (fe.cons (n:=1) (m:=1) rfl (cX.int (k:=.i64) Tryz.underlying3 (by kernel_rfl)) (fe.cons (n:=1) (m:=0) rfl (cX.int (k:=.i64) Tryz.underlying3 (by kernel_rfl)) fe.nil)))))) (fun (x:Int×Int×Int×Int×Int×Unit)=>⟨x.1,x.2.1,x.2.2.1,x.2.2.2.1,x.2.2.2.2.1⟩) (fun _=>rfl) (fun _=>rfl) (fun _ h=>h)
theorem qaQ:cX Tryz.prog 89 12 Tm.aA.wf Tm.ay:=cX.map (cX.struct Tryz.underlying89 (by kernel_rfl) (fe.cons (n:=1) (m:=11) rfl (cX.bool Tryz.underlying4 (by kernel_rfl)) (fe.cons (n:=1) (m:=10) rfl (cX.int (k:=.i64) Tryz.underlying3 (by kernel_rfl)) (fe.cons (n:=1) (m:=9) rfl (cX.int (k:=.i64) Tryz.underlying3 (by kernel_rfl)) (fe.cons (n:=4) (m:=5) rfl qaO (fe.cons (n:=2) (m:=3) rfl qaP (fe.cons (n:=1) (m:=2) rfl (cX.int (k:=.i64) Tryz.underlying3 (by kernel_rfl)) (fe.cons (n:=1) (m:=1) rfl (cX.slice Tryz.underlying87 (by kernel_rfl) qap) (fe.cons (n:=1) (m:=0) rfl (cX.int (k:=.i64) Tryz.underlying3 (by kernel_rfl)) fe.nil))))))))) (fun (x:Bool×Int×Int×Tm.af×Tm.aX×Int×(List Tm.Kid)×Int×Unit)=>⟨x.1,x.2.1,x.2.2.1,x.2.2.2.1,x.2.2.2.2.1,x.2.2.2.2.2.1,x.2.2.2.2.2.2.1,x.2.2.2.2.2.2.2.1⟩) (fun _=>rfl) (fun _=>rfl) (fun _ h=>h)
theorem qaq:cX Tryz.prog 92 3 Tm.c7.wf Tm.fk:=cX.map (cX.struct Tryz.underlying92 (by kernel_rfl) (fe.cons (n:=1) (m:=2) rfl (cX.int (k:=.i64) Tryz.underlying3 (by kernel_rfl)) (fe.cons (n:=1) (m:=1) rfl (cX.int (k:=.i64) Tryz.underlying3 (by kernel_rfl)) (fe.cons (n:=1) (m:=0) rfl (cX.int (k:=.i64) Tryz.underlying3 (by kernel_rfl)) fe.nil)))) (fun (x:Int×Int×Int×Unit)=>⟨x.1,x.2.1,x.2.2.1⟩) (fun _=>rfl) (fun _=>rfl) (fun _ h=>h)
theorem qar:cX Tryz.prog 187 6 Tm.ca.wf Tm.aU:=cX.map (cX.struct Tryz.underlying187 (by kernel_rfl) (fe.cons (n:=1) (m:=5) rfl (cX.int (k:=.i64) Tryz.underlying3 (by kernel_rfl)) (fe.cons (n:=1) (m:=4) rfl (cX.int (k:=.i64) Tryz.underlying3 (by kernel_rfl)) (fe.cons (n:=1) (m:=3) rfl (cX.slice Tryz.underlying27 (by kernel_rfl) (cX.int (k:=.u8) Tryz.underlying5 (by kernel_rfl))) (fe.cons (n:=3) (m:=0) rfl qaq fe.nil))))) (fun (x:Int×Int×(List Int)×Tm.c7×Unit)=>⟨x.1,x.2.1,x.2.2.1,x.2.2.2.1⟩) (fun _=>rfl) (fun _=>rfl) (fun _ h=>h)
theorem qaR:cX Tryz.prog 95 6 Tm.aG.wf Tm.aB:=cX.map (cX.struct Tryz.underlying95 (by kernel_rfl) (fe.cons (n:=1) (m:=5) rfl (cX.slice Tryz.underlying27 (by kernel_rfl) (cX.int (k:=.u8) Tryz.underlying5 (by kernel_rfl))) (fe.cons (n:=1) (m:=4) rfl (cX.slice Tryz.underlying27 (by kernel_rfl) (cX.int (k:=.u8) Tryz.underlying5 (by kernel_rfl))) (fe.cons (n:=3) (m:=1) rfl qaq (fe.cons (n:=1) (m:=0) rfl (cX.slice Tryz.underlying93 (by kernel_rfl) qar) fe.nil))))) (fun (x:(List Int)×(List Int)×Tm.c7×(List Tm.ca)×Unit)=>⟨x.1,x.2.1,x.2.2.1,x.2.2.2.1⟩) (fun _=>rfl) (fun _=>rfl) (fun _ h=>h)
theorem qaS:cX Tryz.prog 98 3 Tm.au.wf Tm.aI:=cX.map (cX.struct Tryz.underlying98 (by kernel_rfl) (fe.cons (n:=1) (m:=2) rfl (cX.int (k:=.i64) Tryz.underlying3 (by kernel_rfl)) (fe.cons (n:=1) (m:=1) rfl (cX.int (k:=.i64) Tryz.underlying3 (by kernel_rfl)) (fe.cons (n:=1) (m:=0) rfl (cX.slice Tryz.underlying27 (by kernel_rfl) (cX.int (k:=.u8) Tryz.underlying5 (by kernel_rfl))) fe.nil)))) (fun (x:Int×Int×(List Int)×Unit)=>⟨x.1,x.2.1,x.2.2.1⟩) (fun _=>rfl) (fun _=>rfl) (fun _ h=>h)
theorem qas:cX Tryz.prog 129 3 Tm.dC.wf Tm.cp:=cX.map (cX.struct Tryz.underlying129 (by kernel_rfl) (fe.cons (n:=1) (m:=2) rfl (cX.int (k:=.i64) Tryz.underlying3 (by kernel_rfl)) (fe.cons (n:=1) (m:=1) rfl (cX.int (k:=.i64) Tryz.underlying3 (by kernel_rfl)) (fe.cons (n:=1) (m:=0) rfl (cX.int (k:=.i64) Tryz.underlying3 (by kernel_rfl)) fe.nil)))) (fun (x:Int×Int×Int×Unit)=>⟨x.1,x.2.1,x.2.2.1⟩) (fun _=>rfl) (fun _=>rfl) (fun _ h=>h)
theorem qaT:cX Tryz.prog 34 12 Tm.World.wf Tm.bw:=cX.map (cX.struct Tryz.underlying34 (by kernel_rfl) (fe.cons (n:=4) (m:=8) rfl qaL (fe.cons (n:=1) (m:=7) rfl qaM (fe.cons (n:=1) (m:=6) rfl (cX.slice Tryz.underlying27 (by kernel_rfl) (cX.int (k:=.u8) Tryz.underlying5 (by kernel_rfl))) (fe.cons (n:=1) (m:=5) rfl (cX.slice Tryz.underlying28 (by kernel_rfl) qaN) (fe.cons (n:=1) (m:=4) rfl (cX.slice Tryz.underlying29 (by kernel_rfl) qaQ) (fe.cons (n:=1) (m:=3) rfl (cX.slice Tryz.underlying30 (by kernel_rfl) qaR) (fe.cons (n:=1) (m:=2) rfl (cX.slice Tryz.underlying31 (by kernel_rfl) qaS) (fe.cons (n:=1) (m:=1) rfl (cX.slice Tryz.underlying32 (by kernel_rfl) qas) (fe.cons (n:=1) (m:=0) rfl (cX.int (k:=.i64) Tryz.underlying3 (by kernel_rfl)) fe.nil)))))))))) (fun (x:Tm.vm×Tm.co×(List Int)×(List Tm.ba)×(List Tm.aA)×(List Tm.aG)×(List Tm.au)×(List Tm.dC)×Int×Unit)=>⟨x.1,x.2.1,x.2.2.1,x.2.2.2.1,x.2.2.2.2.1,x.2.2.2.2.2.1,x.2.2.2.2.2.2.1,x.2.2.2.2.2.2.2.1,x.2.2.2.2.2.2.2.2.1⟩) (fun _=>rfl) (fun _=>rfl) (fun _ h=>h)
theorem own:ownKnob Tryz.prog.godebug=none:=by kernel_rfl
theorem Zn:laidOutB Tryz.prog=true:=by kernel_rfl
theorem law (x:Tm.World×Unit) (h:Tm.World.wf x.1∧True):lw 1099511627776 x.1=some true:=Pu.Vh x.1 h
theorem lifted (os:Os) (started:os.Started) (H:Type) (enc:TypeId×Value→H) :
    ReturnsInHanded {} Tryz.checked os 4 .any (Rows.fnExactUselessSpec.pre6 enc Tryz.prog Tryz.f4 Rows.fnExactUselessRow.domain false) (Rows.fnExactUselessSpec.post enc Tryz.prog Tryz.f4 false true false false):=by
  refine returnsInHanded_of_change_sized (C:=Tryz.checked) own started (by kernel_rfl) Tryz.func4
    (ChangeSpec.witness6 (enc:=enc) (C:=Tryz.checked) false ⟨#[],#[.agg #[.int .i64 0,.int .i64 0,.int .i64 0,.int .i64 0,.slice none 0 0,.slice none 0 0,.slice none 0 0,.slice none 0 0,.slice none 0 0,.slice none 0 0,.slice none 0 0,.int .i64 0]],[]⟩ 8 (by kernel_rfl) (by kernel_rfl) (by kernel_rfl) (by kernel_rfl)) ?_
  intro W base args ds gs before hval0 hW hcnd hsz0 _
  have hval:∀ (j:Nat) t v,Tryz.f4.params[j]?=some t→args[j]?=some v→Value.okWide Tryz.prog W .any base t v:=hval0
  have hW1:=hW
  obtain ⟨p,q,hA0,hV,rfl,hfz,hnd⟩:=hW
  have hA:DataW.TrodAll enc Tryz.prog W 0 (fun _=>true) true Tryz.f4.params.toList args.toList ds p:=hA0
  have hB:=hA
  rw [Tryz.params4] at hA hval
  obtain ⟨rfl,rfl⟩:=trodVars_none hV
  have hA2:=hA
  obtain ⟨v0,vs0,d0,ds0,p0,q0,ha0,rfl,hp0,h0,r0⟩:=trodAll_cons hA2
  obtain ⟨_,rfl,_⟩:=trodAll_nil r0
  refine (Xr (My.cons (RdV.agg qaT Tryz.underlying34) My.nil) Zn (by kernel_rfl) (fun (x:Tm.World×Unit) h=>D1 (law x h)) enc W base args _ p hA (fun j t v h1 h2=>hval j t v (by simpa using h1) h2) (.none (by kernel_rfl))).mono fun e W2 hh=>?_
  obtain ⟨he,bel,hT⟩:=hh
  subst he
  exact ⟨_,rfl,_,_,_,[],_,[],hW1,trodAll_mk1 (shut_bool Tryz.underlying4 _),hT,rfl,bel.frame _,fun h=>by cases h⟩
theorem cl1:TD Tryz.prog 1025 [4] [] 0=([],List.reverse [4,5,12,41,13,14,42,15,43,82,132,83,84,16,44,85,133,17,45,18,7,22,23,56,24,25,57,26,58,101,156,206,102,103,157,27,59,104,105,158,28,60,29,61,10,19,46,20,47,48,49,50,86,134,188,233,189,141,192,143,193,51,87,53,95,88,136,135,89,137,90,138,190,140,191,139,142,144,91,145,52,92,93,94,54,96,146,147,97,98,148,149,194,234,195,235,150,21,55,99,151,196,197,152,198,199,236,283,237,200,153,154,201,238,202,239,284,285,302,286,287,203,241,240,242,243,244,245,155,204,246,288,289,303,307,309,310,311,312,290,291,247,205,248,249,100,11,31,62,30,63,64,65,106,159,107,66,108,160,207,250,208,251,252,178,209,253,292,304,67,72,109,161,162,110,164,163,210,111,165,211,254,168,212,255,213,214,256,215,257,216,166,217,112,167,114,113,169,68,115,170,171,116,117,172,118,119,69,120,70,73,122,123,179,121,173,174,175,176,177,218,258,293,259,219,71,74,124,32,75,125,180,220,260,221,222,181,223,261,224,262,263,264,225,265,226,266,294,267,268,269,182,227,270,295,271,272,296,297,305,308,228,274,273,275,276,277,229,278,183,230,279,298,299,306,300,280,301,231,281,282,126,184,9,33,34,76,35,36,77,37,78,127,185,232,128,129,186,38,79,130,131,187,39,80,40,81],16687398718132110018711107079449625895333629080911349765211262561111091607661254297054391303856):=by kernel_rfl
theorem cl2:Nat.ble 1025 (Te Tryz.prog)=true:=by kernel_rfl
theorem cl:Tryz.prog.closure 4=[4,5,12,41,13,14,42,15,43,82,132,83,84,16,44,85,133,17,45,18,7,22,23,56,24,25,57,26,58,101,156,206,102,103,157,27,59,104,105,158,28,60,29,61,10,19,46,20,47,48,49,50,86,134,188,233,189,141,192,143,193,51,87,53,95,88,136,135,89,137,90,138,190,140,191,139,142,144,91,145,52,92,93,94,54,96,146,147,97,98,148,149,194,234,195,235,150,21,55,99,151,196,197,152,198,199,236,283,237,200,153,154,201,238,202,239,284,285,302,286,287,203,241,240,242,243,244,245,155,204,246,288,289,303,307,309,310,311,312,290,291,247,205,248,249,100,11,31,62,30,63,64,65,106,159,107,66,108,160,207,250,208,251,252,178,209,253,292,304,67,72,109,161,162,110,164,163,210,111,165,211,254,168,212,255,213,214,256,215,257,216,166,217,112,167,114,113,169,68,115,170,171,116,117,172,118,119,69,120,70,73,122,123,179,121,173,174,175,176,177,218,258,293,259,219,71,74,124,32,75,125,180,220,260,221,222,181,223,261,224,262,263,264,225,265,226,266,294,267,268,269,182,227,270,295,271,272,296,297,305,308,228,274,273,275,276,277,229,278,183,230,279,298,299,306,300,280,301,231,281,282,126,184,9,33,34,76,35,36,77,37,78,127,185,232,128,129,186,38,79,130,131,187,39,80,40,81]:=VO cl1 cl2
theorem clI:Tryz.prog.inPlace 4=["slices.overlaps[loop.example/g00503/impl.Kid]"]:=VP cl (by kernel_rfl)
theorem clU:Tryz.prog.unfollowed 4=true:=RT cl (by kernel_rfl)
theorem clR:Tryz.prog.recurses 4=true:=UW clU
theorem clV:Tryz.prog.varsNamed 4=[]:=TE cl (by kernel_rfl)
theorem closed:joinedFacts Tryz.prog 4 Tryz.f4 Rows.fnExactUselessSpec Rows.fnExactUselessRow=true:=by
  unfold joinedFacts
  rw [clI,clU,clR,clV]
  kernel_rfl
theorem over:Rows.fnExactUselessRow.holds Tryz.pinned (OpenSpec.ofChange Rows.fnExactUselessSpec) :=
  OpenClaim.holds_of_wide 4 Tryz.f4 rfl rfl rfl rfl rfl rfl rfl ⟨rfl,rfl,rfl,rfl,rfl⟩ rfl rfl rfl rfl rfl (by kernel_rfl) Tryz.func4 closed
    (of_decide_eq_true (by kernel_rfl)) (by unfold Func.isWrapper; first | (rw [if_pos (by decide +kernel)]; kernel_rfl) | (rw [if_neg (by decide +kernel)]; exact ⟨rfl,rfl⟩))
    (fun os started H enc _=>lifted os started H enc)
theorem proved:Rows.FnExactUselessSaid:=over
#print axioms proved
end Go.Proofs.YthdbkkomigbflaaGreat.fnExactUseless
namespace Go.Proofs.YthdbkkomigbflaaGreat
theorem fnExactUseless_holds:Rows.FnExactUselessSaid:=fnExactUseless.proved
end Go.Proofs.YthdbkkomigbflaaGreat