/- The law FnExactUntilDone holds for every input, sr its row says; under no condition. -/
import Derived.Test.YtkomlmhelfnajaaGreatCFnExactUntilDoneK4
import Derived.Test.YtkomlmhelfnajaaGreatCFnExactUntilDoneP2
import Derived.Test.YtkomlmhelfnajaaGreatRows
import Derived.WalkKit
import Derived.ProofKit
import Derived.OpenShut
import Derived.ShutString
import Derived.ChangeOld
import Derived.Below
import Derived.SizedLaws
set_option maxRecDepth 100000
set_option linter.unusedVariables false
set_option linter.unusedSimpArgs false
namespace Go.Proofs.YtkomlmhelfnajaaGreat.fnExactUntilDone
open Go.Tm Go.RowKit Go.ChangeShapes Go.WideShapes Go.ChangeAt Go.ChangeMaps
theorem qi6:di Tryz.prog 44 4 Tm.eG.wf Tm.ie:=di.map (di.struct Tryz.underlying44 (by kernel_rfl) (gz.cons (n:=1) (m:=3) rfl (di.int (k:=.i64) Tryz.underlying3 (by kernel_rfl)) (gz.cons (n:=1) (m:=2) rfl (di.int (k:=.i64) Tryz.underlying3 (by kernel_rfl)) (gz.cons (n:=1) (m:=1) rfl (di.int (k:=.i64) Tryz.underlying3 (by kernel_rfl)) (gz.cons (n:=1) (m:=0) rfl (di.int (k:=.i64) Tryz.underlying3 (by kernel_rfl)) gz.nil))))) (fun (x:Int×Int×Int×Int×Unit)=>⟨x.1,x.2.1,x.2.2.1,x.2.2.2.1⟩) (fun _=>rfl) (fun _=>rfl) (fun _ h=>h)
theorem qi7:di Tryz.prog 45 1 Tm.bV.wf Tm.gE:=di.map (di.struct Tryz.underlying45 (by kernel_rfl) (gz.cons (n:=1) (m:=0) rfl (di.slice Tryz.underlying26 (by kernel_rfl) (di.int (k:=.i64) Tryz.underlying3 (by kernel_rfl))) gz.nil)) (fun (x:(List Int)×Unit)=>⟨x.1⟩) (fun _=>rfl) (fun _=>rfl) (fun _ h=>h)
theorem qiy:di Tryz.prog 147 1 Tm.aM.wf Tm.aR:=di.map (di.struct Tryz.underlying147 (by kernel_rfl) (gz.cons (n:=1) (m:=0) rfl (di.slice Tryz.underlying22 (by kernel_rfl) (di.int (k:=.u8) Tryz.underlying5 (by kernel_rfl))) gz.nil)) (fun (x:(List Int)×Unit)=>⟨x.1⟩) (fun _=>rfl) (fun _=>rfl) (fun _ h=>h)
theorem qiz:di Tryz.prog 310 2 Tm.bQ.wf Tm.aJ:=di.map (di.struct Tryz.underlying310 (by kernel_rfl) (gz.cons (n:=1) (m:=1) rfl (di.int (k:=.i64) Tryz.underlying3 (by kernel_rfl)) (gz.cons (n:=1) (m:=0) rfl (di.int (k:=.i64) Tryz.underlying3 (by kernel_rfl)) gz.nil))) (fun (x:Int×Int×Unit)=>⟨x.1,x.2.1⟩) (fun _=>rfl) (fun _=>rfl) (fun _ h=>h)
theorem qiA:di Tryz.prog 151 4 Tm.ae.wf Tm.al:=di.map (di.struct Tryz.underlying151 (by kernel_rfl) (gz.cons (n:=1) (m:=3) rfl (di.int (k:=.i64) Tryz.underlying3 (by kernel_rfl)) (gz.cons (n:=1) (m:=2) rfl (di.int (k:=.i64) Tryz.underlying3 (by kernel_rfl)) (gz.cons (n:=1) (m:=1) rfl (di.int (k:=.i64) Tryz.underlying3 (by kernel_rfl)) (gz.cons (n:=1) (m:=0) rfl (di.slice Tryz.underlying149 (by kernel_rfl) qiz) gz.nil))))) (fun (x:Int×Int×Int×(List Tm.bQ)×Unit)=>⟨x.1,x.2.1,x.2.2.1,x.2.2.2.1⟩) (fun _=>rfl) (fun _=>rfl) (fun _ h=>h)
theorem qiB:di Tryz.prog 152 2 Tm.aY.wf Tm.cO:=di.map (di.struct Tryz.underlying152 (by kernel_rfl) (gz.cons (n:=1) (m:=1) rfl (di.int (k:=.i64) Tryz.underlying3 (by kernel_rfl)) (gz.cons (n:=1) (m:=0) rfl (di.slice Tryz.underlying22 (by kernel_rfl) (di.int (k:=.u8) Tryz.underlying5 (by kernel_rfl))) gz.nil))) (fun (x:Int×(List Int)×Unit)=>⟨x.1,x.2.1⟩) (fun _=>rfl) (fun _=>rfl) (fun _ h=>h)
theorem qiC:di Tryz.prog 284 5 Tm.Kid.wf Tm.av:=di.map (di.struct Tryz.underlying284 (by kernel_rfl) (gz.cons (n:=1) (m:=4) rfl (di.int (k:=.i64) Tryz.underlying3 (by kernel_rfl)) (gz.cons (n:=1) (m:=3) rfl (di.int (k:=.i64) Tryz.underlying3 (by kernel_rfl)) (gz.cons (n:=1) (m:=2) rfl (di.int (k:=.i64) Tryz.underlying3 (by kernel_rfl)) (gz.cons (n:=1) (m:=1) rfl (di.int (k:=.i64) Tryz.underlying3 (by kernel_rfl)) (gz.cons (n:=1) (m:=0) rfl (di.int (k:=.i64) Tryz.underlying3 (by kernel_rfl)) gz.nil)))))) (fun (x:Int×Int×Int×Int×Int×Unit)=>⟨x.1,x.2.1,x.2.2.1,x.2.2.2.1,x.2.2.2.2.1⟩) (fun _=>rfl) (fun _=>rfl) (fun _ h=>h)
theorem qiD:di Tryz.prog 155 12 Tm.aA.wf Tm.au:=di.map (di.struct Tryz.underlying155 (by kernel_rfl) (gz.cons (n:=1) (m:=11) rfl (di.bool Tryz.underlying4 (by kernel_rfl)) (gz.cons (n:=1) (m:=10) rfl (di.int (k:=.i64) Tryz.underlying3 (by kernel_rfl)) (gz.cons (n:=1) (m:=9) rfl (di.int (k:=.i64) Tryz.underlying3 (by kernel_rfl)) (gz.cons (n:=4) (m:=5) rfl qiA (gz.cons (n:=2) (m:=3) rfl qiB (gz.cons (n:=1) (m:=2) rfl (di.int (k:=.i64) Tryz.underlying3 (by kernel_rfl)) (gz.cons (n:=1) (m:=1) rfl (di.slice Tryz.underlying153 (by kernel_rfl) qiC) (gz.cons (n:=1) (m:=0) rfl (di.int (k:=.i64) Tryz.underlying3 (by kernel_rfl)) gz.nil))))))))) (fun (x:Bool×Int×Int×Tm.ae×Tm.aY×Int×(List Tm.Kid)×Int×Unit)=>⟨x.1,x.2.1,x.2.2.1,x.2.2.2.1,x.2.2.2.2.1,x.2.2.2.2.2.1,x.2.2.2.2.2.2.1,x.2.2.2.2.2.2.2.1⟩) (fun _=>rfl) (fun _=>rfl) (fun _ h=>h)
theorem qho:di Tryz.prog 157 3 Tm.ct.wf Tm.fq:=di.map (di.struct Tryz.underlying157 (by kernel_rfl) (gz.cons (n:=1) (m:=2) rfl (di.int (k:=.i64) Tryz.underlying3 (by kernel_rfl)) (gz.cons (n:=1) (m:=1) rfl (di.int (k:=.i64) Tryz.underlying3 (by kernel_rfl)) (gz.cons (n:=1) (m:=0) rfl (di.int (k:=.i64) Tryz.underlying3 (by kernel_rfl)) gz.nil)))) (fun (x:Int×Int×Int×Unit)=>⟨x.1,x.2.1,x.2.2.1⟩) (fun _=>rfl) (fun _=>rfl) (fun _ h=>h)
theorem qiE:di Tryz.prog 263 6 Tm.bR.wf Tm.aP:=di.map (di.struct Tryz.underlying263 (by kernel_rfl) (gz.cons (n:=1) (m:=5) rfl (di.int (k:=.i64) Tryz.underlying3 (by kernel_rfl)) (gz.cons (n:=1) (m:=4) rfl (di.int (k:=.i64) Tryz.underlying3 (by kernel_rfl)) (gz.cons (n:=1) (m:=3) rfl (di.slice Tryz.underlying22 (by kernel_rfl) (di.int (k:=.u8) Tryz.underlying5 (by kernel_rfl))) (gz.cons (n:=3) (m:=0) rfl qho gz.nil))))) (fun (x:Int×Int×(List Int)×Tm.ct×Unit)=>⟨x.1,x.2.1,x.2.2.1,x.2.2.2.1⟩) (fun _=>rfl) (fun _=>rfl) (fun _ h=>h)
theorem qiF:di Tryz.prog 160 6 Tm.ar.wf Tm.ai:=di.map (di.struct Tryz.underlying160 (by kernel_rfl) (gz.cons (n:=1) (m:=5) rfl (di.slice Tryz.underlying22 (by kernel_rfl) (di.int (k:=.u8) Tryz.underlying5 (by kernel_rfl))) (gz.cons (n:=1) (m:=4) rfl (di.slice Tryz.underlying22 (by kernel_rfl) (di.int (k:=.u8) Tryz.underlying5 (by kernel_rfl))) (gz.cons (n:=3) (m:=1) rfl qho (gz.cons (n:=1) (m:=0) rfl (di.slice Tryz.underlying158 (by kernel_rfl) qiE) gz.nil))))) (fun (x:(List Int)×(List Int)×Tm.ct×(List Tm.bR)×Unit)=>⟨x.1,x.2.1,x.2.2.1,x.2.2.2.1⟩) (fun _=>rfl) (fun _=>rfl) (fun _ h=>h)
theorem qiG:di Tryz.prog 163 3 Tm.ah.wf Tm.ak:=di.map (di.struct Tryz.underlying163 (by kernel_rfl) (gz.cons (n:=1) (m:=2) rfl (di.int (k:=.i64) Tryz.underlying3 (by kernel_rfl)) (gz.cons (n:=1) (m:=1) rfl (di.int (k:=.i64) Tryz.underlying3 (by kernel_rfl)) (gz.cons (n:=1) (m:=0) rfl (di.slice Tryz.underlying22 (by kernel_rfl) (di.int (k:=.u8) Tryz.underlying5 (by kernel_rfl))) gz.nil)))) (fun (x:Int×Int×(List Int)×Unit)=>⟨x.1,x.2.1,x.2.2.1⟩) (fun _=>rfl) (fun _=>rfl) (fun _ h=>h)
theorem qiH:di Tryz.prog 177 3 Tm.br.wf Tm.bf:=di.map (di.struct Tryz.underlying177 (by kernel_rfl) (gz.cons (n:=1) (m:=2) rfl (di.int (k:=.i64) Tryz.underlying3 (by kernel_rfl)) (gz.cons (n:=1) (m:=1) rfl (di.int (k:=.i64) Tryz.underlying3 (by kernel_rfl)) (gz.cons (n:=1) (m:=0) rfl (di.int (k:=.i64) Tryz.underlying3 (by kernel_rfl)) gz.nil)))) (fun (x:Int×Int×Int×Unit)=>⟨x.1,x.2.1,x.2.2.1⟩) (fun _=>rfl) (fun _=>rfl) (fun _ h=>h)
theorem qi8:di Tryz.prog 52 12 Tm.World.wf Tm.a8:=di.map (di.struct Tryz.underlying52 (by kernel_rfl) (gz.cons (n:=4) (m:=8) rfl qi6 (gz.cons (n:=1) (m:=7) rfl qi7 (gz.cons (n:=1) (m:=6) rfl (di.slice Tryz.underlying22 (by kernel_rfl) (di.int (k:=.u8) Tryz.underlying5 (by kernel_rfl))) (gz.cons (n:=1) (m:=5) rfl (di.slice Tryz.underlying46 (by kernel_rfl) qiy) (gz.cons (n:=1) (m:=4) rfl (di.slice Tryz.underlying47 (by kernel_rfl) qiD) (gz.cons (n:=1) (m:=3) rfl (di.slice Tryz.underlying48 (by kernel_rfl) qiF) (gz.cons (n:=1) (m:=2) rfl (di.slice Tryz.underlying49 (by kernel_rfl) qiG) (gz.cons (n:=1) (m:=1) rfl (di.slice Tryz.underlying50 (by kernel_rfl) qiH) (gz.cons (n:=1) (m:=0) rfl (di.int (k:=.i64) Tryz.underlying3 (by kernel_rfl)) gz.nil)))))))))) (fun (x:Tm.eG×Tm.bV×(List Int)×(List Tm.aM)×(List Tm.aA)×(List Tm.ar)×(List Tm.ah)×(List Tm.br)×Int×Unit)=>⟨x.1,x.2.1,x.2.2.1,x.2.2.2.1,x.2.2.2.2.1,x.2.2.2.2.2.1,x.2.2.2.2.2.2.1,x.2.2.2.2.2.2.2.1,x.2.2.2.2.2.2.2.2.1⟩) (fun _=>rfl) (fun _=>rfl) (fun _ h=>h)
theorem own:ownKnob Tryz.prog.godebug=none:=by kernel_rfl
theorem qhf:laidOutB Tryz.prog=true:=by kernel_rfl
theorem law (x:Tm.World×Int×Unit) (h:Tm.World.wf x.1∧(lU .i64) x.2.1∧True):kP 1099511627776 x.1 x.2.1=some true:=Pu.Zf x.1 x.2.1 h
theorem lifted (os:Os) (started:os.Started) (H:Type) (enc:TypeId×Value→H) :
    ReturnsInHanded {} Tryz.checked os 4 .any (Rows.fnExactUntilDoneSpec.pre6 enc Tryz.prog Tryz.f4 Rows.fnExactUntilDoneRow.domain false) (Rows.fnExactUntilDoneSpec.post enc Tryz.prog Tryz.f4 false true false false):=by
  refine returnsInHanded_of_change_sized (C:=Tryz.checked) own started (by kernel_rfl) Tryz.func4
    (ChangeSpec.witness6 (enc:=enc) (C:=Tryz.checked) false ⟨#[],#[.agg #[.int .i64 0,.int .i64 0,.int .i64 0,.int .i64 0,.slice none 0 0,.slice none 0 0,.slice none 0 0,.slice none 0 0,.slice none 0 0,.slice none 0 0,.slice none 0 0,.int .i64 0],.int .i64 0],[]⟩ 8 (by kernel_rfl) (by kernel_rfl) (by kernel_rfl) (by kernel_rfl)) ?_
  intro W base args ds gs before hval0 hW hcnd hsz0 _
  have hval:∀ (j:Nat) t v,Tryz.f4.params[j]?=some t→args[j]?=some v→Value.okWide Tryz.prog W .any base t v:=hval0
  have hW1:=hW
  obtain ⟨p,q,hA0,hV,rfl,hfz,hnd⟩:=hW
  have hA:DataW.TrodAll enc Tryz.prog W 0 (fun _=>true) true Tryz.f4.params.toList args.toList ds p:=hA0
  have hB:=hA
  rw [Tryz.params4] at hA hval
  obtain ⟨rfl,rfl⟩:=trodVars_none hV
  have hA2:=hA
  obtain ⟨v0,vs0,d0,ds0,p0,q0,ha0,rfl,hp0,h0,r0⟩:=trodAll_cons hA2
  obtain ⟨v1,vs1,d1,ds1,p1,q1,ha1,rfl,hp1,h1,r1⟩:=trodAll_cons r0
  obtain ⟨_,rfl,_⟩:=trodAll_nil r1
  refine (qeD (OB.cons (RdV.agg qi8 Tryz.underlying52) (OB.cons (RdV.one (di.int (k:=.i64) Tryz.underlying3 (by kernel_rfl)) (by kernel_rfl)) OB.nil)) qhf (by kernel_rfl) (fun (x:Tm.World×Int×Unit) h=>GF (law x h)) enc W base args _ p hA (fun j t v h1 h2=>hval j t v (by simpa using h1) h2) (.none (by kernel_rfl))).mono fun e W2 hh=>?_
  obtain ⟨he,bel,hT⟩:=hh
  subst he
  exact ⟨_,rfl,_,_,_,[],_,[],hW1,trodAll_mk1 (shut_bool Tryz.underlying4 _),hT,rfl,bel.frame _,fun h=>by cases h⟩
theorem cl1:Z9 Tryz.prog 1360 [4] [] 0=([],List.reverse [4,11,38,103,39,40,104,41,105,174,239,175,176,42,106,177,240,43,107,44,13,50,51,123,52,53,124,54,125,197,266,315,198,199,267,55,126,200,201,268,56,127,57,128,12,45,108,109,178,179,110,180,111,46,112,47,113,114,115,116,181,241,291,334,297,247,299,249,300,117,182,119,190,183,243,242,184,244,185,229,292,246,298,245,248,250,186,251,118,187,188,189,120,191,252,253,192,193,254,255,301,336,256,48,49,121,194,257,258,259,302,337,338,303,262,306,305,263,307,308,261,260,304,311,339,340,367,341,342,195,264,309,310,343,368,344,122,196,265,312,313,345,369,346,371,370,372,373,374,375,314,347,231,293,294,335,366,400,405,406,407,295,230,348,376,377,14,58,21,59,22,23,24,78,151,79,102,27,86,77,76,161,154,235,88,162,155,232,296,129,80,202,152,269,203,270,36,100,204,271,82,153,236,316,349,234,167,237,317,350,318,272,319,205,273,207,206,274,130,208,87,275,209,210,276,211,212,131,156,132,134,214,215,282,213,277,278,279,280,281,320,93,166,351,321,133,135,216,29,89,90,163,91,92,84,157,164,165,60,61,136,217,218,283,322,323,324,352,353,378,379,354,326,356,355,94,327,95,168,169,357,325,328,358,361,388,380,401,381,382,383,284,329,359,384,360,385,386,387,219,220,286,285,330,362,389,402,390,391,403,404,408,409,363,393,392,394,395,396,331,364,85,158,159,233,160,397,83,365,398,399,221,222,287,332,25,81,137,15,62,63,138,64,65,139,66,140,223,288,333,224,225,289,67,141,226,227,290,68,142,69,143],2644223875160994395807661232131084159313618731857124434995469839827130509957529974581504757108230880454100653771551326402576):=by kernel_rfl
theorem cl2:Nat.ble 1360 (ZH Tryz.prog)=true:=by kernel_rfl
theorem cl:Tryz.prog.closure 4=[4,11,38,103,39,40,104,41,105,174,239,175,176,42,106,177,240,43,107,44,13,50,51,123,52,53,124,54,125,197,266,315,198,199,267,55,126,200,201,268,56,127,57,128,12,45,108,109,178,179,110,180,111,46,112,47,113,114,115,116,181,241,291,334,297,247,299,249,300,117,182,119,190,183,243,242,184,244,185,229,292,246,298,245,248,250,186,251,118,187,188,189,120,191,252,253,192,193,254,255,301,336,256,48,49,121,194,257,258,259,302,337,338,303,262,306,305,263,307,308,261,260,304,311,339,340,367,341,342,195,264,309,310,343,368,344,122,196,265,312,313,345,369,346,371,370,372,373,374,375,314,347,231,293,294,335,366,400,405,406,407,295,230,348,376,377,14,58,21,59,22,23,24,78,151,79,102,27,86,77,76,161,154,235,88,162,155,232,296,129,80,202,152,269,203,270,36,100,204,271,82,153,236,316,349,234,167,237,317,350,318,272,319,205,273,207,206,274,130,208,87,275,209,210,276,211,212,131,156,132,134,214,215,282,213,277,278,279,280,281,320,93,166,351,321,133,135,216,29,89,90,163,91,92,84,157,164,165,60,61,136,217,218,283,322,323,324,352,353,378,379,354,326,356,355,94,327,95,168,169,357,325,328,358,361,388,380,401,381,382,383,284,329,359,384,360,385,386,387,219,220,286,285,330,362,389,402,390,391,403,404,408,409,363,393,392,394,395,396,331,364,85,158,159,233,160,397,83,365,398,399,221,222,287,332,25,81,137,15,62,63,138,64,65,139,66,140,223,288,333,224,225,289,67,141,226,227,290,68,142,69,143]:=qcW cl1 cl2
theorem clI:Tryz.prog.inPlace 4=["slices.overlaps[loop.example/g00503/impl.Kid]"]:=qcX cl (by kernel_rfl)
theorem clU:Tryz.prog.unfollowed 4=true:=Yq cl (by kernel_rfl)
theorem clR:Tryz.prog.recurses 4=true:=qbO clU
theorem clV:Tryz.prog.varsNamed 4=[]:=qaa cl (by kernel_rfl)
theorem closed:joinedFacts Tryz.prog 4 Tryz.f4 Rows.fnExactUntilDoneSpec Rows.fnExactUntilDoneRow=true:=by
  unfold joinedFacts
  rw [clI,clU,clR,clV]
  kernel_rfl
theorem over:Rows.fnExactUntilDoneRow.holds Tryz.pinned (OpenSpec.ofChange Rows.fnExactUntilDoneSpec) :=
  OpenClaim.holds_of_wide 4 Tryz.f4 rfl rfl rfl rfl rfl rfl rfl ⟨rfl,rfl,rfl,rfl,rfl⟩ rfl rfl rfl rfl rfl (by kernel_rfl) Tryz.func4 closed
    (of_decide_eq_true (by kernel_rfl)) (by unfold Func.isWrapper; first | (rw [if_pos (by decide +kernel)]; kernel_rfl) | (rw [if_neg (by decide +kernel)]; exact ⟨rfl,rfl⟩))
    (fun os started H enc _=>lifted os started H enc)
theorem proved:Rows.FnExactUntilDoneSaid:=over
#print axioms proved
end Go.Proofs.YtkomlmhelfnajaaGreat.fnExactUntilDone
namespace Go.Proofs.YtkomlmhelfnajaaGreat
theorem fnExactUntilDone_holds:Rows.FnExactUntilDoneSaid:=fnExactUntilDone.proved
end Go.Proofs.YtkomlmhelfnajaaGreat