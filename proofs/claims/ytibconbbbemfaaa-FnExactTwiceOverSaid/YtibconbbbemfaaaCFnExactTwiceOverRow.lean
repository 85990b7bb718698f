/- The law FnExactTwiceOver holds for every input, as its row says; under no condition. -/
import Derived.Test.YtibconbbbemfaaaCFnExactTwiceOverK1
import Derived.Test.YtibconbbbemfaaaCFnExactTwiceOverP1
import Derived.Test.YtibconbbbemfaaaRows
import Derived.WalkKit
import Derived.ProofKit
import Derived.OpenShut
import Derived.ShutString
import Derived.ChangeOld
import Derived.Below
import Derived.SizedLaws
set_option maxRecDepth 100000
set_option linter.unusedVariables false
set_option linter.unusedSimpArgs false
namespace Go.Proofs.Ytibconbbbemfaaa.fnExactTwiceOver
open Go.Tm Go.RowKit Go.ChangeShapes Go.WideShapes Go.ChangeAt Go.ChangeMaps
theorem rd23:RdTy Try.prog 23 4 Tm.Conf.wf Tm.Conf.enc:=RdTy.map (RdTy.struct Try.underlying23 (by kernel_rfl) (RdFs.cons (n:=1) (m:=3) rfl (RdTy.int (k:=.i64) Try.underlying3 (by kernel_rfl)) (RdFs.cons (n:=1) (m:=2) rfl (RdTy.int (k:=.i64) Try.underlying3 (by kernel_rfl)) (RdFs.cons (n:=1) (m:=1) rfl (RdTy.int (k:=.i64) Try.underlying3 (by kernel_rfl)) (RdFs.cons (n:=1) (m:=0) rfl (RdTy.int (k:=.i64) Try.underlying3 (by kernel_rfl)) RdFs.nil))))) (fun (x:Int×Int×Int×Int×Unit)=>⟨x.1,x.2.1,x.2.2.1,x.2.2.2.1⟩) (fun _=>rfl) (fun _=>rfl) (fun _ h=>h)
theorem rd26:RdTy Try.prog 26 1 Tm.Tree.wf Tm.Tree.enc:=RdTy.map (RdTy.struct Try.underlying26 (by kernel_rfl) (RdFs.cons (n:=1) (m:=0) rfl (RdTy.slice Try.underlying24 (by kernel_rfl) (RdTy.int (k:=.i64) Try.underlying3 (by kernel_rfl))) RdFs.nil)) (fun (x:(List Int)×Unit)=>⟨x.1⟩) (fun _=>rfl) (fun _=>rfl) (fun _ h=>h)
theorem rd78:RdTy Try.prog 78 1 Tm.Image.wf Tm.Image.enc:=RdTy.map (RdTy.struct Try.underlying78 (by kernel_rfl) (RdFs.cons (n:=1) (m:=0) rfl (RdTy.slice Try.underlying27 (by kernel_rfl) (RdTy.int (k:=.u8) Try.underlying5 (by kernel_rfl))) RdFs.nil)) (fun (x:(List Int)×Unit)=>⟨x.1⟩) (fun _=>rfl) (fun _=>rfl) (fun _ h=>h)
theorem rd155:RdTy Try.prog 155 2 Tm.Sum.wf Tm.Sum.enc:=RdTy.map (RdTy.struct Try.underlying155 (by kernel_rfl) (RdFs.cons (n:=1) (m:=1) rfl (RdTy.int (k:=.i64) Try.underlying3 (by kernel_rfl)) (RdFs.cons (n:=1) (m:=0) rfl (RdTy.int (k:=.i64) Try.underlying3 (by kernel_rfl)) RdFs.nil))) (fun (x:Int×Int×Unit)=>⟨x.1,x.2.1⟩) (fun _=>rfl) (fun _=>rfl) (fun _ h=>h)
theorem rd82:RdTy Try.prog 82 4 Tm.Manifest.wf Tm.Manifest.enc:=RdTy.map (RdTy.struct Try.underlying82 (by kernel_rfl) (RdFs.cons (n:=1) (m:=3) rfl (RdTy.int (k:=.i64) Try.underlying3 (by kernel_rfl)) (RdFs.cons (n:=1) (m:=2) rfl (RdTy.int (k:=.i64) Try.underlying3 (by kernel_rfl)) (RdFs.cons (n:=1) (m:=1) rfl (RdTy.int (k:=.i64) Try.underlying3 (by kernel_rfl)) (RdFs.cons (n:=1) (m:=0) rfl (RdTy.slice Try.underlying80 (by kernel_rfl) rd155) RdFs.nil))))) (fun (x:Int×Int×Int×(List Tm.Sum)×Unit)=>⟨x.1,x.2.1,x.2.2.1,x.2.2.2.1⟩) (fun _=>rfl) (fun _=>rfl) (fun _ h=>h)
theorem rd84:RdTy Try.prog 84 2 Tm.Build.wf Tm.Build.enc:=RdTy.map (RdTy.struct Try.underlying84 (by kernel_rfl) (RdFs.cons (n:=1) (m:=1) rfl (RdTy.int (k:=.i64) Try.underlying3 (by kernel_rfl)) (RdFs.cons (n:=1) (m:=0) rfl (RdTy.slice Try.underlying27 (by kernel_rfl) (RdTy.int (k:=.u8) Try.underlying5 (by kernel_rfl))) RdFs.nil))) (fun (x:Int×(List Int)×Unit)=>⟨x.1,x.2.1⟩) (fun _=>rfl) (fun _=>rfl) (fun _ h=>h)
theorem rd145:RdTy Try.prog 145 5 Tm.Kid.wf Tm.Kid.enc:=RdTy.map (RdTy.struct Try.underlying145 (by kernel_rfl) (RdFs.cons (n:=1) (m:=4) rfl (RdTy.int (k:=.i64) Try.underlying3 (by kernel_rfl)) (RdFs.cons (n:=1) (m:=3) rfl (RdTy.int (k:=.i64) Try.underlying3 (by kernel_rfl)) (RdFs.cons (n:=1) (m:=2) rfl (RdTy.int (k:=.i64) Try.underlying3 (by kernel_rfl)) (RdFs.cons (n:=1) (m:=1) rfl (RdTy.int (k:=.i64) Try.underlying3 (by kernel_rfl)) (RdFs.cons (n:=1) (m:=0) rfl (RdTy.int (k:=.i64) Try.underlying3 (by kernel_rfl)) RdFs.nil)))))) (fun (x:Int×Int×Int×Int×Int×Unit)=>⟨x.1,x.2.1,x.2.2.1,x.2.2.2.1,x.2.2.2.2.1⟩) (fun _=>rfl) (fun _=>rfl) (fun _ h=>h)
theorem rd87:RdTy Try.prog 87 12 Tm.Node.wf Tm.Node.enc:=RdTy.map (RdTy.struct Try.underlying87 (by kernel_rfl) (RdFs.cons (n:=1) (m:=11) rfl (RdTy.bool Try.underlying4 (by kernel_rfl)) (RdFs.cons (n:=1) (m:=10) rfl (RdTy.int (k:=.i64) Try.underlying3 (by kernel_rfl)) (RdFs.cons (n:=1) (m:=9) rfl (RdTy.int (k:=.i64) Try.underlying3 (by kernel_rfl)) (RdFs.cons (n:=4) (m:=5) rfl rd82 (RdFs.cons (n:=2) (m:=3) rfl rd84 (RdFs.cons (n:=1) (m:=2) rfl (RdTy.int (k:=.i64) Try.underlying3 (by kernel_rfl)) (RdFs.cons (n:=1) (m:=1) rfl (RdTy.slice Try.underlying85 (by kernel_rfl) rd145) (RdFs.cons (n:=1) (m:=0) rfl (RdTy.int (k:=.i64) Try.underlying3 (by kernel_rfl)) RdFs.nil))))))))) (fun (x:Bool×Int×Int×Tm.Manifest×Tm.Build×Int×(List Tm.Kid)×Int×Unit)=>⟨x.1,x.2.1,x.2.2.1,x.2.2.2.1,x.2.2.2.2.1,x.2.2.2.2.2.1,x.2.2.2.2.2.2.1,x.2.2.2.2.2.2.2.1⟩) (fun _=>rfl) (fun _=>rfl) (fun _ h=>h)
theorem rd90:RdTy Try.prog 90 3 Tm.Record.wf Tm.Record.enc:=RdTy.map (RdTy.struct Try.underlying90 (by kernel_rfl) (RdFs.cons (n:=1) (m:=2) rfl (RdTy.int (k:=.i64) Try.underlying3 (by kernel_rfl)) (RdFs.cons (n:=1) (m:=1) rfl (RdTy.int (k:=.i64) Try.underlying3 (by kernel_rfl)) (RdFs.cons (n:=1) (m:=0) rfl (RdTy.int (k:=.i64) Try.underlying3 (by kernel_rfl)) RdFs.nil)))) (fun (x:Int×Int×Int×Unit)=>⟨x.1,x.2.1,x.2.2.1⟩) (fun _=>rfl) (fun _=>rfl) (fun _ h=>h)
theorem rd140:RdTy Try.prog 140 6 Tm.Put.wf Tm.Put.enc:=RdTy.map (RdTy.struct Try.underlying140 (by kernel_rfl) (RdFs.cons (n:=1) (m:=5) rfl (RdTy.int (k:=.i64) Try.underlying3 (by kernel_rfl)) (RdFs.cons (n:=1) (m:=4) rfl (RdTy.int (k:=.i64) Try.underlying3 (by kernel_rfl)) (RdFs.cons (n:=1) (m:=3) rfl (RdTy.slice Try.underlying27 (by kernel_rfl) (RdTy.int (k:=.u8) Try.underlying5 (by kernel_rfl))) (RdFs.cons (n:=3) (m:=0) rfl rd90 RdFs.nil))))) (fun (x:Int×Int×(List Int)×Tm.Record×Unit)=>⟨x.1,x.2.1,x.2.2.1,x.2.2.2.1⟩) (fun _=>rfl) (fun _=>rfl) (fun _ h=>h)
theorem rd93:RdTy Try.prog 93 6 Tm.Disk.wf Tm.Disk.enc:=RdTy.map (RdTy.struct Try.underlying93 (by kernel_rfl) (RdFs.cons (n:=1) (m:=5) rfl (RdTy.slice Try.underlying27 (by kernel_rfl) (RdTy.int (k:=.u8) Try.underlying5 (by kernel_rfl))) (RdFs.cons (n:=1) (m:=4) rfl (RdTy.slice Try.underlying27 (by kernel_rfl) (RdTy.int (k:=.u8) Try.underlying5 (by kernel_rfl))) (RdFs.cons (n:=3) (m:=1) rfl rd90 (RdFs.cons (n:=1) (m:=0) rfl (RdTy.slice Try.underlying91 (by kernel_rfl) rd140) RdFs.nil))))) (fun (x:(List Int)×(List Int)×Tm.Record×(List Tm.Put)×Unit)=>⟨x.1,x.2.1,x.2.2.1,x.2.2.2.1⟩) (fun _=>rfl) (fun _=>rfl) (fun _ h=>h)
theorem rd96:RdTy Try.prog 96 3 Tm.Packet.wf Tm.Packet.enc:=RdTy.map (RdTy.struct Try.underlying96 (by kernel_rfl) (RdFs.cons (n:=1) (m:=2) rfl (RdTy.int (k:=.i64) Try.underlying3 (by kernel_rfl)) (RdFs.cons (n:=1) (m:=1) rfl (RdTy.int (k:=.i64) Try.underlying3 (by kernel_rfl)) (RdFs.cons (n:=1) (m:=0) rfl (RdTy.slice Try.underlying27 (by kernel_rfl) (RdTy.int (k:=.u8) Try.underlying5 (by kernel_rfl))) RdFs.nil)))) (fun (x:Int×Int×(List Int)×Unit)=>⟨x.1,x.2.1,x.2.2.1⟩) (fun _=>rfl) (fun _=>rfl) (fun _ h=>h)
theorem rd116:RdTy Try.prog 116 3 Tm.Sent.wf Tm.Sent.enc:=RdTy.map (RdTy.struct Try.underlying116 (by kernel_rfl) (RdFs.cons (n:=1) (m:=2) rfl (RdTy.int (k:=.i64) Try.underlying3 (by kernel_rfl)) (RdFs.cons (n:=1) (m:=1) rfl (RdTy.int (k:=.i64) Try.underlying3 (by kernel_rfl)) (RdFs.cons (n:=1) (m:=0) rfl (RdTy.int (k:=.i64) Try.underlying3 (by kernel_rfl)) RdFs.nil)))) (fun (x:Int×Int×Int×Unit)=>⟨x.1,x.2.1,x.2.2.1⟩) (fun _=>rfl) (fun _=>rfl) (fun _ h=>h)
theorem rd34:RdTy Try.prog 34 12 Tm.World.wf Tm.World.enc:=RdTy.map (RdTy.struct Try.underlying34 (by kernel_rfl) (RdFs.cons (n:=4) (m:=8) rfl rd23 (RdFs.cons (n:=1) (m:=7) rfl rd26 (RdFs.cons (n:=1) (m:=6) rfl (RdTy.slice Try.underlying27 (by kernel_rfl) (RdTy.int (k:=.u8) Try.underlying5 (by kernel_rfl))) (RdFs.cons (n:=1) (m:=5) rfl (RdTy.slice Try.underlying28 (by kernel_rfl) rd78) (RdFs.cons (n:=1) (m:=4) rfl (RdTy.slice Try.underlying29 (by kernel_rfl) rd87) (RdFs.cons (n:=1) (m:=3) rfl (RdTy.slice Try.underlying30 (by kernel_rfl) rd93) (RdFs.cons (n:=1) (m:=2) rfl (RdTy.slice Try.underlying31 (by kernel_rfl) rd96) (RdFs.cons (n:=1) (m:=1) rfl (RdTy.slice Try.underlying32 (by kernel_rfl) rd116) (RdFs.cons (n:=1) (m:=0) rfl (RdTy.int (k:=.i64) Try.underlying3 (by kernel_rfl)) RdFs.nil)))))))))) (fun (x:Tm.Conf×Tm.Tree×(List Int)×(List Tm.Image)×(List Tm.Node)×(List Tm.Disk)×(List Tm.Packet)×(List Tm.Sent)×Int×Unit)=>⟨x.1,x.2.1,x.2.2.1,x.2.2.2.1,x.2.2.2.2.1,x.2.2.2.2.2.1,x.2.2.2.2.2.2.1,x.2.2.2.2.2.2.2.1,x.2.2.2.2.2.2.2.2.1⟩) (fun _=>rfl) (fun _=>rfl) (fun _ h=>h)
theorem own:ownKnob Try.prog.godebug=none:=by kernel_rfl
theorem laidOut:laidOutB Try.prog=true:=by kernel_rfl
theorem law (x:Tm.World×Unit) (h:Tm.World.wf x.1∧True):laws_FnExactTwiceOver 1099511627776 x.1=some true:=Pu.TwiceOver_law x.1 h
theorem lifted (os:Os) (started:os.Started) (H:Type) (enc:TypeId×Value→H) :
    ReturnsInHanded {} Try.checked os 3 .any (Rows.fnExactTwiceOverSpec.pre6 enc Try.prog Try.f3 Rows.fnExactTwiceOverRow.domain false) (Rows.fnExactTwiceOverSpec.post enc Try.prog Try.f3 false true false false):=by
  refine returnsInHanded_of_change_sized (C:=Try.checked) own started (by kernel_rfl) Try.func3
    (ChangeSpec.witness6 (enc:=enc) (C:=Try.checked) false ⟨#[],#[.agg #[.int .i64 0,.int .i64 0,.int .i64 0,.int .i64 0,.slice none 0 0,.slice none 0 0,.slice none 0 0,.slice none 0 0,.slice none 0 0,.slice none 0 0,.slice none 0 0,.int .i64 0]],[]⟩ 8 (by kernel_rfl) (by kernel_rfl) (by kernel_rfl) (by kernel_rfl)) ?_
  intro W base args ds gs before hval0 hW hcnd hsz0 _
  have hval:∀ (j:Nat) t v,Try.f3.params[j]?=some t→args[j]?=some v→Value.okWide Try.prog W .any base t v:=hval0
  have hW1:=hW
  obtain ⟨p,q,hA0,hV,rfl,hfz,hnd⟩:=hW
  have hA:DataW.TrodAll enc Try.prog W 0 (fun _=>true) true Try.f3.params.toList args.toList ds p:=hA0
  have hB:=hA
  rw [Try.params3] at hA hval
  obtain ⟨rfl,rfl⟩:=trodVars_none hV
  have hA2:=hA
  obtain ⟨v0,vs0,d0,ds0,p0,q0,ha0,rfl,hp0,h0,r0⟩:=trodAll_cons hA2
  obtain ⟨_,rfl,_⟩:=trodAll_nil r0
  refine (row_calls (RdAll.cons (RdV.agg rd34 Try.underlying34) RdAll.nil) laidOut (by kernel_rfl) (fun (x:Tm.World×Unit) h=>laws_FnExactTwiceOver_ok (law x h)) enc W base args _ p hA (fun j t v h1 h2=>hval j t v (by simpa using h1) h2) (.none (by kernel_rfl))).mono fun e W2 hh=>?_
  obtain ⟨he,bel,hT⟩:=hh
  subst he
  exact ⟨_,rfl,_,_,_,[],_,[],hW1,trodAll_mk1 (shut_bool Try.underlying4 _),hT,rfl,bel.frame _,fun h=>by cases h⟩
theorem over:Rows.fnExactTwiceOverRow.holds Try.pinned (OpenSpec.ofChange Rows.fnExactTwiceOverSpec) :=
  OpenClaim.holds_of_wide 3 Try.f3 rfl rfl rfl rfl rfl rfl rfl ⟨rfl,rfl,rfl,rfl,rfl⟩ rfl rfl rfl rfl rfl (by kernel_rfl) Try.func3 (by kernel_rfl)
    (of_decide_eq_true (by kernel_rfl)) (by unfold Func.isWrapper; first | (rw [if_pos (by decide +kernel)]; kernel_rfl) | (rw [if_neg (by decide +kernel)]; exact ⟨rfl,rfl⟩))
    (fun os started H enc _=>lifted os started H enc)
theorem proved:Rows.FnExactTwiceOverSaid:=over
#print axioms proved
end Go.Proofs.Ytibconbbbemfaaa.fnExactTwiceOver
namespace Go.Proofs.Ytibconbbbemfaaa
theorem fnExactTwiceOver_holds:Rows.FnExactTwiceOverSaid:=fnExactTwiceOver.proved
end Go.Proofs.Ytibconbbbemfaaa