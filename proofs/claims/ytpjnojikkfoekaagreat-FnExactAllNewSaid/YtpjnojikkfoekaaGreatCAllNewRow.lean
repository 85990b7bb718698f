/- The law FnExactAllNew holds for every input, as its row says; under no condition. -/
import Derived.Test.YtpjnojikkfoekaaGreatCAllNewK2
import Derived.Test.YtpjnojikkfoekaaGreatCAllNewP1
import Derived.Test.YtpjnojikkfoekaaGreatRows
import Derived.WalkKit
import Derived.ProofKit
import Derived.OpenShut
import Derived.ShutString
import Derived.ChangeOld
import Derived.Below
import Derived.SizedLaws
import Derived.Test.YtpjnojikkfoekaaGreatTm35
set_option maxRecDepth 100000
set_option linter.unusedVariables false
set_option linter.unusedSimpArgs false
namespace Go.Proofs.YtpjnojikkfoekaaGreat.fnExactAllNew
open Go.Tm Go.RowKit Go.ChangeShapes Go.WideShapes Go.ChangeAt Go.ChangeMaps
theorem rd23 : RdTy Tryz.prog 23 4 Tm.Conf.wf Tm.Conf.enc := RdTy.map (RdTy.struct Tryz.underlying23 (by kernel_rfl) (RdFs.cons (n := 1) (m := 3) rfl (RdTy.int (k := .i64) Tryz.underlying3 (by kernel_rfl)) (RdFs.cons (n := 1) (m := 2) rfl (RdTy.int (k := .i64) Tryz.underlying3 (by kernel_rfl)) (RdFs.cons (n := 1) (m := 1) rfl (RdTy.int (k := .i64) Tryz.underlying3 (by kernel_rfl)) (RdFs.cons (n := 1) (m := 0) rfl (RdTy.int (k := .i64) Tryz.underlying3 (by kernel_rfl)) RdFs.nil))))) (fun (x : Int × Int × Int × Int × Unit) => ⟨x.1, x.2.1, x.2.2.1, x.2.2.2.1⟩) (fun _ => rfl) (fun _ => rfl) (fun _ h => h)
theorem rd26 : RdTy Tryz.prog 26 1 Tm.Tree.wf Tm.Tree.enc := RdTy.map (RdTy.struct Tryz.underlying26 (by kernel_rfl) (RdFs.cons (n := 1) (m := 0) rfl (RdTy.slice Tryz.underlying24 (by kernel_rfl) (RdTy.int (k := .i64) Tryz.underlying3 (by kernel_rfl))) RdFs.nil)) (fun (x : (List Int) × Unit) => ⟨x.1⟩) (fun _ => rfl) (fun _ => rfl) (fun _ h => h)
theorem rd87 : RdTy Tryz.prog 87 1 Tm.Image.wf Tm.Image.enc := RdTy.map (RdTy.struct Tryz.underlying87 (by kernel_rfl) (RdFs.cons (n := 1) (m := 0) rfl (RdTy.slice Tryz.underlying27 (by kernel_rfl) (RdTy.int (k := .u8) Tryz.underlying5 (by kernel_rfl))) RdFs.nil)) (fun (x : (List Int) × Unit) => ⟨x.1⟩) (fun _ => rfl) (fun _ => rfl) (fun _ h => h)
theorem rd171 : RdTy Tryz.prog 171 2 Tm.Sum.wf Tm.Sum.enc := RdTy.map (RdTy.struct Tryz.underlying171 (by kernel_rfl) (RdFs.cons (n := 1) (m := 1) rfl (RdTy.int (k := .i64) Tryz.underlying3 (by kernel_rfl)) (RdFs.cons (n := 1) (m := 0) rfl (RdTy.int (k := .i64) Tryz.underlying3 (by kernel_rfl)) RdFs.nil))) (fun (x : Int × Int × Unit) => ⟨x.1, x.2.1⟩) (fun _ => rfl) (fun _ => rfl) (fun _ h => h)
theorem rd91 : RdTy Tryz.prog 91 4 Tm.Manifest.wf Tm.Manifest.enc := RdTy.map (RdTy.struct Tryz.underlying91 (by kernel_rfl) (RdFs.cons (n := 1) (m := 3) rfl (RdTy.int (k := .i64) Tryz.underlying3 (by kernel_rfl)) (RdFs.cons (n := 1) (m := 2) rfl (RdTy.int (k := .i64) Tryz.underlying3 (by kernel_rfl)) (RdFs.cons (n := 1) (m := 1) rfl (RdTy.int (k := .i64) Tryz.underlying3 (by kernel_rfl)) (RdFs.cons (n := 1) (m := 0) rfl (RdTy.slice Tryz.underlying89 (by kernel_rfl) rd171) RdFs.nil))))) (fun (x : Int × Int × Int × (List Tm.Sum) × Unit) => ⟨x.1, x.2.1, x.2.2.1, x.2.2.2.1⟩) (fun _ => rfl) (fun _ => rfl) (fun _ h => h)
theorem rd92 : RdTy Tryz.prog 92 2 Tm.Build.wf Tm.Build.enc := RdTy.map (RdTy.struct Tryz.underlying92 (by kernel_rfl) (RdFs.cons (n := 1) (m := 1) rfl (RdTy.int (k := .i64) Tryz.underlying3 (by kernel_rfl)) (RdFs.cons (n := 1) (m := 0) rfl (RdTy.slice Tryz.underlying27 (by kernel_rfl) (RdTy.int (k := .u8) Tryz.underlying5 (by kernel_rfl))) RdFs.nil))) (fun (x : Int × (List Int) × Unit) => ⟨x.1, x.2.1⟩) (fun _ => rfl) (fun _ => rfl) (fun _ h => h)
theorem rd165 : RdTy Tryz.prog 165 5 Tm.Kid.wf Tm.Kid.enc := RdTy.map (RdTy.struct Tryz.underlying165 (by kernel_rfl) (RdFs.cons (n := 1) (m := 4) rfl (RdTy.int (k := .i64) Tryz.underlying3 (by kernel_rfl)) (RdFs.cons (n := 1) (m := 3) rfl (RdTy.int (k := .i64) Tryz.underlying3 (by kernel_rfl)) (RdFs.cons (n := 1) (m := 2) rfl (RdTy.int (k := .i64) Tryz.underlying3 (by kernel_rfl)) (RdFs.cons (n := 1) (m := 1) rfl (RdTy.int (k := .i64) Tryz.underlying3 (by kernel_rfl)) (RdFs.cons (n := 1) (m := 0) rfl (RdTy.int (k := .i64) Tryz.underlying3 (by kernel_rfl)) RdFs.nil)))))) (fun (x : Int × Int × Int × Int × Int × Unit) => ⟨x.1, x.2.1, x.2.2.1, x.2.2.2.1, x.2.2.2.2.1⟩) (fun _ => rfl) (fun _ => rfl) (fun _ h => h)
theorem rd95 : RdTy Tryz.prog 95 12 Tm.Node.wf Tm.Node.enc := RdTy.map (RdTy.struct Tryz.underlying95 (by kernel_rfl) (RdFs.cons (n := 1) (m := 11) rfl (RdTy.bool Tryz.underlying4 (by kernel_rfl)) (RdFs.cons (n := 1) (m := 10) rfl (RdTy.int (k := .i64) Tryz.underlying3 (by kernel_rfl)) (RdFs.cons (n := 1) (m := 9) rfl (RdTy.int (k := .i64) Tryz.underlying3 (by kernel_rfl)) (RdFs.cons (n := 4) (m := 5) rfl rd91 (RdFs.cons (n := 2) (m := 3) rfl rd92 (RdFs.cons (n := 1) (m := 2) rfl (RdTy.int (k := .i64) Tryz.underlying3 (by kernel_rfl)) (RdFs.cons (n := 1) (m := 1) rfl (RdTy.slice Tryz.underlying93 (by kernel_rfl) rd165) (RdFs.cons (n := 1) (m := 0) rfl (RdTy.int (k := .i64) Tryz.underlying3 (by kernel_rfl)) RdFs.nil))))))))) (fun (x : Bool × Int × Int × Tm.Manifest × Tm.Build × Int × (List Tm.Kid) × Int × Unit) => ⟨x.1, x.2.1, x.2.2.1, x.2.2.2.1, x.2.2.2.2.1, x.2.2.2.2.2.1, x.2.2.2.2.2.2.1, x.2.2.2.2.2.2.2.1⟩) (fun _ => rfl) (fun _ => rfl) (fun _ h => h)
theorem rd98 : RdTy Tryz.prog 98 3 Tm.Record.wf Tm.Record.enc := RdTy.map (RdTy.struct Tryz.underlying98 (by kernel_rfl) (RdFs.cons (n := 1) (m := 2) rfl (RdTy.int (k := .i64) Tryz.underlying3 (by kernel_rfl)) (RdFs.cons (n := 1) (m := 1) rfl (RdTy.int (k := .i64) Tryz.underlying3 (by kernel_rfl)) (RdFs.cons (n := 1) (m := 0) rfl (RdTy.int (k := .i64) Tryz.underlying3 (by kernel_rfl)) RdFs.nil)))) (fun (x : Int × Int × Int × Unit) => ⟨x.1, x.2.1, x.2.2.1⟩) (fun _ => rfl) (fun _ => rfl) (fun _ h => h)
theorem rd162 : RdTy Tryz.prog 162 6 Tm.Put.wf Tm.Put.enc := RdTy.map (RdTy.struct Tryz.underlying162 (by kernel_rfl) (RdFs.cons (n := 1) (m := 5) rfl (RdTy.int (k := .i64) Tryz.underlying3 (by kernel_rfl)) (RdFs.cons (n := 1) (m := 4) rfl (RdTy.int (k := .i64) Tryz.underlying3 (by kernel_rfl)) (RdFs.cons (n := 1) (m := 3) rfl (RdTy.slice Tryz.underlying27 (by kernel_rfl) (RdTy.int (k := .u8) Tryz.underlying5 (by kernel_rfl))) (RdFs.cons (n := 3) (m := 0) rfl rd98 RdFs.nil))))) (fun (x : Int × Int × (List Int) × Tm.Record × Unit) => ⟨x.1, x.2.1, x.2.2.1, x.2.2.2.1⟩) (fun _ => rfl) (fun _ => rfl) (fun _ h => h)
theorem rd101 : RdTy Tryz.prog 101 6 Tm.Disk.wf Tm.Disk.enc := RdTy.map (RdTy.struct Tryz.underlying101 (by kernel_rfl) (RdFs.cons (n := 1) (m := 5) rfl (RdTy.slice Tryz.underlying27 (by kernel_rfl) (RdTy.int (k := .u8) Tryz.underlying5 (by kernel_rfl))) (RdFs.cons (n := 1) (m := 4) rfl (RdTy.slice Tryz.underlying27 (by kernel_rfl) (RdTy.int (k := .u8) Tryz.underlying5 (by kernel_rfl))) (RdFs.cons (n := 3) (m := 1) rfl rd98 (RdFs.cons (n := 1) (m := 0) rfl (RdTy.slice Tryz.underlying99 (by kernel_rfl) rd162) RdFs.nil))))) (fun (x : (List Int) × (List Int) × Tm.Record × (List Tm.Put) × Unit) => ⟨x.1, x.2.1, x.2.2.1, x.2.2.2.1⟩) (fun _ => rfl) (fun _ => rfl) (fun _ h => h)
theorem rd104 : RdTy Tryz.prog 104 3 Tm.Packet.wf Tm.Packet.enc := RdTy.map (RdTy.struct Tryz.underlying104 (by kernel_rfl) (RdFs.cons (n := 1) (m := 2) rfl (RdTy.int (k := .i64) Tryz.underlying3 (by kernel_rfl)) (RdFs.cons (n := 1) (m := 1) rfl (RdTy.int (k := .i64) Tryz.underlying3 (by kernel_rfl)) (RdFs.cons (n := 1) (m := 0) rfl (RdTy.slice Tryz.underlying27 (by kernel_rfl) (RdTy.int (k := .u8) Tryz.underlying5 (by kernel_rfl))) RdFs.nil)))) (fun (x : Int × Int × (List Int) × Unit) => ⟨x.1, x.2.1, x.2.2.1⟩) (fun _ => rfl) (fun _ => rfl) (fun _ h => h)
theorem rd120 : RdTy Tryz.prog 120 3 Tm.Sent.wf Tm.Sent.enc := RdTy.map (RdTy.struct Tryz.underlying120 (by kernel_rfl) (RdFs.cons (n := 1) (m := 2) rfl (RdTy.int (k := .i64) Tryz.underlying3 (by kernel_rfl)) (RdFs.cons (n := 1) (m := 1) rfl (RdTy.int (k := .i64) Tryz.underlying3 (by kernel_rfl)) (RdFs.cons (n := 1) (m := 0) rfl (RdTy.int (k := .i64) Tryz.underlying3 (by kernel_rfl)) RdFs.nil)))) (fun (x : Int × Int × Int × Unit) => ⟨x.1, x.2.1, x.2.2.1⟩) (fun _ => rfl) (fun _ => rfl) (fun _ h => h)
theorem rd34 : RdTy Tryz.prog 34 12 Tm.World.wf Tm.World.enc := RdTy.map (RdTy.struct Tryz.underlying34 (by kernel_rfl) (RdFs.cons (n := 4) (m := 8) rfl rd23 (RdFs.cons (n := 1) (m := 7) rfl rd26 (RdFs.cons (n := 1) (m := 6) rfl (RdTy.slice Tryz.underlying27 (by kernel_rfl) (RdTy.int (k := .u8) Tryz.underlying5 (by kernel_rfl))) (RdFs.cons (n := 1) (m := 5) rfl (RdTy.slice Tryz.underlying28 (by kernel_rfl) rd87) (RdFs.cons (n := 1) (m := 4) rfl (RdTy.slice Tryz.underlying29 (by kernel_rfl) rd95) (RdFs.cons (n := 1) (m := 3) rfl (RdTy.slice Tryz.underlying30 (by kernel_rfl) rd101) (RdFs.cons (n := 1) (m := 2) rfl (RdTy.slice Tryz.underlying31 (by kernel_rfl) rd104) (RdFs.cons (n := 1) (m := 1) rfl (RdTy.slice Tryz.underlying32 (by kernel_rfl) rd120) (RdFs.cons (n := 1) (m := 0) rfl (RdTy.int (k := .i64) Tryz.underlying3 (by kernel_rfl)) RdFs.nil)))))))))) (fun (x : Tm.Conf × Tm.Tree × (List Int) × (List Tm.Image) × (List Tm.Node) × (List Tm.Disk) × (List Tm.Packet) × (List Tm.Sent) × Int × Unit) => ⟨x.1, x.2.1, x.2.2.1, x.2.2.2.1, x.2.2.2.2.1, x.2.2.2.2.2.1, x.2.2.2.2.2.2.1, x.2.2.2.2.2.2.2.1, x.2.2.2.2.2.2.2.2.1⟩) (fun _ => rfl) (fun _ => rfl) (fun _ h => h)
theorem own : ownKnob Tryz.prog.godebug = none := by kernel_rfl
theorem laidOut : laidOutB Tryz.prog = true := by kernel_rfl
theorem law (x : Tm.World × Unit) (h : Tm.World.wf x.1 ∧ True) : laws_FnExactAllNew 1099511627776 x.1 = some true := Pu.AllNew_law x.1 h
theorem lifted (os : Os) (started : os.Started) (H : Type) (enc : TypeId × Value → H) :
    ReturnsInHanded {} Tryz.checked os 4 .any (Rows.fnExactAllNewSpec.pre6 enc Tryz.prog Tryz.f4 Rows.fnExactAllNewRow.domain false) (Rows.fnExactAllNewSpec.post enc Tryz.prog Tryz.f4 false true false false) := by
  refine returnsInHanded_of_change_sized (C := Tryz.checked) own started (by kernel_rfl) Tryz.func4
    (ChangeSpec.witness6 (enc := enc) (C := Tryz.checked) false ⟨#[], #[.agg #[.int .i64 0, .int .i64 0, .int .i64 0, .int .i64 0, .slice none 0 0, .slice none 0 0, .slice none 0 0, .slice none 0 0, .slice none 0 0, .slice none 0 0, .slice none 0 0, .int .i64 0]], []⟩ 8 (by kernel_rfl) (by kernel_rfl) (by kernel_rfl) (by kernel_rfl)) ?_
  intro W base args ds gs before hval0 hW hcnd hsz0 _
  have hval : ∀ (j : Nat) t v, Tryz.f4.params[j]? = some t → args[j]? = some v → Value.okWide Tryz.prog W .any base t v := hval0
  have hW1 := hW
  obtain ⟨p, q, hA0, hV, rfl, hfz, hnd⟩ := hW
  have hA : DataW.TrodAll enc Tryz.prog W 0 (fun _ => true) true Tryz.f4.params.toList args.toList ds p := hA0
  have hB := hA
  rw [Tryz.params4] at hA hval
  obtain ⟨rfl, rfl⟩ := trodVars_none hV
  have hA2 := hA
  obtain ⟨v0, vs0, d0, ds0, p0, q0, ha0, rfl, hp0, h0, r0⟩ := trodAll_cons hA2
  obtain ⟨_, rfl, _⟩ := trodAll_nil r0
  refine (row_calls (RdAll.cons (RdV.agg rd34 Tryz.underlying34) RdAll.nil) laidOut (by kernel_rfl) (fun (x : Tm.World × Unit) h => laws_FnExactAllNew_ok 1099511627776 x.1 true (law x h)) enc W base args _ p hA (fun j t v h1 h2 => hval j t v (by simpa using h1) h2)).mono fun e W2 hh => ?_
  obtain ⟨he, bel, hT⟩ := hh
  subst he
  exact ⟨_, rfl, _, _, _, [], _, [], hW1, trodAll_mk1 (shut_bool Tryz.underlying4 _), hT, rfl, bel.frame _, fun h => by cases h⟩
theorem over : Rows.fnExactAllNewRow.holds Tryz.pinned (OpenSpec.ofChange Rows.fnExactAllNewSpec) :=
  OpenClaim.holds_of_wide 4 Tryz.f4 rfl rfl rfl rfl rfl rfl rfl ⟨rfl, rfl, rfl, rfl, rfl⟩ rfl rfl rfl rfl rfl (by kernel_rfl) Tryz.func4 (by kernel_rfl)
    (of_decide_eq_true (by kernel_rfl)) (by unfold Func.isWrapper; first | (rw [if_pos (by decide +kernel)]; kernel_rfl) | (rw [if_neg (by decide +kernel)]; exact ⟨rfl, rfl⟩))
    (fun os started H enc _ => lifted os started H enc)
theorem proved : Rows.FnExactAllNewSaid := over
#print axioms proved
end Go.Proofs.YtpjnojikkfoekaaGreat.fnExactAllNew
namespace Go.Proofs.YtpjnojikkfoekaaGreat
theorem fnExactAllNew_holds : Rows.FnExactAllNewSaid := fnExactAllNew.proved
end Go.Proofs.YtpjnojikkfoekaaGreat
