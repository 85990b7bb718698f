/- The law FnExactSameBut holds for every input, as its row says; under no condition. -/
import Derived.Test.YtpjnojikkfoekaaCSameButK3
import Derived.Test.YtpjnojikkfoekaaCSameButP1
import Derived.Test.YtpjnojikkfoekaaRows
import Derived.WalkKit
import Derived.ProofKit
import Derived.OpenShut
import Derived.ShutString
import Derived.ChangeOld
import Derived.Below
import Derived.SizedLaws
import Derived.Test.YtpjnojikkfoekaaTm35
set_option maxRecDepth 100000
set_option linter.unusedVariables false
set_option linter.unusedSimpArgs false
namespace Go.Proofs.Ytpjnojikkfoekaa.fnExactSameBut
open Go.Tm Go.RowKit Go.ChangeShapes Go.WideShapes Go.ChangeAt Go.ChangeMaps
theorem rd37 : RdTy Try.prog 37 4 Tm.Conf.wf Tm.Conf.enc := RdTy.map (RdTy.struct Try.underlying37 (by kernel_rfl) (RdFs.cons (n := 1) (m := 3) rfl (RdTy.int (k := .i64) Try.underlying3 (by kernel_rfl)) (RdFs.cons (n := 1) (m := 2) rfl (RdTy.int (k := .i64) Try.underlying3 (by kernel_rfl)) (RdFs.cons (n := 1) (m := 1) rfl (RdTy.int (k := .i64) Try.underlying3 (by kernel_rfl)) (RdFs.cons (n := 1) (m := 0) rfl (RdTy.int (k := .i64) Try.underlying3 (by kernel_rfl)) RdFs.nil))))) (fun (x : Int × Int × Int × Int × Unit) => ⟨x.1, x.2.1, x.2.2.1, x.2.2.2.1⟩) (fun _ => rfl) (fun _ => rfl) (fun _ h => h)
theorem rd40 : RdTy Try.prog 40 1 Tm.Tree.wf Tm.Tree.enc := RdTy.map (RdTy.struct Try.underlying40 (by kernel_rfl) (RdFs.cons (n := 1) (m := 0) rfl (RdTy.slice Try.underlying38 (by kernel_rfl) (RdTy.int (k := .i64) Try.underlying3 (by kernel_rfl))) RdFs.nil)) (fun (x : (List Int) × Unit) => ⟨x.1⟩) (fun _ => rfl) (fun _ => rfl) (fun _ h => h)
theorem rd70 : RdTy Try.prog 70 1 Tm.Image.wf Tm.Image.enc := RdTy.map (RdTy.struct Try.underlying70 (by kernel_rfl) (RdFs.cons (n := 1) (m := 0) rfl (RdTy.slice Try.underlying22 (by kernel_rfl) (RdTy.int (k := .u8) Try.underlying5 (by kernel_rfl))) RdFs.nil)) (fun (x : (List Int) × Unit) => ⟨x.1⟩) (fun _ => rfl) (fun _ => rfl) (fun _ h => h)
theorem rd208 : RdTy Try.prog 208 2 Tm.Sum.wf Tm.Sum.enc := RdTy.map (RdTy.struct Try.underlying208 (by kernel_rfl) (RdFs.cons (n := 1) (m := 1) rfl (RdTy.int (k := .i64) Try.underlying3 (by kernel_rfl)) (RdFs.cons (n := 1) (m := 0) rfl (RdTy.int (k := .i64) Try.underlying3 (by kernel_rfl)) RdFs.nil))) (fun (x : Int × Int × Unit) => ⟨x.1, x.2.1⟩) (fun _ => rfl) (fun _ => rfl) (fun _ h => h)
theorem rd130 : RdTy Try.prog 130 4 Tm.Manifest.wf Tm.Manifest.enc := RdTy.map (RdTy.struct Try.underlying130 (by kernel_rfl) (RdFs.cons (n := 1) (m := 3) rfl (RdTy.int (k := .i64) Try.underlying3 (by kernel_rfl)) (RdFs.cons (n := 1) (m := 2) rfl (RdTy.int (k := .i64) Try.underlying3 (by kernel_rfl)) (RdFs.cons (n := 1) (m := 1) rfl (RdTy.int (k := .i64) Try.underlying3 (by kernel_rfl)) (RdFs.cons (n := 1) (m := 0) rfl (RdTy.slice Try.underlying128 (by kernel_rfl) rd208) RdFs.nil))))) (fun (x : Int × Int × Int × (List Tm.Sum) × Unit) => ⟨x.1, x.2.1, x.2.2.1, x.2.2.2.1⟩) (fun _ => rfl) (fun _ => rfl) (fun _ h => h)
theorem rd131 : RdTy Try.prog 131 2 Tm.Build.wf Tm.Build.enc := RdTy.map (RdTy.struct Try.underlying131 (by kernel_rfl) (RdFs.cons (n := 1) (m := 1) rfl (RdTy.int (k := .i64) Try.underlying3 (by kernel_rfl)) (RdFs.cons (n := 1) (m := 0) rfl (RdTy.slice Try.underlying22 (by kernel_rfl) (RdTy.int (k := .u8) Try.underlying5 (by kernel_rfl))) RdFs.nil))) (fun (x : Int × (List Int) × Unit) => ⟨x.1, x.2.1⟩) (fun _ => rfl) (fun _ => rfl) (fun _ h => h)
theorem rd199 : RdTy Try.prog 199 5 Tm.Kid.wf Tm.Kid.enc := RdTy.map (RdTy.struct Try.underlying199 (by kernel_rfl) (RdFs.cons (n := 1) (m := 4) rfl (RdTy.int (k := .i64) Try.underlying3 (by kernel_rfl)) (RdFs.cons (n := 1) (m := 3) rfl (RdTy.int (k := .i64) Try.underlying3 (by kernel_rfl)) (RdFs.cons (n := 1) (m := 2) rfl (RdTy.int (k := .i64) Try.underlying3 (by kernel_rfl)) (RdFs.cons (n := 1) (m := 1) rfl (RdTy.int (k := .i64) Try.underlying3 (by kernel_rfl)) (RdFs.cons (n := 1) (m := 0) rfl (RdTy.int (k := .i64) Try.underlying3 (by kernel_rfl)) RdFs.nil)))))) (fun (x : Int × Int × Int × Int × Int × Unit) => ⟨x.1, x.2.1, x.2.2.1, x.2.2.2.1, x.2.2.2.2.1⟩) (fun _ => rfl) (fun _ => rfl) (fun _ h => h)
theorem rd134 : RdTy Try.prog 134 12 Tm.Node.wf Tm.Node.enc := RdTy.map (RdTy.struct Try.underlying134 (by kernel_rfl) (RdFs.cons (n := 1) (m := 11) rfl (RdTy.bool Try.underlying4 (by kernel_rfl)) (RdFs.cons (n := 1) (m := 10) rfl (RdTy.int (k := .i64) Try.underlying3 (by kernel_rfl)) (RdFs.cons (n := 1) (m := 9) rfl (RdTy.int (k := .i64) Try.underlying3 (by kernel_rfl)) (RdFs.cons (n := 4) (m := 5) rfl rd130 (RdFs.cons (n := 2) (m := 3) rfl rd131 (RdFs.cons (n := 1) (m := 2) rfl (RdTy.int (k := .i64) Try.underlying3 (by kernel_rfl)) (RdFs.cons (n := 1) (m := 1) rfl (RdTy.slice Try.underlying132 (by kernel_rfl) rd199) (RdFs.cons (n := 1) (m := 0) rfl (RdTy.int (k := .i64) Try.underlying3 (by kernel_rfl)) RdFs.nil))))))))) (fun (x : Bool × Int × Int × Tm.Manifest × Tm.Build × Int × (List Tm.Kid) × Int × Unit) => ⟨x.1, x.2.1, x.2.2.1, x.2.2.2.1, x.2.2.2.2.1, x.2.2.2.2.2.1, x.2.2.2.2.2.2.1, x.2.2.2.2.2.2.2.1⟩) (fun _ => rfl) (fun _ => rfl) (fun _ h => h)
theorem rd136 : RdTy Try.prog 136 3 Tm.Record.wf Tm.Record.enc := RdTy.map (RdTy.struct Try.underlying136 (by kernel_rfl) (RdFs.cons (n := 1) (m := 2) rfl (RdTy.int (k := .i64) Try.underlying3 (by kernel_rfl)) (RdFs.cons (n := 1) (m := 1) rfl (RdTy.int (k := .i64) Try.underlying3 (by kernel_rfl)) (RdFs.cons (n := 1) (m := 0) rfl (RdTy.int (k := .i64) Try.underlying3 (by kernel_rfl)) RdFs.nil)))) (fun (x : Int × Int × Int × Unit) => ⟨x.1, x.2.1, x.2.2.1⟩) (fun _ => rfl) (fun _ => rfl) (fun _ h => h)
theorem rd196 : RdTy Try.prog 196 6 Tm.Put.wf Tm.Put.enc := RdTy.map (RdTy.struct Try.underlying196 (by kernel_rfl) (RdFs.cons (n := 1) (m := 5) rfl (RdTy.int (k := .i64) Try.underlying3 (by kernel_rfl)) (RdFs.cons (n := 1) (m := 4) rfl (RdTy.int (k := .i64) Try.underlying3 (by kernel_rfl)) (RdFs.cons (n := 1) (m := 3) rfl (RdTy.slice Try.underlying22 (by kernel_rfl) (RdTy.int (k := .u8) Try.underlying5 (by kernel_rfl))) (RdFs.cons (n := 3) (m := 0) rfl rd136 RdFs.nil))))) (fun (x : Int × Int × (List Int) × Tm.Record × Unit) => ⟨x.1, x.2.1, x.2.2.1, x.2.2.2.1⟩) (fun _ => rfl) (fun _ => rfl) (fun _ h => h)
theorem rd139 : RdTy Try.prog 139 6 Tm.Disk.wf Tm.Disk.enc := RdTy.map (RdTy.struct Try.underlying139 (by kernel_rfl) (RdFs.cons (n := 1) (m := 5) rfl (RdTy.slice Try.underlying22 (by kernel_rfl) (RdTy.int (k := .u8) Try.underlying5 (by kernel_rfl))) (RdFs.cons (n := 1) (m := 4) rfl (RdTy.slice Try.underlying22 (by kernel_rfl) (RdTy.int (k := .u8) Try.underlying5 (by kernel_rfl))) (RdFs.cons (n := 3) (m := 1) rfl rd136 (RdFs.cons (n := 1) (m := 0) rfl (RdTy.slice Try.underlying137 (by kernel_rfl) rd196) RdFs.nil))))) (fun (x : (List Int) × (List Int) × Tm.Record × (List Tm.Put) × Unit) => ⟨x.1, x.2.1, x.2.2.1, x.2.2.2.1⟩) (fun _ => rfl) (fun _ => rfl) (fun _ h => h)
theorem rd142 : RdTy Try.prog 142 3 Tm.Packet.wf Tm.Packet.enc := RdTy.map (RdTy.struct Try.underlying142 (by kernel_rfl) (RdFs.cons (n := 1) (m := 2) rfl (RdTy.int (k := .i64) Try.underlying3 (by kernel_rfl)) (RdFs.cons (n := 1) (m := 1) rfl (RdTy.int (k := .i64) Try.underlying3 (by kernel_rfl)) (RdFs.cons (n := 1) (m := 0) rfl (RdTy.slice Try.underlying22 (by kernel_rfl) (RdTy.int (k := .u8) Try.underlying5 (by kernel_rfl))) RdFs.nil)))) (fun (x : Int × Int × (List Int) × Unit) => ⟨x.1, x.2.1, x.2.2.1⟩) (fun _ => rfl) (fun _ => rfl) (fun _ h => h)
theorem rd149 : RdTy Try.prog 149 3 Tm.Sent.wf Tm.Sent.enc := RdTy.map (RdTy.struct Try.underlying149 (by kernel_rfl) (RdFs.cons (n := 1) (m := 2) rfl (RdTy.int (k := .i64) Try.underlying3 (by kernel_rfl)) (RdFs.cons (n := 1) (m := 1) rfl (RdTy.int (k := .i64) Try.underlying3 (by kernel_rfl)) (RdFs.cons (n := 1) (m := 0) rfl (RdTy.int (k := .i64) Try.underlying3 (by kernel_rfl)) RdFs.nil)))) (fun (x : Int × Int × Int × Unit) => ⟨x.1, x.2.1, x.2.2.1⟩) (fun _ => rfl) (fun _ => rfl) (fun _ h => h)
theorem rd46 : RdTy Try.prog 46 12 Tm.World.wf Tm.World.enc := RdTy.map (RdTy.struct Try.underlying46 (by kernel_rfl) (RdFs.cons (n := 4) (m := 8) rfl rd37 (RdFs.cons (n := 1) (m := 7) rfl rd40 (RdFs.cons (n := 1) (m := 6) rfl (RdTy.slice Try.underlying22 (by kernel_rfl) (RdTy.int (k := .u8) Try.underlying5 (by kernel_rfl))) (RdFs.cons (n := 1) (m := 5) rfl (RdTy.slice Try.underlying27 (by kernel_rfl) rd70) (RdFs.cons (n := 1) (m := 4) rfl (RdTy.slice Try.underlying41 (by kernel_rfl) rd134) (RdFs.cons (n := 1) (m := 3) rfl (RdTy.slice Try.underlying42 (by kernel_rfl) rd139) (RdFs.cons (n := 1) (m := 2) rfl (RdTy.slice Try.underlying43 (by kernel_rfl) rd142) (RdFs.cons (n := 1) (m := 1) rfl (RdTy.slice Try.underlying44 (by kernel_rfl) rd149) (RdFs.cons (n := 1) (m := 0) rfl (RdTy.int (k := .i64) Try.underlying3 (by kernel_rfl)) RdFs.nil)))))))))) (fun (x : Tm.Conf × Tm.Tree × (List Int) × (List Tm.Image) × (List Tm.Node) × (List Tm.Disk) × (List Tm.Packet) × (List Tm.Sent) × Int × Unit) => ⟨x.1, x.2.1, x.2.2.1, x.2.2.2.1, x.2.2.2.2.1, x.2.2.2.2.2.1, x.2.2.2.2.2.2.1, x.2.2.2.2.2.2.2.1, x.2.2.2.2.2.2.2.2.1⟩) (fun _ => rfl) (fun _ => rfl) (fun _ h => h)
theorem own : ownKnob Try.prog.godebug = none := by kernel_rfl
theorem laidOut : laidOutB Try.prog = true := by kernel_rfl
theorem law (x : Tm.World × Tm.World × Unit) (h : Tm.World.wf x.1 ∧ Tm.World.wf x.2.1 ∧ True) : laws_FnExactSameBut 1099511627776 x.1 x.2.1 = some true := Pu.SameBut_law x.1 x.2.1 h
theorem lifted (os : Os) (started : os.Started) (H : Type) (enc : TypeId × Value → H) :
    ReturnsInHanded {} Try.checked os 12 .any (Rows.fnExactSameButSpec.pre6 enc Try.prog Try.f12 Rows.fnExactSameButRow.domain false) (Rows.fnExactSameButSpec.post enc Try.prog Try.f12 false true false false) := by
  refine returnsInHanded_of_change_sized (C := Try.checked) own started (by kernel_rfl) Try.func12
    (ChangeSpec.witness6 (enc := enc) (C := Try.checked) false ⟨#[], #[.agg #[.int .i64 0, .int .i64 0, .int .i64 0, .int .i64 0, .slice none 0 0, .slice none 0 0, .slice none 0 0, .slice none 0 0, .slice none 0 0, .slice none 0 0, .slice none 0 0, .int .i64 0], .agg #[.int .i64 0, .int .i64 0, .int .i64 0, .int .i64 0, .slice none 0 0, .slice none 0 0, .slice none 0 0, .slice none 0 0, .slice none 0 0, .slice none 0 0, .slice none 0 0, .int .i64 0]], []⟩ 8 (by kernel_rfl) (by kernel_rfl) (by kernel_rfl) (by kernel_rfl)) ?_
  intro W base args ds gs before hval0 hW hcnd hsz0 _
  have hval : ∀ (j : Nat) t v, Try.f12.params[j]? = some t → args[j]? = some v → Value.okWide Try.prog W .any base t v := hval0
  have hW1 := hW
  obtain ⟨p, q, hA0, hV, rfl, hfz, hnd⟩ := hW
  have hA : DataW.TrodAll enc Try.prog W 0 (fun _ => true) true Try.f12.params.toList args.toList ds p := hA0
  have hB := hA
  rw [Try.params12] at hA hval
  obtain ⟨rfl, rfl⟩ := trodVars_none hV
  have hA2 := hA
  obtain ⟨v0, vs0, d0, ds0, p0, q0, ha0, rfl, hp0, h0, r0⟩ := trodAll_cons hA2
  obtain ⟨v1, vs1, d1, ds1, p1, q1, ha1, rfl, hp1, h1, r1⟩ := trodAll_cons r0
  obtain ⟨_, rfl, _⟩ := trodAll_nil r1
  refine (row_calls (RdAll.cons (RdV.agg rd46 Try.underlying46) (RdAll.cons (RdV.agg rd46 Try.underlying46) RdAll.nil)) laidOut (by kernel_rfl) (fun (x : Tm.World × Tm.World × Unit) h => laws_FnExactSameBut_ok 1099511627776 x.1 x.2.1 true (law x h)) enc W base args _ p hA (fun j t v h1 h2 => hval j t v (by simpa using h1) h2)).mono fun e W2 hh => ?_
  obtain ⟨he, bel, hT⟩ := hh
  subst he
  exact ⟨_, rfl, _, _, _, [], _, [], hW1, trodAll_mk1 (shut_bool Try.underlying4 _), hT, rfl, bel.frame _, fun h => by cases h⟩
theorem over : Rows.fnExactSameButRow.holds Try.pinned (OpenSpec.ofChange Rows.fnExactSameButSpec) :=
  OpenClaim.holds_of_wide 12 Try.f12 rfl rfl rfl rfl rfl rfl rfl ⟨rfl, rfl, rfl, rfl, rfl⟩ rfl rfl rfl rfl rfl (by kernel_rfl) Try.func12 (by kernel_rfl)
    (of_decide_eq_true (by kernel_rfl)) (by unfold Func.isWrapper; first | (rw [if_pos (by decide +kernel)]; kernel_rfl) | (rw [if_neg (by decide +kernel)]; exact ⟨rfl, rfl⟩))
    (fun os started H enc _ => lifted os started H enc)
theorem proved : Rows.FnExactSameButSaid := over
#print axioms proved
end Go.Proofs.Ytpjnojikkfoekaa.fnExactSameBut
namespace Go.Proofs.Ytpjnojikkfoekaa
theorem fnExactSameBut_holds : Rows.FnExactSameButSaid := fnExactSameBut.proved
end Go.Proofs.Ytpjnojikkfoekaa
