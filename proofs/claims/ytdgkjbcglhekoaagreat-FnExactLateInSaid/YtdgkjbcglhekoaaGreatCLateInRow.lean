/- The law FnExactLateIn holds for every input, as its row says; under no condition. -/
import Derived.Test.YtdgkjbcglhekoaaGreatCLateInK2
import Derived.Test.YtdgkjbcglhekoaaGreatCLateInP1
import Derived.Test.YtdgkjbcglhekoaaGreatRows
import Derived.WalkKit
import Derived.ProofKit
import Derived.OpenShut
import Derived.ShutString
import Derived.ChangeOld
import Derived.Below
import Derived.SizedLaws
import Derived.Test.YtdgkjbcglhekoaaGreatTm43
set_option maxRecDepth 100000
set_option linter.unusedVariables false
set_option linter.unusedSimpArgs false
namespace Go.Proofs.YtdgkjbcglhekoaaGreat.fnExactLateIn
open Go.Tm Go.RowKit Go.ChangeShapes Go.WideShapes Go.ChangeAt Go.ChangeMaps
theorem rd23 : RdTy Tryz.prog 23 4 Tm.Conf.wf Tm.Conf.enc := RdTy.map (RdTy.struct Tryz.underlying23 (by kernel_rfl) (RdFs.cons (n := 1) (m := 3) rfl (RdTy.int (k := .i64) Tryz.underlying3 (by kernel_rfl)) (RdFs.cons (n := 1) (m := 2) rfl (RdTy.int (k := .i64) Tryz.underlying3 (by kernel_rfl)) (RdFs.cons (n := 1) (m := 1) rfl (RdTy.int (k := .i64) Tryz.underlying3 (by kernel_rfl)) (RdFs.cons (n := 1) (m := 0) rfl (RdTy.int (k := .i64) Tryz.underlying3 (by kernel_rfl)) RdFs.nil))))) (fun (x : Int × Int × Int × Int × Unit) => ⟨x.1, x.2.1, x.2.2.1, x.2.2.2.1⟩) (fun _ => rfl) (fun _ => rfl) (fun _ h => h)
theorem rd26 : RdTy Tryz.prog 26 1 Tm.Tree.wf Tm.Tree.enc := RdTy.map (RdTy.struct Tryz.underlying26 (by kernel_rfl) (RdFs.cons (n := 1) (m := 0) rfl (RdTy.slice Tryz.underlying24 (by kernel_rfl) (RdTy.int (k := .i64) Tryz.underlying3 (by kernel_rfl))) RdFs.nil)) (fun (x : (List Int) × Unit) => ⟨x.1⟩) (fun _ => rfl) (fun _ => rfl) (fun _ h => h)
theorem rd113 : RdTy Tryz.prog 113 1 Tm.Image.wf Tm.Image.enc := RdTy.map (RdTy.struct Tryz.underlying113 (by kernel_rfl) (RdFs.cons (n := 1) (m := 0) rfl (RdTy.slice Tryz.underlying27 (by kernel_rfl) (RdTy.int (k := .u8) Tryz.underlying5 (by kernel_rfl))) RdFs.nil)) (fun (x : (List Int) × Unit) => ⟨x.1⟩) (fun _ => rfl) (fun _ => rfl) (fun _ h => h)
theorem rd212 : RdTy Tryz.prog 212 2 Tm.Sum.wf Tm.Sum.enc := RdTy.map (RdTy.struct Tryz.underlying212 (by kernel_rfl) (RdFs.cons (n := 1) (m := 1) rfl (RdTy.int (k := .i64) Tryz.underlying3 (by kernel_rfl)) (RdFs.cons (n := 1) (m := 0) rfl (RdTy.int (k := .i64) Tryz.underlying3 (by kernel_rfl)) RdFs.nil))) (fun (x : Int × Int × Unit) => ⟨x.1, x.2.1⟩) (fun _ => rfl) (fun _ => rfl) (fun _ h => h)
theorem rd117 : RdTy Tryz.prog 117 4 Tm.Manifest.wf Tm.Manifest.enc := RdTy.map (RdTy.struct Tryz.underlying117 (by kernel_rfl) (RdFs.cons (n := 1) (m := 3) rfl (RdTy.int (k := .i64) Tryz.underlying3 (by kernel_rfl)) (RdFs.cons (n := 1) (m := 2) rfl (RdTy.int (k := .i64) Tryz.underlying3 (by kernel_rfl)) (RdFs.cons (n := 1) (m := 1) rfl (RdTy.int (k := .i64) Tryz.underlying3 (by kernel_rfl)) (RdFs.cons (n := 1) (m := 0) rfl (RdTy.slice Tryz.underlying115 (by kernel_rfl) rd212) RdFs.nil))))) (fun (x : Int × Int × Int × (List Tm.Sum) × Unit) => ⟨x.1, x.2.1, x.2.2.1, x.2.2.2.1⟩) (fun _ => rfl) (fun _ => rfl) (fun _ h => h)
theorem rd118 : RdTy Tryz.prog 118 2 Tm.Build.wf Tm.Build.enc := RdTy.map (RdTy.struct Tryz.underlying118 (by kernel_rfl) (RdFs.cons (n := 1) (m := 1) rfl (RdTy.int (k := .i64) Tryz.underlying3 (by kernel_rfl)) (RdFs.cons (n := 1) (m := 0) rfl (RdTy.slice Tryz.underlying27 (by kernel_rfl) (RdTy.int (k := .u8) Tryz.underlying5 (by kernel_rfl))) RdFs.nil))) (fun (x : Int × (List Int) × Unit) => ⟨x.1, x.2.1⟩) (fun _ => rfl) (fun _ => rfl) (fun _ h => h)
theorem rd196 : RdTy Tryz.prog 196 5 Tm.Kid.wf Tm.Kid.enc := RdTy.map (RdTy.struct Tryz.underlying196 (by kernel_rfl) (RdFs.cons (n := 1) (m := 4) rfl (RdTy.int (k := .i64) Tryz.underlying3 (by kernel_rfl)) (RdFs.cons (n := 1) (m := 3) rfl (RdTy.int (k := .i64) Tryz.underlying3 (by kernel_rfl)) (RdFs.cons (n := 1) (m := 2) rfl (RdTy.int (k := .i64) Tryz.underlying3 (by kernel_rfl)) (RdFs.cons (n := 1) (m := 1) rfl (RdTy.int (k := .i64) Tryz.underlying3 (by kernel_rfl)) (RdFs.cons (n := 1) (m := 0) rfl (RdTy.int (k := .i64) Tryz.underlying3 (by kernel_rfl)) RdFs.nil)))))) (fun (x : Int × Int × Int × Int × Int × Unit) => ⟨x.1, x.2.1, x.2.2.1, x.2.2.2.1, x.2.2.2.2.1⟩) (fun _ => rfl) (fun _ => rfl) (fun _ h => h)
theorem rd121 : RdTy Tryz.prog 121 12 Tm.Node.wf Tm.Node.enc := RdTy.map (RdTy.struct Tryz.underlying121 (by kernel_rfl) (RdFs.cons (n := 1) (m := 11) rfl (RdTy.bool Tryz.underlying4 (by kernel_rfl)) (RdFs.cons (n := 1) (m := 10) rfl (RdTy.int (k := .i64) Tryz.underlying3 (by kernel_rfl)) (RdFs.cons (n := 1) (m := 9) rfl (RdTy.int (k := .i64) Tryz.underlying3 (by kernel_rfl)) (RdFs.cons (n := 4) (m := 5) rfl rd117 (RdFs.cons (n := 2) (m := 3) rfl rd118 (RdFs.cons (n := 1) (m := 2) rfl (RdTy.int (k := .i64) Tryz.underlying3 (by kernel_rfl)) (RdFs.cons (n := 1) (m := 1) rfl (RdTy.slice Tryz.underlying119 (by kernel_rfl) rd196) (RdFs.cons (n := 1) (m := 0) rfl (RdTy.int (k := .i64) Tryz.underlying3 (by kernel_rfl)) RdFs.nil))))))))) (fun (x : Bool × Int × Int × Tm.Manifest × Tm.Build × Int × (List Tm.Kid) × Int × Unit) => ⟨x.1, x.2.1, x.2.2.1, x.2.2.2.1, x.2.2.2.2.1, x.2.2.2.2.2.1, x.2.2.2.2.2.2.1, x.2.2.2.2.2.2.2.1⟩) (fun _ => rfl) (fun _ => rfl) (fun _ h => h)
theorem rd123 : RdTy Tryz.prog 123 3 Tm.Record.wf Tm.Record.enc := RdTy.map (RdTy.struct Tryz.underlying123 (by kernel_rfl) (RdFs.cons (n := 1) (m := 2) rfl (RdTy.int (k := .i64) Tryz.underlying3 (by kernel_rfl)) (RdFs.cons (n := 1) (m := 1) rfl (RdTy.int (k := .i64) Tryz.underlying3 (by kernel_rfl)) (RdFs.cons (n := 1) (m := 0) rfl (RdTy.int (k := .i64) Tryz.underlying3 (by kernel_rfl)) RdFs.nil)))) (fun (x : Int × Int × Int × Unit) => ⟨x.1, x.2.1, x.2.2.1⟩) (fun _ => rfl) (fun _ => rfl) (fun _ h => h)
theorem rd193 : RdTy Tryz.prog 193 6 Tm.Put.wf Tm.Put.enc := RdTy.map (RdTy.struct Tryz.underlying193 (by kernel_rfl) (RdFs.cons (n := 1) (m := 5) rfl (RdTy.int (k := .i64) Tryz.underlying3 (by kernel_rfl)) (RdFs.cons (n := 1) (m := 4) rfl (RdTy.int (k := .i64) Tryz.underlying3 (by kernel_rfl)) (RdFs.cons (n := 1) (m := 3) rfl (RdTy.slice Tryz.underlying27 (by kernel_rfl) (RdTy.int (k := .u8) Tryz.underlying5 (by kernel_rfl))) (RdFs.cons (n := 3) (m := 0) rfl rd123 RdFs.nil))))) (fun (x : Int × Int × (List Int) × Tm.Record × Unit) => ⟨x.1, x.2.1, x.2.2.1, x.2.2.2.1⟩) (fun _ => rfl) (fun _ => rfl) (fun _ h => h)
theorem rd126 : RdTy Tryz.prog 126 6 Tm.Disk.wf Tm.Disk.enc := RdTy.map (RdTy.struct Tryz.underlying126 (by kernel_rfl) (RdFs.cons (n := 1) (m := 5) rfl (RdTy.slice Tryz.underlying27 (by kernel_rfl) (RdTy.int (k := .u8) Tryz.underlying5 (by kernel_rfl))) (RdFs.cons (n := 1) (m := 4) rfl (RdTy.slice Tryz.underlying27 (by kernel_rfl) (RdTy.int (k := .u8) Tryz.underlying5 (by kernel_rfl))) (RdFs.cons (n := 3) (m := 1) rfl rd123 (RdFs.cons (n := 1) (m := 0) rfl (RdTy.slice Tryz.underlying124 (by kernel_rfl) rd193) RdFs.nil))))) (fun (x : (List Int) × (List Int) × Tm.Record × (List Tm.Put) × Unit) => ⟨x.1, x.2.1, x.2.2.1, x.2.2.2.1⟩) (fun _ => rfl) (fun _ => rfl) (fun _ h => h)
theorem rd129 : RdTy Tryz.prog 129 3 Tm.Packet.wf Tm.Packet.enc := RdTy.map (RdTy.struct Tryz.underlying129 (by kernel_rfl) (RdFs.cons (n := 1) (m := 2) rfl (RdTy.int (k := .i64) Tryz.underlying3 (by kernel_rfl)) (RdFs.cons (n := 1) (m := 1) rfl (RdTy.int (k := .i64) Tryz.underlying3 (by kernel_rfl)) (RdFs.cons (n := 1) (m := 0) rfl (RdTy.slice Tryz.underlying27 (by kernel_rfl) (RdTy.int (k := .u8) Tryz.underlying5 (by kernel_rfl))) RdFs.nil)))) (fun (x : Int × Int × (List Int) × Unit) => ⟨x.1, x.2.1, x.2.2.1⟩) (fun _ => rfl) (fun _ => rfl) (fun _ h => h)
theorem rd139 : RdTy Tryz.prog 139 3 Tm.Sent.wf Tm.Sent.enc := RdTy.map (RdTy.struct Tryz.underlying139 (by kernel_rfl) (RdFs.cons (n := 1) (m := 2) rfl (RdTy.int (k := .i64) Tryz.underlying3 (by kernel_rfl)) (RdFs.cons (n := 1) (m := 1) rfl (RdTy.int (k := .i64) Tryz.underlying3 (by kernel_rfl)) (RdFs.cons (n := 1) (m := 0) rfl (RdTy.int (k := .i64) Tryz.underlying3 (by kernel_rfl)) RdFs.nil)))) (fun (x : Int × Int × Int × Unit) => ⟨x.1, x.2.1, x.2.2.1⟩) (fun _ => rfl) (fun _ => rfl) (fun _ h => h)
theorem rd34 : RdTy Tryz.prog 34 12 Tm.World.wf Tm.World.enc := RdTy.map (RdTy.struct Tryz.underlying34 (by kernel_rfl) (RdFs.cons (n := 4) (m := 8) rfl rd23 (RdFs.cons (n := 1) (m := 7) rfl rd26 (RdFs.cons (n := 1) (m := 6) rfl (RdTy.slice Tryz.underlying27 (by kernel_rfl) (RdTy.int (k := .u8) Tryz.underlying5 (by kernel_rfl))) (RdFs.cons (n := 1) (m := 5) rfl (RdTy.slice Tryz.underlying28 (by kernel_rfl) rd113) (RdFs.cons (n := 1) (m := 4) rfl (RdTy.slice Tryz.underlying29 (by kernel_rfl) rd121) (RdFs.cons (n := 1) (m := 3) rfl (RdTy.slice Tryz.underlying30 (by kernel_rfl) rd126) (RdFs.cons (n := 1) (m := 2) rfl (RdTy.slice Tryz.underlying31 (by kernel_rfl) rd129) (RdFs.cons (n := 1) (m := 1) rfl (RdTy.slice Tryz.underlying32 (by kernel_rfl) rd139) (RdFs.cons (n := 1) (m := 0) rfl (RdTy.int (k := .i64) Tryz.underlying3 (by kernel_rfl)) RdFs.nil)))))))))) (fun (x : Tm.Conf × Tm.Tree × (List Int) × (List Tm.Image) × (List Tm.Node) × (List Tm.Disk) × (List Tm.Packet) × (List Tm.Sent) × Int × Unit) => ⟨x.1, x.2.1, x.2.2.1, x.2.2.2.1, x.2.2.2.2.1, x.2.2.2.2.2.1, x.2.2.2.2.2.2.1, x.2.2.2.2.2.2.2.1, x.2.2.2.2.2.2.2.2.1⟩) (fun _ => rfl) (fun _ => rfl) (fun _ h => h)
theorem own : ownKnob Tryz.prog.godebug = none := by kernel_rfl
theorem laidOut : laidOutB Tryz.prog = true := by kernel_rfl
theorem law (x : Tm.World × Unit) (h : Tm.World.wf x.1 ∧ True) : laws_FnExactLateIn 1099511627776 x.1 = some true := Pu.LateIn_law x.1 h
theorem lifted (os : Os) (started : os.Started) (H : Type) (enc : TypeId × Value → H) :
    ReturnsInHanded {} Tryz.checked os 10 .any (Rows.fnExactLateInSpec.pre6 enc Tryz.prog Tryz.f10 Rows.fnExactLateInRow.domain false) (Rows.fnExactLateInSpec.post enc Tryz.prog Tryz.f10 false true false false) := by
  refine returnsInHanded_of_change_sized (C := Tryz.checked) own started (by kernel_rfl) Tryz.func10
    (ChangeSpec.witness6 (enc := enc) (C := Tryz.checked) false ⟨#[], #[.agg #[.int .i64 0, .int .i64 0, .int .i64 0, .int .i64 0, .slice none 0 0, .slice none 0 0, .slice none 0 0, .slice none 0 0, .slice none 0 0, .slice none 0 0, .slice none 0 0, .int .i64 0]], []⟩ 8 (by kernel_rfl) (by kernel_rfl) (by kernel_rfl) (by kernel_rfl)) ?_
  intro W base args ds gs before hval0 hW hcnd hsz0 _
  have hval : ∀ (j : Nat) t v, Tryz.f10.params[j]? = some t → args[j]? = some v → Value.okWide Tryz.prog W .any base t v := hval0
  have hW1 := hW
  obtain ⟨p, q, hA0, hV, rfl, hfz, hnd⟩ := hW
  have hA : DataW.TrodAll enc Tryz.prog W 0 (fun _ => true) true Tryz.f10.params.toList args.toList ds p := hA0
  have hB := hA
  rw [Tryz.params10] at hA hval
  obtain ⟨rfl, rfl⟩ := trodVars_none hV
  have hA2 := hA
  obtain ⟨v0, vs0, d0, ds0, p0, q0, ha0, rfl, hp0, h0, r0⟩ := trodAll_cons hA2
  obtain ⟨_, rfl, _⟩ := trodAll_nil r0
  refine (row_calls (RdAll.cons (RdV.agg rd34 Tryz.underlying34) RdAll.nil) laidOut (by kernel_rfl) (fun (x : Tm.World × Unit) h => (laws_FnExactLateIn_okd 1099511627776 x.1 true (law x h)).call (by rfl)) enc W base args _ p hA (fun j t v h1 h2 => hval j t v (by simpa using h1) h2)).mono fun e W2 hh => ?_
  obtain ⟨he, bel, hT⟩ := hh
  subst he
  exact ⟨_, rfl, _, _, _, [], _, [], hW1, trodAll_mk1 (shut_bool Tryz.underlying4 _), hT, rfl, bel.frame _, fun h => by cases h⟩
theorem over : Rows.fnExactLateInRow.holds Tryz.pinned (OpenSpec.ofChange Rows.fnExactLateInSpec) :=
  OpenClaim.holds_of_wide 10 Tryz.f10 rfl rfl rfl rfl rfl rfl rfl ⟨rfl, rfl, rfl, rfl, rfl⟩ rfl rfl rfl rfl rfl (by kernel_rfl) Tryz.func10 (by kernel_rfl)
    (of_decide_eq_true (by kernel_rfl)) (by unfold Func.isWrapper; first | (rw [if_pos (by decide +kernel)]; kernel_rfl) | (rw [if_neg (by decide +kernel)]; exact ⟨rfl, rfl⟩))
    (fun os started H enc _ => lifted os started H enc)
theorem proved : Rows.FnExactLateInSaid := over
#print axioms proved
end Go.Proofs.YtdgkjbcglhekoaaGreat.fnExactLateIn
namespace Go.Proofs.YtdgkjbcglhekoaaGreat
theorem fnExactLateIn_holds : Rows.FnExactLateInSaid := fnExactLateIn.proved
end Go.Proofs.YtdgkjbcglhekoaaGreat
