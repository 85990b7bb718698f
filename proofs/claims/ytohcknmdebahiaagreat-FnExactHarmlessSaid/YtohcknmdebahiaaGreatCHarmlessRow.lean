/- The law FnExactHarmless holds for every input, as its row says; under no condition. -/
import Derived.Test.YtohcknmdebahiaaGreatCHarmlessK3
import Derived.Test.YtohcknmdebahiaaGreatCHarmlessP1
import Derived.Test.YtohcknmdebahiaaGreatRows
import Derived.WalkKit
import Derived.ProofKit
import Derived.OpenShut
import Derived.ShutString
import Derived.ChangeOld
import Derived.Below
import Derived.SizedLaws
import Derived.Test.YtohcknmdebahiaaGreatTm35
set_option maxRecDepth 100000
set_option linter.unusedVariables false
set_option linter.unusedSimpArgs false
namespace Go.Proofs.YtohcknmdebahiaaGreat.fnExactHarmless
open Go.Tm Go.RowKit Go.ChangeShapes Go.WideShapes Go.ChangeAt Go.ChangeMaps
theorem rd23 : RdTy Tryz.prog 23 4 Tm.Conf.wf Tm.Conf.enc := RdTy.map (RdTy.struct Tryz.underlying23 (by kernel_rfl) (RdFs.cons (n := 1) (m := 3) rfl (RdTy.int (k := .i64) Tryz.underlying3 (by kernel_rfl)) (RdFs.cons (n := 1) (m := 2) rfl (RdTy.int (k := .i64) Tryz.underlying3 (by kernel_rfl)) (RdFs.cons (n := 1) (m := 1) rfl (RdTy.int (k := .i64) Tryz.underlying3 (by kernel_rfl)) (RdFs.cons (n := 1) (m := 0) rfl (RdTy.int (k := .i64) Tryz.underlying3 (by kernel_rfl)) RdFs.nil))))) (fun (x : Int × Int × Int × Int × Unit) => ⟨x.1, x.2.1, x.2.2.1, x.2.2.2.1⟩) (fun _ => rfl) (fun _ => rfl) (fun _ h => h)
theorem rd26 : RdTy Tryz.prog 26 1 Tm.Tree.wf Tm.Tree.enc := RdTy.map (RdTy.struct Tryz.underlying26 (by kernel_rfl) (RdFs.cons (n := 1) (m := 0) rfl (RdTy.slice Tryz.underlying24 (by kernel_rfl) (RdTy.int (k := .i64) Tryz.underlying3 (by kernel_rfl))) RdFs.nil)) (fun (x : (List Int) × Unit) => ⟨x.1⟩) (fun _ => rfl) (fun _ => rfl) (fun _ h => h)
theorem rd105 : RdTy Tryz.prog 105 1 Tm.Image.wf Tm.Image.enc := RdTy.map (RdTy.struct Tryz.underlying105 (by kernel_rfl) (RdFs.cons (n := 1) (m := 0) rfl (RdTy.slice Tryz.underlying27 (by kernel_rfl) (RdTy.int (k := .u8) Tryz.underlying5 (by kernel_rfl))) RdFs.nil)) (fun (x : (List Int) × Unit) => ⟨x.1⟩) (fun _ => rfl) (fun _ => rfl) (fun _ h => h)
theorem rd258 : RdTy Tryz.prog 258 2 Tm.Sum.wf Tm.Sum.enc := RdTy.map (RdTy.struct Tryz.underlying258 (by kernel_rfl) (RdFs.cons (n := 1) (m := 1) rfl (RdTy.int (k := .i64) Tryz.underlying3 (by kernel_rfl)) (RdFs.cons (n := 1) (m := 0) rfl (RdTy.int (k := .i64) Tryz.underlying3 (by kernel_rfl)) RdFs.nil))) (fun (x : Int × Int × Unit) => ⟨x.1, x.2.1⟩) (fun _ => rfl) (fun _ => rfl) (fun _ h => h)
theorem rd109 : RdTy Tryz.prog 109 4 Tm.Manifest.wf Tm.Manifest.enc := RdTy.map (RdTy.struct Tryz.underlying109 (by kernel_rfl) (RdFs.cons (n := 1) (m := 3) rfl (RdTy.int (k := .i64) Tryz.underlying3 (by kernel_rfl)) (RdFs.cons (n := 1) (m := 2) rfl (RdTy.int (k := .i64) Tryz.underlying3 (by kernel_rfl)) (RdFs.cons (n := 1) (m := 1) rfl (RdTy.int (k := .i64) Tryz.underlying3 (by kernel_rfl)) (RdFs.cons (n := 1) (m := 0) rfl (RdTy.slice Tryz.underlying107 (by kernel_rfl) rd258) RdFs.nil))))) (fun (x : Int × Int × Int × (List Tm.Sum) × Unit) => ⟨x.1, x.2.1, x.2.2.1, x.2.2.2.1⟩) (fun _ => rfl) (fun _ => rfl) (fun _ h => h)
theorem rd111 : RdTy Tryz.prog 111 2 Tm.Build.wf Tm.Build.enc := RdTy.map (RdTy.struct Tryz.underlying111 (by kernel_rfl) (RdFs.cons (n := 1) (m := 1) rfl (RdTy.int (k := .i64) Tryz.underlying3 (by kernel_rfl)) (RdFs.cons (n := 1) (m := 0) rfl (RdTy.slice Tryz.underlying27 (by kernel_rfl) (RdTy.int (k := .u8) Tryz.underlying5 (by kernel_rfl))) RdFs.nil))) (fun (x : Int × (List Int) × Unit) => ⟨x.1, x.2.1⟩) (fun _ => rfl) (fun _ => rfl) (fun _ h => h)
theorem rd232 : RdTy Tryz.prog 232 5 Tm.Kid.wf Tm.Kid.enc := RdTy.map (RdTy.struct Tryz.underlying232 (by kernel_rfl) (RdFs.cons (n := 1) (m := 4) rfl (RdTy.int (k := .i64) Tryz.underlying3 (by kernel_rfl)) (RdFs.cons (n := 1) (m := 3) rfl (RdTy.int (k := .i64) Tryz.underlying3 (by kernel_rfl)) (RdFs.cons (n := 1) (m := 2) rfl (RdTy.int (k := .i64) Tryz.underlying3 (by kernel_rfl)) (RdFs.cons (n := 1) (m := 1) rfl (RdTy.int (k := .i64) Tryz.underlying3 (by kernel_rfl)) (RdFs.cons (n := 1) (m := 0) rfl (RdTy.int (k := .i64) Tryz.underlying3 (by kernel_rfl)) RdFs.nil)))))) (fun (x : Int × Int × Int × Int × Int × Unit) => ⟨x.1, x.2.1, x.2.2.1, x.2.2.2.1, x.2.2.2.2.1⟩) (fun _ => rfl) (fun _ => rfl) (fun _ h => h)
theorem rd114 : RdTy Tryz.prog 114 12 Tm.Node.wf Tm.Node.enc := RdTy.map (RdTy.struct Tryz.underlying114 (by kernel_rfl) (RdFs.cons (n := 1) (m := 11) rfl (RdTy.bool Tryz.underlying4 (by kernel_rfl)) (RdFs.cons (n := 1) (m := 10) rfl (RdTy.int (k := .i64) Tryz.underlying3 (by kernel_rfl)) (RdFs.cons (n := 1) (m := 9) rfl (RdTy.int (k := .i64) Tryz.underlying3 (by kernel_rfl)) (RdFs.cons (n := 4) (m := 5) rfl rd109 (RdFs.cons (n := 2) (m := 3) rfl rd111 (RdFs.cons (n := 1) (m := 2) rfl (RdTy.int (k := .i64) Tryz.underlying3 (by kernel_rfl)) (RdFs.cons (n := 1) (m := 1) rfl (RdTy.slice Tryz.underlying112 (by kernel_rfl) rd232) (RdFs.cons (n := 1) (m := 0) rfl (RdTy.int (k := .i64) Tryz.underlying3 (by kernel_rfl)) RdFs.nil))))))))) (fun (x : Bool × Int × Int × Tm.Manifest × Tm.Build × Int × (List Tm.Kid) × Int × Unit) => ⟨x.1, x.2.1, x.2.2.1, x.2.2.2.1, x.2.2.2.2.1, x.2.2.2.2.2.1, x.2.2.2.2.2.2.1, x.2.2.2.2.2.2.2.1⟩) (fun _ => rfl) (fun _ => rfl) (fun _ h => h)
theorem rd117 : RdTy Tryz.prog 117 3 Tm.Record.wf Tm.Record.enc := RdTy.map (RdTy.struct Tryz.underlying117 (by kernel_rfl) (RdFs.cons (n := 1) (m := 2) rfl (RdTy.int (k := .i64) Tryz.underlying3 (by kernel_rfl)) (RdFs.cons (n := 1) (m := 1) rfl (RdTy.int (k := .i64) Tryz.underlying3 (by kernel_rfl)) (RdFs.cons (n := 1) (m := 0) rfl (RdTy.int (k := .i64) Tryz.underlying3 (by kernel_rfl)) RdFs.nil)))) (fun (x : Int × Int × Int × Unit) => ⟨x.1, x.2.1, x.2.2.1⟩) (fun _ => rfl) (fun _ => rfl) (fun _ h => h)
theorem rd226 : RdTy Tryz.prog 226 6 Tm.Put.wf Tm.Put.enc := RdTy.map (RdTy.struct Tryz.underlying226 (by kernel_rfl) (RdFs.cons (n := 1) (m := 5) rfl (RdTy.int (k := .i64) Tryz.underlying3 (by kernel_rfl)) (RdFs.cons (n := 1) (m := 4) rfl (RdTy.int (k := .i64) Tryz.underlying3 (by kernel_rfl)) (RdFs.cons (n := 1) (m := 3) rfl (RdTy.slice Tryz.underlying27 (by kernel_rfl) (RdTy.int (k := .u8) Tryz.underlying5 (by kernel_rfl))) (RdFs.cons (n := 3) (m := 0) rfl rd117 RdFs.nil))))) (fun (x : Int × Int × (List Int) × Tm.Record × Unit) => ⟨x.1, x.2.1, x.2.2.1, x.2.2.2.1⟩) (fun _ => rfl) (fun _ => rfl) (fun _ h => h)
theorem rd120 : RdTy Tryz.prog 120 6 Tm.Disk.wf Tm.Disk.enc := RdTy.map (RdTy.struct Tryz.underlying120 (by kernel_rfl) (RdFs.cons (n := 1) (m := 5) rfl (RdTy.slice Tryz.underlying27 (by kernel_rfl) (RdTy.int (k := .u8) Tryz.underlying5 (by kernel_rfl))) (RdFs.cons (n := 1) (m := 4) rfl (RdTy.slice Tryz.underlying27 (by kernel_rfl) (RdTy.int (k := .u8) Tryz.underlying5 (by kernel_rfl))) (RdFs.cons (n := 3) (m := 1) rfl rd117 (RdFs.cons (n := 1) (m := 0) rfl (RdTy.slice Tryz.underlying118 (by kernel_rfl) rd226) RdFs.nil))))) (fun (x : (List Int) × (List Int) × Tm.Record × (List Tm.Put) × Unit) => ⟨x.1, x.2.1, x.2.2.1, x.2.2.2.1⟩) (fun _ => rfl) (fun _ => rfl) (fun _ h => h)
theorem rd50 : RdTy Tryz.prog 50 3 Tm.Packet.wf Tm.Packet.enc := RdTy.map (RdTy.struct Tryz.underlying50 (by kernel_rfl) (RdFs.cons (n := 1) (m := 2) rfl (RdTy.int (k := .i64) Tryz.underlying3 (by kernel_rfl)) (RdFs.cons (n := 1) (m := 1) rfl (RdTy.int (k := .i64) Tryz.underlying3 (by kernel_rfl)) (RdFs.cons (n := 1) (m := 0) rfl (RdTy.slice Tryz.underlying27 (by kernel_rfl) (RdTy.int (k := .u8) Tryz.underlying5 (by kernel_rfl))) RdFs.nil)))) (fun (x : Int × Int × (List Int) × Unit) => ⟨x.1, x.2.1, x.2.2.1⟩) (fun _ => rfl) (fun _ => rfl) (fun _ h => h)
theorem rd139 : RdTy Tryz.prog 139 3 Tm.Sent.wf Tm.Sent.enc := RdTy.map (RdTy.struct Tryz.underlying139 (by kernel_rfl) (RdFs.cons (n := 1) (m := 2) rfl (RdTy.int (k := .i64) Tryz.underlying3 (by kernel_rfl)) (RdFs.cons (n := 1) (m := 1) rfl (RdTy.int (k := .i64) Tryz.underlying3 (by kernel_rfl)) (RdFs.cons (n := 1) (m := 0) rfl (RdTy.int (k := .i64) Tryz.underlying3 (by kernel_rfl)) RdFs.nil)))) (fun (x : Int × Int × Int × Unit) => ⟨x.1, x.2.1, x.2.2.1⟩) (fun _ => rfl) (fun _ => rfl) (fun _ h => h)
theorem rd34 : RdTy Tryz.prog 34 12 Tm.World.wf Tm.World.enc := RdTy.map (RdTy.struct Tryz.underlying34 (by kernel_rfl) (RdFs.cons (n := 4) (m := 8) rfl rd23 (RdFs.cons (n := 1) (m := 7) rfl rd26 (RdFs.cons (n := 1) (m := 6) rfl (RdTy.slice Tryz.underlying27 (by kernel_rfl) (RdTy.int (k := .u8) Tryz.underlying5 (by kernel_rfl))) (RdFs.cons (n := 1) (m := 5) rfl (RdTy.slice Tryz.underlying28 (by kernel_rfl) rd105) (RdFs.cons (n := 1) (m := 4) rfl (RdTy.slice Tryz.underlying29 (by kernel_rfl) rd114) (RdFs.cons (n := 1) (m := 3) rfl (RdTy.slice Tryz.underlying30 (by kernel_rfl) rd120) (RdFs.cons (n := 1) (m := 2) rfl (RdTy.slice Tryz.underlying31 (by kernel_rfl) rd50) (RdFs.cons (n := 1) (m := 1) rfl (RdTy.slice Tryz.underlying32 (by kernel_rfl) rd139) (RdFs.cons (n := 1) (m := 0) rfl (RdTy.int (k := .i64) Tryz.underlying3 (by kernel_rfl)) RdFs.nil)))))))))) (fun (x : Tm.Conf × Tm.Tree × (List Int) × (List Tm.Image) × (List Tm.Node) × (List Tm.Disk) × (List Tm.Packet) × (List Tm.Sent) × Int × Unit) => ⟨x.1, x.2.1, x.2.2.1, x.2.2.2.1, x.2.2.2.2.1, x.2.2.2.2.2.1, x.2.2.2.2.2.2.1, x.2.2.2.2.2.2.2.1, x.2.2.2.2.2.2.2.2.1⟩) (fun _ => rfl) (fun _ => rfl) (fun _ h => h)
theorem rd52 : RdTy Tryz.prog 52 6 Tm.Event.wf Tm.Event.enc := RdTy.map (RdTy.struct Tryz.underlying52 (by kernel_rfl) (RdFs.cons (n := 1) (m := 5) rfl (RdTy.int (k := .i64) Tryz.underlying3 (by kernel_rfl)) (RdFs.cons (n := 1) (m := 4) rfl (RdTy.int (k := .i64) Tryz.underlying3 (by kernel_rfl)) (RdFs.cons (n := 1) (m := 3) rfl (RdTy.int (k := .i64) Tryz.underlying3 (by kernel_rfl)) (RdFs.cons (n := 3) (m := 0) rfl rd50 RdFs.nil))))) (fun (x : Int × Int × Int × Tm.Packet × Unit) => ⟨x.1, x.2.1, x.2.2.1, x.2.2.2.1⟩) (fun _ => rfl) (fun _ => rfl) (fun _ h => h)
theorem own : ownKnob Tryz.prog.godebug = none := by kernel_rfl
theorem laidOut : laidOutB Tryz.prog = true := by kernel_rfl
theorem law (x : Tm.World × Tm.Event × Unit) (h : Tm.World.wf x.1 ∧ Tm.Event.wf x.2.1 ∧ True) : laws_FnExactHarmless 1099511627776 x.1 x.2.1 = some true := Pu.Harmless_law x.1 x.2.1 h
theorem lifted (os : Os) (started : os.Started) (H : Type) (enc : TypeId × Value → H) :
    ReturnsInHanded {} Tryz.checked os 4 .any (Rows.fnExactHarmlessSpec.pre6 enc Tryz.prog Tryz.f4 Rows.fnExactHarmlessRow.domain false) (Rows.fnExactHarmlessSpec.post enc Tryz.prog Tryz.f4 false true false false) := by
  refine returnsInHanded_of_change_sized (C := Tryz.checked) own started (by kernel_rfl) Tryz.func4
    (ChangeSpec.witness6 (enc := enc) (C := Tryz.checked) false ⟨#[], #[.agg #[.int .i64 0, .int .i64 0, .int .i64 0, .int .i64 0, .slice none 0 0, .slice none 0 0, .slice none 0 0, .slice none 0 0, .slice none 0 0, .slice none 0 0, .slice none 0 0, .int .i64 0], .agg #[.int .i64 0, .int .i64 0, .int .i64 0, .int .i64 0, .int .i64 0, .slice none 0 0]], []⟩ 8 (by kernel_rfl) (by kernel_rfl) (by kernel_rfl) (by kernel_rfl)) ?_
  intro W base args ds gs before hval0 hW hcnd hsz0 _
  have hval : ∀ (j : Nat) t v, Tryz.f4.params[j]? = some t → args[j]? = some v → Value.okWide Tryz.prog W .any base t v := hval0
  have hW1 := hW
  obtain ⟨p, q, hA0, hV, rfl, hfz, hnd⟩ := hW
  have hA : DataW.TrodAll enc Tryz.prog W 0 (fun _ => true) true Tryz.f4.params.toList args.toList ds p := hA0
  have hB := hA
  rw [Tryz.params4] at hA hval
  obtain ⟨rfl, rfl⟩ := trodVars_none hV
  have hA2 := hA
  obtain ⟨v0, vs0, d0, ds0, p0, q0, ha0, rfl, hp0, h0, r0⟩ := trodAll_cons hA2
  obtain ⟨v1, vs1, d1, ds1, p1, q1, ha1, rfl, hp1, h1, r1⟩ := trodAll_cons r0
  obtain ⟨_, rfl, _⟩ := trodAll_nil r1
  refine (row_calls (RdAll.cons (RdV.agg rd34 Tryz.underlying34) (RdAll.cons (RdV.agg rd52 Tryz.underlying52) RdAll.nil)) laidOut (by kernel_rfl) (fun (x : Tm.World × Tm.Event × Unit) h => laws_FnExactHarmless_ok 1099511627776 x.1 x.2.1 true (law x h)) enc W base args _ p hA (fun j t v h1 h2 => hval j t v (by simpa using h1) h2)).mono fun e W2 hh => ?_
  obtain ⟨he, bel, hT⟩ := hh
  subst he
  exact ⟨_, rfl, _, _, _, [], _, [], hW1, trodAll_mk1 (shut_bool Tryz.underlying4 _), hT, rfl, bel.frame _, fun h => by cases h⟩
theorem over : Rows.fnExactHarmlessRow.holds Tryz.pinned (OpenSpec.ofChange Rows.fnExactHarmlessSpec) :=
  OpenClaim.holds_of_wide 4 Tryz.f4 rfl rfl rfl rfl rfl rfl rfl ⟨rfl, rfl, rfl, rfl, rfl⟩ rfl rfl rfl rfl rfl (by kernel_rfl) Tryz.func4 (by kernel_rfl)
    (of_decide_eq_true (by kernel_rfl)) (by unfold Func.isWrapper; first | (rw [if_pos (by decide +kernel)]; kernel_rfl) | (rw [if_neg (by decide +kernel)]; exact ⟨rfl, rfl⟩))
    (fun os started H enc _ => lifted os started H enc)
theorem proved : Rows.FnExactHarmlessSaid := over
#print axioms proved
end Go.Proofs.YtohcknmdebahiaaGreat.fnExactHarmless
namespace Go.Proofs.YtohcknmdebahiaaGreat
theorem fnExactHarmless_holds : Rows.FnExactHarmlessSaid := fnExactHarmless.proved
end Go.Proofs.YtohcknmdebahiaaGreat
