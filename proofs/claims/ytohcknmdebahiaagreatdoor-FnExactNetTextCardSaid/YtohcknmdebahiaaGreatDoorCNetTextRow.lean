/- The law FnExactNetText holds for every input, as its row says; under no condition. -/
import Derived.Test.YtohcknmdebahiaaGreatDoorCNetTextK3
import Derived.Test.YtohcknmdebahiaaGreatDoorCNetTextP1
import Derived.Test.YtohcknmdebahiaaGreatDoorRows
import Derived.WalkKit
import Derived.ProofKit
import Derived.OpenShut
import Derived.ShutString
import Derived.ChangeOld
import Derived.Below
import Derived.SizedLaws
import Derived.Test.YtohcknmdebahiaaGreatDoorTm35
import Derived.Test.YtohcknmdebahiaaGreatDoorTie
import Derived.Test.YtohcknmdebahiaaGreatDoorCards
import Derived.Lay
import Derived.Stop.LaidErr
import Derived.LaidMore
import Derived.SevenTiedAt
import Derived.Lib.LaidTab
set_option maxRecDepth 100000
set_option linter.unusedVariables false
set_option linter.unusedSimpArgs false
namespace Go.Proofs.YtohcknmdebahiaaGreatDoor.fnExactNetText
open Go.Tm Go.RowKit Go.ChangeShapes Go.WideShapes Go.ChangeAt Go.ChangeMaps
theorem rd33 : RdTy Tryz.prog 33 4 Tm.Conf.wf Tm.Conf.enc := RdTy.map (RdTy.struct Tryz.underlying33 (by kernel_rfl) (RdFs.cons (n := 1) (m := 3) rfl (RdTy.int (k := .i64) Tryz.underlying3 (by kernel_rfl)) (RdFs.cons (n := 1) (m := 2) rfl (RdTy.int (k := .i64) Tryz.underlying3 (by kernel_rfl)) (RdFs.cons (n := 1) (m := 1) rfl (RdTy.int (k := .i64) Tryz.underlying3 (by kernel_rfl)) (RdFs.cons (n := 1) (m := 0) rfl (RdTy.int (k := .i64) Tryz.underlying3 (by kernel_rfl)) RdFs.nil))))) (fun (x : Int × Int × Int × Int × Unit) => ⟨x.1, x.2.1, x.2.2.1, x.2.2.2.1⟩) (fun _ => rfl) (fun _ => rfl) (fun _ h => h)
theorem rd36 : RdTy Tryz.prog 36 1 Tm.Tree.wf Tm.Tree.enc := RdTy.map (RdTy.struct Tryz.underlying36 (by kernel_rfl) (RdFs.cons (n := 1) (m := 0) rfl (RdTy.slice Tryz.underlying34 (by kernel_rfl) (RdTy.int (k := .i64) Tryz.underlying3 (by kernel_rfl))) RdFs.nil)) (fun (x : (List Int) × Unit) => ⟨x.1⟩) (fun _ => rfl) (fun _ => rfl) (fun _ h => h)
theorem rd58 : RdTy Tryz.prog 58 1 Tm.Image.wf Tm.Image.enc := RdTy.map (RdTy.struct Tryz.underlying58 (by kernel_rfl) (RdFs.cons (n := 1) (m := 0) rfl (RdTy.slice Tryz.underlying22 (by kernel_rfl) (RdTy.int (k := .u8) Tryz.underlying5 (by kernel_rfl))) RdFs.nil)) (fun (x : (List Int) × Unit) => ⟨x.1⟩) (fun _ => rfl) (fun _ => rfl) (fun _ h => h)
theorem rd226 : RdTy Tryz.prog 226 2 Tm.Sum.wf Tm.Sum.enc := RdTy.map (RdTy.struct Tryz.underlying226 (by kernel_rfl) (RdFs.cons (n := 1) (m := 1) rfl (RdTy.int (k := .i64) Tryz.underlying3 (by kernel_rfl)) (RdFs.cons (n := 1) (m := 0) rfl (RdTy.int (k := .i64) Tryz.underlying3 (by kernel_rfl)) RdFs.nil))) (fun (x : Int × Int × Unit) => ⟨x.1, x.2.1⟩) (fun _ => rfl) (fun _ => rfl) (fun _ h => h)
theorem rd106 : RdTy Tryz.prog 106 4 Tm.Manifest.wf Tm.Manifest.enc := RdTy.map (RdTy.struct Tryz.underlying106 (by kernel_rfl) (RdFs.cons (n := 1) (m := 3) rfl (RdTy.int (k := .i64) Tryz.underlying3 (by kernel_rfl)) (RdFs.cons (n := 1) (m := 2) rfl (RdTy.int (k := .i64) Tryz.underlying3 (by kernel_rfl)) (RdFs.cons (n := 1) (m := 1) rfl (RdTy.int (k := .i64) Tryz.underlying3 (by kernel_rfl)) (RdFs.cons (n := 1) (m := 0) rfl (RdTy.slice Tryz.underlying104 (by kernel_rfl) rd226) RdFs.nil))))) (fun (x : Int × Int × Int × (List Tm.Sum) × Unit) => ⟨x.1, x.2.1, x.2.2.1, x.2.2.2.1⟩) (fun _ => rfl) (fun _ => rfl) (fun _ h => h)
theorem rd107 : RdTy Tryz.prog 107 2 Tm.Build.wf Tm.Build.enc := RdTy.map (RdTy.struct Tryz.underlying107 (by kernel_rfl) (RdFs.cons (n := 1) (m := 1) rfl (RdTy.int (k := .i64) Tryz.underlying3 (by kernel_rfl)) (RdFs.cons (n := 1) (m := 0) rfl (RdTy.slice Tryz.underlying22 (by kernel_rfl) (RdTy.int (k := .u8) Tryz.underlying5 (by kernel_rfl))) RdFs.nil))) (fun (x : Int × (List Int) × Unit) => ⟨x.1, x.2.1⟩) (fun _ => rfl) (fun _ => rfl) (fun _ h => h)
theorem rd202 : RdTy Tryz.prog 202 5 Tm.Kid.wf Tm.Kid.enc := RdTy.map (RdTy.struct Tryz.underlying202 (by kernel_rfl) (RdFs.cons (n := 1) (m := 4) rfl (RdTy.int (k := .i64) Tryz.underlying3 (by kernel_rfl)) (RdFs.cons (n := 1) (m := 3) rfl (RdTy.int (k := .i64) Tryz.underlying3 (by kernel_rfl)) (RdFs.cons (n := 1) (m := 2) rfl (RdTy.int (k := .i64) Tryz.underlying3 (by kernel_rfl)) (RdFs.cons (n := 1) (m := 1) rfl (RdTy.int (k := .i64) Tryz.underlying3 (by kernel_rfl)) (RdFs.cons (n := 1) (m := 0) rfl (RdTy.int (k := .i64) Tryz.underlying3 (by kernel_rfl)) RdFs.nil)))))) (fun (x : Int × Int × Int × Int × Int × Unit) => ⟨x.1, x.2.1, x.2.2.1, x.2.2.2.1, x.2.2.2.2.1⟩) (fun _ => rfl) (fun _ => rfl) (fun _ h => h)
theorem rd110 : RdTy Tryz.prog 110 12 Tm.Node.wf Tm.Node.enc := RdTy.map (RdTy.struct Tryz.underlying110 (by kernel_rfl) (RdFs.cons (n := 1) (m := 11) rfl (RdTy.bool Tryz.underlying4 (by kernel_rfl)) (RdFs.cons (n := 1) (m := 10) rfl (RdTy.int (k := .i64) Tryz.underlying3 (by kernel_rfl)) (RdFs.cons (n := 1) (m := 9) rfl (RdTy.int (k := .i64) Tryz.underlying3 (by kernel_rfl)) (RdFs.cons (n := 4) (m := 5) rfl rd106 (RdFs.cons (n := 2) (m := 3) rfl rd107 (RdFs.cons (n := 1) (m := 2) rfl (RdTy.int (k := .i64) Tryz.underlying3 (by kernel_rfl)) (RdFs.cons (n := 1) (m := 1) rfl (RdTy.slice Tryz.underlying108 (by kernel_rfl) rd202) (RdFs.cons (n := 1) (m := 0) rfl (RdTy.int (k := .i64) Tryz.underlying3 (by kernel_rfl)) RdFs.nil))))))))) (fun (x : Bool × Int × Int × Tm.Manifest × Tm.Build × Int × (List Tm.Kid) × Int × Unit) => ⟨x.1, x.2.1, x.2.2.1, x.2.2.2.1, x.2.2.2.2.1, x.2.2.2.2.2.1, x.2.2.2.2.2.2.1, x.2.2.2.2.2.2.2.1⟩) (fun _ => rfl) (fun _ => rfl) (fun _ h => h)
theorem rd113 : RdTy Tryz.prog 113 3 Tm.Record.wf Tm.Record.enc := RdTy.map (RdTy.struct Tryz.underlying113 (by kernel_rfl) (RdFs.cons (n := 1) (m := 2) rfl (RdTy.int (k := .i64) Tryz.underlying3 (by kernel_rfl)) (RdFs.cons (n := 1) (m := 1) rfl (RdTy.int (k := .i64) Tryz.underlying3 (by kernel_rfl)) (RdFs.cons (n := 1) (m := 0) rfl (RdTy.int (k := .i64) Tryz.underlying3 (by kernel_rfl)) RdFs.nil)))) (fun (x : Int × Int × Int × Unit) => ⟨x.1, x.2.1, x.2.2.1⟩) (fun _ => rfl) (fun _ => rfl) (fun _ h => h)
theorem rd197 : RdTy Tryz.prog 197 6 Tm.Put.wf Tm.Put.enc := RdTy.map (RdTy.struct Tryz.underlying197 (by kernel_rfl) (RdFs.cons (n := 1) (m := 5) rfl (RdTy.int (k := .i64) Tryz.underlying3 (by kernel_rfl)) (RdFs.cons (n := 1) (m := 4) rfl (RdTy.int (k := .i64) Tryz.underlying3 (by kernel_rfl)) (RdFs.cons (n := 1) (m := 3) rfl (RdTy.slice Tryz.underlying22 (by kernel_rfl) (RdTy.int (k := .u8) Tryz.underlying5 (by kernel_rfl))) (RdFs.cons (n := 3) (m := 0) rfl rd113 RdFs.nil))))) (fun (x : Int × Int × (List Int) × Tm.Record × Unit) => ⟨x.1, x.2.1, x.2.2.1, x.2.2.2.1⟩) (fun _ => rfl) (fun _ => rfl) (fun _ h => h)
theorem rd116 : RdTy Tryz.prog 116 6 Tm.Disk.wf Tm.Disk.enc := RdTy.map (RdTy.struct Tryz.underlying116 (by kernel_rfl) (RdFs.cons (n := 1) (m := 5) rfl (RdTy.slice Tryz.underlying22 (by kernel_rfl) (RdTy.int (k := .u8) Tryz.underlying5 (by kernel_rfl))) (RdFs.cons (n := 1) (m := 4) rfl (RdTy.slice Tryz.underlying22 (by kernel_rfl) (RdTy.int (k := .u8) Tryz.underlying5 (by kernel_rfl))) (RdFs.cons (n := 3) (m := 1) rfl rd113 (RdFs.cons (n := 1) (m := 0) rfl (RdTy.slice Tryz.underlying114 (by kernel_rfl) rd197) RdFs.nil))))) (fun (x : (List Int) × (List Int) × Tm.Record × (List Tm.Put) × Unit) => ⟨x.1, x.2.1, x.2.2.1, x.2.2.2.1⟩) (fun _ => rfl) (fun _ => rfl) (fun _ h => h)
theorem rd118 : RdTy Tryz.prog 118 3 Tm.Packet.wf Tm.Packet.enc := RdTy.map (RdTy.struct Tryz.underlying118 (by kernel_rfl) (RdFs.cons (n := 1) (m := 2) rfl (RdTy.int (k := .i64) Tryz.underlying3 (by kernel_rfl)) (RdFs.cons (n := 1) (m := 1) rfl (RdTy.int (k := .i64) Tryz.underlying3 (by kernel_rfl)) (RdFs.cons (n := 1) (m := 0) rfl (RdTy.slice Tryz.underlying22 (by kernel_rfl) (RdTy.int (k := .u8) Tryz.underlying5 (by kernel_rfl))) RdFs.nil)))) (fun (x : Int × Int × (List Int) × Unit) => ⟨x.1, x.2.1, x.2.2.1⟩) (fun _ => rfl) (fun _ => rfl) (fun _ h => h)
theorem rd130 : RdTy Tryz.prog 130 3 Tm.Sent.wf Tm.Sent.enc := RdTy.map (RdTy.struct Tryz.underlying130 (by kernel_rfl) (RdFs.cons (n := 1) (m := 2) rfl (RdTy.int (k := .i64) Tryz.underlying3 (by kernel_rfl)) (RdFs.cons (n := 1) (m := 1) rfl (RdTy.int (k := .i64) Tryz.underlying3 (by kernel_rfl)) (RdFs.cons (n := 1) (m := 0) rfl (RdTy.int (k := .i64) Tryz.underlying3 (by kernel_rfl)) RdFs.nil)))) (fun (x : Int × Int × Int × Unit) => ⟨x.1, x.2.1, x.2.2.1⟩) (fun _ => rfl) (fun _ => rfl) (fun _ h => h)
theorem rd42 : RdTy Tryz.prog 42 12 Tm.World.wf Tm.World.enc := RdTy.map (RdTy.struct Tryz.underlying42 (by kernel_rfl) (RdFs.cons (n := 4) (m := 8) rfl rd33 (RdFs.cons (n := 1) (m := 7) rfl rd36 (RdFs.cons (n := 1) (m := 6) rfl (RdTy.slice Tryz.underlying22 (by kernel_rfl) (RdTy.int (k := .u8) Tryz.underlying5 (by kernel_rfl))) (RdFs.cons (n := 1) (m := 5) rfl (RdTy.slice Tryz.underlying23 (by kernel_rfl) rd58) (RdFs.cons (n := 1) (m := 4) rfl (RdTy.slice Tryz.underlying37 (by kernel_rfl) rd110) (RdFs.cons (n := 1) (m := 3) rfl (RdTy.slice Tryz.underlying38 (by kernel_rfl) rd116) (RdFs.cons (n := 1) (m := 2) rfl (RdTy.slice Tryz.underlying39 (by kernel_rfl) rd118) (RdFs.cons (n := 1) (m := 1) rfl (RdTy.slice Tryz.underlying40 (by kernel_rfl) rd130) (RdFs.cons (n := 1) (m := 0) rfl (RdTy.int (k := .i64) Tryz.underlying3 (by kernel_rfl)) RdFs.nil)))))))))) (fun (x : Tm.Conf × Tm.Tree × (List Int) × (List Tm.Image) × (List Tm.Node) × (List Tm.Disk) × (List Tm.Packet) × (List Tm.Sent) × Int × Unit) => ⟨x.1, x.2.1, x.2.2.1, x.2.2.2.1, x.2.2.2.2.1, x.2.2.2.2.2.1, x.2.2.2.2.2.2.1, x.2.2.2.2.2.2.2.1, x.2.2.2.2.2.2.2.2.1⟩) (fun _ => rfl) (fun _ => rfl) (fun _ h => h)
theorem own : ownKnob Tryz.prog.godebug = none := by kernel_rfl
theorem laidOut : laidOutB Tryz.prog = true := by kernel_rfl
theorem law (x : Tm.World × Unit) (h : Tm.World.wf x.1 ∧ True) : laws_FnExactNetText 1099511627776 x.1 = some true := Pu.NetText_law x.1 h
theorem tbw {W : Go.World} (h : laidMetH Tryz.prog [("math/bits.deBruijn32tab", Rows.laid_math_bits_deBruijn32tab), ("math/bits.deBruijn64tab", Rows.laid_math_bits_deBruijn64tab), ("internal/strconv.uint64pow10", Rows.laid_internal_strconv_uint64pow10)] W) : TbW Tryz.prog W fun _ => False := by
  rw [MakeChecks.laidMetH_plain _ _ _ (by kernel_rfl)] at h
  have h3 : laidMet Tryz.prog (("internal/strconv.uint64pow10", Rows.laid_internal_strconv_uint64pow10) :: []) W := h.tail.tail
  have e : (Rows.laid_internal_strconv_uint64pow10 : DataW Unit) = Lib.tabData .u64 Lib.pow10Tab := by kernel_rfl
  rw [e] at h3
  exact fun k hk => ⟨Lib.tabIs_of_head (g := 1) (t := 235) (e := 175) (n := 20) (by kernel_rfl) (by kernel_rfl) Tryz.underlying235 Tryz.underlying175 (by kernel_rfl) (by kernel_rfl) h3, fun h => h⟩
theorem lifted (os : Os) (started : os.Started) (H : Type) (enc : TypeId × Value → H) :
    ReturnsInHanded {} Tryz.checked os 6 .any (fun w args => (Rows.fnExactNetTextSpec.pre enc Tryz.prog Tryz.f6 [] false w args ∧ laidMetH Tryz.prog Rows.fnExactNetTextRow.laid w) ∧ sizedMet enc Tryz.prog Tryz.f6 (OpenSpec.ofChange Rows.fnExactNetTextSpec) false w args)
      (Rows.fnExactNetTextSpec.post enc Tryz.prog Tryz.f6 false true false false) := by
  refine returnsInHanded_of_change_and (C := Tryz.checked) (X := fun w _ => laidMetH Tryz.prog Rows.fnExactNetTextRow.laid w) (fun _ _ _ hh h => h.of_heap hh) own started (by kernel_rfl) Tryz.func6
    (ChangeSpec.witness_shaped (enc := enc) (C := Tryz.checked) (os := os) (X := fun w _ => laidMetH Tryz.prog Rows.fnExactNetTextRow.laid w) false (Go.World.laidAll Tryz.prog os Rows.fnExactNetTextRow.laid) #[.agg #[.int .i64 0, .int .i64 0, .int .i64 0, .int .i64 0, .slice none 0 0, .slice none 0 0, .slice none 0 0, .slice none 0 0, .slice none 0 0, .slice none 0 0, .slice none 0 0, .int .i64 0]] 8 (Go.World.laidAll_os _ _ _)
      (Go.World.shaped_of_ZipB (by kernel_rfl) (by kernel_rfl)) (by kernel_rfl) (by kernel_rfl) (by kernel_rfl)
      (by rw [MakeChecks.laidMetH_plain _ _ _ (by kernel_rfl)]; exact laidMet_laidAll _ (by kernel_rfl) (by kernel_rfl))) ?_
  intro W base args ds gs before hval0 hW hcnd hsz0 hL _
  have htb := tbw hL
  have hval : ∀ (j : Nat) t v, Tryz.f6.params[j]? = some t → args[j]? = some v → Value.okWide Tryz.prog W .any base t v := hval0
  have hW1 := hW
  obtain ⟨p, q, hA0, hV, rfl, hfz, hnd⟩ := hW
  have hA : DataW.TrodAll enc Tryz.prog W 0 (fun _ => true) true Tryz.f6.params.toList args.toList ds p := hA0
  have hB := hA
  rw [Tryz.params6] at hA hval
  obtain ⟨rfl, rfl⟩ := trodVars_none hV
  have hA2 := hA
  obtain ⟨v0, vs0, d0, ds0, p0, q0, ha0, rfl, hp0, h0, r0⟩ := trodAll_cons hA2
  obtain ⟨_, rfl, _⟩ := trodAll_nil r0
  refine (row_calls (RdAll.cons (RdV.agg rd42 Tryz.underlying42) RdAll.nil) laidOut (by kernel_rfl) (fun (x : Tm.World × Unit) h => laws_FnExactNetText_ok 1099511627776 x.1 true (law x h)) enc W base args _ p hA (fun j t v h1 h2 => hval j t v (by simpa using h1) h2) htb).mono fun e W2 hh => ?_
  obtain ⟨he, bel, hT⟩ := hh
  subst he
  exact ⟨_, rfl, _, _, _, [], _, [], hW1, trodAll_mk1 (shut_bool Tryz.underlying4 _), hT, rfl, bel.frame _, fun h => by cases h⟩
theorem over : Rows.fnExactNetTextRow.holds Tryz.pinned (OpenSpec.ofChange Rows.fnExactNetTextSpec) :=
  OpenClaim.holds_of_wide 6 Tryz.f6 rfl rfl rfl rfl rfl rfl rfl ⟨rfl, rfl, rfl, rfl, rfl⟩ rfl rfl rfl rfl rfl (by kernel_rfl) Tryz.func6 (by kernel_rfl)
    (of_decide_eq_true (by kernel_rfl)) (by unfold Func.isWrapper; first | (rw [if_pos (by decide +kernel)]; kernel_rfl) | (rw [if_neg (by decide +kernel)]; exact ⟨rfl, rfl⟩))
    (fun os started H enc _ => lifted os started H enc)
theorem card : Rows.FnExactNetTextCardSaid :=
  Claim7.holds_tied_plain_at .later [] [.data, .data, .data] true (true, "4df28c54adf339a6acca81c41fec7f4eac67281429aa9e2bcc9b252d87470afd") false over (fun _ h => by cases h) (by kernel_rfl) (fun _ h => by cases h) fnExactNetText_row_tie rfl ⟨rfl, rfl⟩ (by kernel_rfl) rfl
    (fun f fn hf hfn => by
      obtain rfl : f = 6 := Option.some.inj ((show Tryz.prog.funcNamed "loop.example/g00503/laws.FnExactNetText" = some 6 by kernel_rfl).symm.trans hf) |>.symm
      obtain rfl : fn = Tryz.f6 := (Option.some.inj (Tryz.func6.symm.trans hfn)).symm
      exact ⟨by kernel_rfl, fun j t ht => by
        rw [Tryz.params6] at ht
        have hm : t ∈ [42] := by simpa using Array.mem_of_getElem? ht
        have hall : ([42].all fun u => !Tryz.prog.wantsStandIn u) = true := by kernel_rfl
        exact (show Tryz.prog.wantsStandIn t = false by simpa using List.all_eq_true.1 hall t hm)⟩)
    (by kernel_rfl)
#print axioms card
end Go.Proofs.YtohcknmdebahiaaGreatDoor.fnExactNetText
namespace Go.Proofs.YtohcknmdebahiaaGreatDoor
theorem fnExactNetText_holds : Rows.FnExactNetTextCardSaid := fnExactNetText.card
end Go.Proofs.YtohcknmdebahiaaGreatDoor