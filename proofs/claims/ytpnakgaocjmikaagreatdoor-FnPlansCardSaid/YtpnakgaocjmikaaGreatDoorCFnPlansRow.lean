/- The law FnPlans holds for every input, as its row says; under no condition. -/
import Derived.Test.YtpnakgaocjmikaaGreatDoorCFnPlansK2
import Derived.Test.YtpnakgaocjmikaaGreatDoorCFnPlansP1
import Derived.Test.YtpnakgaocjmikaaGreatDoorRows
import Derived.WalkKit
import Derived.ProofKit
import Derived.OpenShut
import Derived.ShutString
import Derived.ChangeOld
import Derived.Below
import Derived.SizedLaws
import Derived.Test.YtpnakgaocjmikaaGreatDoorTm35
import Derived.Test.YtpnakgaocjmikaaGreatDoorTie
import Derived.Test.YtpnakgaocjmikaaGreatDoorCards
import Derived.Lay
import Derived.Stop.LaidErr
import Derived.LaidMore
import Derived.SevenTiedAt
import Derived.Lib.LaidTab
set_option maxRecDepth 100000
set_option linter.unusedVariables false
set_option linter.unusedSimpArgs false
namespace Go.Proofs.YtpnakgaocjmikaaGreatDoor.fnPlans
open Go.Tm Go.RowKit Go.ChangeShapes Go.WideShapes Go.ChangeAt Go.ChangeMaps
theorem own : ownKnob Tryz.prog.godebug = none := by kernel_rfl
theorem laidOut : laidOutB Tryz.prog = true := by kernel_rfl
theorem law (x : (List Int) × Unit) (h : (wSl (wInt .u8)) x.1 ∧ True) : laws_FnPlans 1099511627776 x.1 = some true := Pu.FnPlans_law x.1 h
theorem tbw {W : Go.World} (h : laidMetH Tryz.prog [("math/bits.deBruijn32tab", Rows.laid_math_bits_deBruijn32tab), ("math/bits.deBruijn64tab", Rows.laid_math_bits_deBruijn64tab), ("internal/strconv.uint64pow10", Rows.laid_internal_strconv_uint64pow10)] W) : TbW Tryz.prog W fun _ => False := by
  rw [MakeChecks.laidMetH_plain _ _ _ (by kernel_rfl)] at h
  have h3 : laidMet Tryz.prog (("internal/strconv.uint64pow10", Rows.laid_internal_strconv_uint64pow10) :: []) W := h.tail.tail
  have e : (Rows.laid_internal_strconv_uint64pow10 : DataW Unit) = Lib.tabData .u64 Lib.pow10Tab := by kernel_rfl
  rw [e] at h3
  exact fun k hk => ⟨Lib.tabIs_of_head (g := 1) (t := 114) (e := 107) (n := 20) (by kernel_rfl) (by kernel_rfl) Tryz.underlying114 Tryz.underlying107 (by kernel_rfl) (by kernel_rfl) h3, fun h => h⟩
theorem lifted (os : Os) (started : os.Started) (H : Type) (enc : TypeId × Value → H) :
    ReturnsInHanded {} Tryz.checked os 3 .any (fun w args => (Rows.fnPlansSpec.pre enc Tryz.prog Tryz.f3 [] false w args ∧ laidMetH Tryz.prog Rows.fnPlansRow.laid w) ∧ sizedMet enc Tryz.prog Tryz.f3 (OpenSpec.ofChange Rows.fnPlansSpec) false w args)
      (Rows.fnPlansSpec.post enc Tryz.prog Tryz.f3 false true false false) := by
  refine returnsInHanded_of_change_and (C := Tryz.checked) (X := fun w _ => laidMetH Tryz.prog Rows.fnPlansRow.laid w) (fun _ _ _ hh h => h.of_heap hh) own started (by kernel_rfl) Tryz.func3
    (ChangeSpec.witness_shaped (enc := enc) (C := Tryz.checked) (os := os) (X := fun w _ => laidMetH Tryz.prog Rows.fnPlansRow.laid w) false (Go.World.laidAll Tryz.prog os Rows.fnPlansRow.laid) #[.slice none 0 0] 8 (Go.World.laidAll_os _ _ _)
      (Go.World.shaped_of_ZipB (by kernel_rfl) (by kernel_rfl)) (by kernel_rfl) (by kernel_rfl) (by kernel_rfl)
      (by rw [MakeChecks.laidMetH_plain _ _ _ (by kernel_rfl)]; exact laidMet_laidAll _ (by kernel_rfl) (by kernel_rfl))) ?_
  intro W base args ds gs before hval0 hW hcnd hsz0 hL _
  have htb := tbw hL
  have hval : ∀ (j : Nat) t v, Tryz.f3.params[j]? = some t → args[j]? = some v → Value.okWide Tryz.prog W .any base t v := hval0
  have hW1 := hW
  obtain ⟨p, q, hA0, hV, rfl, hfz, hnd⟩ := hW
  have hA : DataW.TrodAll enc Tryz.prog W 0 (fun _ => true) true Tryz.f3.params.toList args.toList ds p := hA0
  have hB := hA
  rw [Tryz.params3] at hA hval
  obtain ⟨rfl, rfl⟩ := trodVars_none hV
  have hA2 := hA
  obtain ⟨v0, vs0, d0, ds0, p0, q0, ha0, rfl, hp0, h0, r0⟩ := trodAll_cons hA2
  obtain ⟨_, rfl, _⟩ := trodAll_nil r0
  refine (row_calls (RdAll.cons (RdV.one (RdTy.slice Tryz.underlying22 (by kernel_rfl) (RdTy.int (k := .u8) Tryz.underlying5 (by kernel_rfl))) (by kernel_rfl)) RdAll.nil) laidOut (by kernel_rfl) (fun (x : (List Int) × Unit) h => laws_FnPlans_ok 1099511627776 x.1 true (law x h)) enc W base args _ p hA (fun j t v h1 h2 => hval j t v (by simpa using h1) h2) htb).mono fun e W2 hh => ?_
  obtain ⟨he, bel, hT⟩ := hh
  subst he
  exact ⟨_, rfl, _, _, _, [], _, [], hW1, trodAll_mk1 (shut_bool Tryz.underlying4 _), hT, rfl, bel.frame _, fun h => by cases h⟩
theorem over : Rows.fnPlansRow.holds Tryz.pinned (OpenSpec.ofChange Rows.fnPlansSpec) :=
  OpenClaim.holds_of_wide 3 Tryz.f3 rfl rfl rfl rfl rfl rfl rfl ⟨rfl, rfl, rfl, rfl, rfl⟩ rfl rfl rfl rfl rfl (by kernel_rfl) Tryz.func3 (by kernel_rfl)
    (of_decide_eq_true (by kernel_rfl)) (by unfold Func.isWrapper; first | (rw [if_pos (by decide +kernel)]; kernel_rfl) | (rw [if_neg (by decide +kernel)]; exact ⟨rfl, rfl⟩))
    (fun os started H enc _ => lifted os started H enc)
theorem card : Rows.FnPlansCardSaid :=
  Claim7.holds_tied_plain_at .later [] [.data, .data, .data] true (true, "1d4943de092da8961e73ea23742322eefc2ee9ab3882bb78ce7149e6d2eb3a4a") false over (fun _ h => by cases h) (by kernel_rfl) (fun _ h => by cases h) fnPlans_row_tie rfl ⟨rfl, rfl⟩ (by kernel_rfl) rfl
    (fun f fn hf hfn => by
      obtain rfl : f = 3 := Option.some.inj ((show Tryz.prog.funcNamed "loop.example/g00503/laws.FnPlans" = some 3 by kernel_rfl).symm.trans hf) |>.symm
      obtain rfl : fn = Tryz.f3 := (Option.some.inj (Tryz.func3.symm.trans hfn)).symm
      exact ⟨by kernel_rfl, fun j t ht => by
        rw [Tryz.params3] at ht
        have hm : t ∈ [22] := by simpa using Array.mem_of_getElem? ht
        have hall : ([22].all fun u => !Tryz.prog.wantsStandIn u) = true := by kernel_rfl
        exact (show Tryz.prog.wantsStandIn t = false by simpa using List.all_eq_true.1 hall t hm)⟩)
    (by kernel_rfl)
#print axioms card
end Go.Proofs.YtpnakgaocjmikaaGreatDoor.fnPlans
namespace Go.Proofs.YtpnakgaocjmikaaGreatDoor
theorem fnPlans_holds : Rows.FnPlansCardSaid := fnPlans.card
end Go.Proofs.YtpnakgaocjmikaaGreatDoor