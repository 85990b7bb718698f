/- The law FnExactPacketText holds for every input, as its row says; under no condition. -/
import Derived.Test.YtohcknmdebahiaaDoorCPacketTextK2
import Derived.Test.YtohcknmdebahiaaDoorCPacketTextP1
import Derived.Test.YtohcknmdebahiaaDoorRows
import Derived.WalkKit
import Derived.ProofKit
import Derived.OpenShut
import Derived.ShutString
import Derived.ChangeOld
import Derived.Below
import Derived.SizedLaws
import Derived.Test.YtohcknmdebahiaaDoorTm35
import Derived.Test.YtohcknmdebahiaaDoorTie
import Derived.Test.YtohcknmdebahiaaDoorCards
import Derived.Lay
import Derived.Stop.LaidErr
import Derived.LaidMore
import Derived.SevenTiedAt
import Derived.Lib.LaidTab
set_option maxRecDepth 100000
set_option linter.unusedVariables false
set_option linter.unusedSimpArgs false
namespace Go.Proofs.YtohcknmdebahiaaDoor.fnExactPacketText
open Go.Tm Go.RowKit Go.ChangeShapes Go.WideShapes Go.ChangeAt Go.ChangeMaps
theorem rd24 : RdTy Tryd.prog 24 3 Tm.Packet.wf Tm.Packet.enc := RdTy.map (RdTy.struct Tryd.underlying24 (by kernel_rfl) (RdFs.cons (n := 1) (m := 2) rfl (RdTy.int (k := .i64) Tryd.underlying3 (by kernel_rfl)) (RdFs.cons (n := 1) (m := 1) rfl (RdTy.int (k := .i64) Tryd.underlying3 (by kernel_rfl)) (RdFs.cons (n := 1) (m := 0) rfl (RdTy.slice Tryd.underlying22 (by kernel_rfl) (RdTy.int (k := .u8) Tryd.underlying5 (by kernel_rfl))) RdFs.nil)))) (fun (x : Int × Int × (List Int) × Unit) => ⟨x.1, x.2.1, x.2.2.1⟩) (fun _ => rfl) (fun _ => rfl) (fun _ h => h)
theorem own : ownKnob Tryd.prog.godebug = none := by kernel_rfl
theorem laidOut : laidOutB Tryd.prog = true := by kernel_rfl
theorem law (x : Tm.Packet × Unit) (h : Tm.Packet.wf x.1 ∧ True) : laws_FnExactPacketText 1099511627776 x.1 = some true := Pu.PacketText_law x.1 h
theorem tbw {W : World} (h : laidMetH Tryd.prog [("math/bits.deBruijn32tab", Rows.laid_math_bits_deBruijn32tab), ("math/bits.deBruijn64tab", Rows.laid_math_bits_deBruijn64tab), ("internal/strconv.uint64pow10", Rows.laid_internal_strconv_uint64pow10)] W) : TbW Tryd.prog W fun _ => False := by
  rw [MakeChecks.laidMetH_plain _ _ _ (by kernel_rfl)] at h
  have h3 : laidMet Tryd.prog (("internal/strconv.uint64pow10", Rows.laid_internal_strconv_uint64pow10) :: []) W := h.tail.tail
  have e : (Rows.laid_internal_strconv_uint64pow10 : DataW Unit) = Lib.tabData .u64 Lib.pow10Tab := by kernel_rfl
  rw [e] at h3
  exact fun k hk => ⟨Lib.tabIs_of_head (g := 0) (t := 88) (e := 71) (n := 20) (by kernel_rfl) (by kernel_rfl) Tryd.underlying88 Tryd.underlying71 (by kernel_rfl) (by kernel_rfl) h3, fun h => h⟩
theorem lifted (os : Os) (started : os.Started) (H : Type) (enc : TypeId × Value → H) :
    ReturnsInHanded {} Tryd.checked os 3 .any (fun w args => (Rows.fnExactPacketTextSpec.pre enc Tryd.prog Tryd.f3 [] false w args ∧ laidMetH Tryd.prog Rows.fnExactPacketTextRow.laid w) ∧ sizedMet enc Tryd.prog Tryd.f3 (OpenSpec.ofChange Rows.fnExactPacketTextSpec) false w args)
      (Rows.fnExactPacketTextSpec.post enc Tryd.prog Tryd.f3 false true false false) := by
  refine returnsInHanded_of_change_and (C := Tryd.checked) (X := fun w _ => laidMetH Tryd.prog Rows.fnExactPacketTextRow.laid w) (fun _ _ _ hh h => h.of_heap hh) own started (by kernel_rfl) Tryd.func3
    (ChangeSpec.witness_shaped (enc := enc) (C := Tryd.checked) (os := os) (X := fun w _ => laidMetH Tryd.prog Rows.fnExactPacketTextRow.laid w) false (World.laidAll Tryd.prog os Rows.fnExactPacketTextRow.laid) #[.agg #[.int .i64 0, .int .i64 0, .slice none 0 0]] 8 (World.laidAll_os _ _ _)
      (World.shaped_of_ZipB (by kernel_rfl) (by kernel_rfl)) (by kernel_rfl) (by kernel_rfl) (by kernel_rfl)
      (by rw [MakeChecks.laidMetH_plain _ _ _ (by kernel_rfl)]; exact laidMet_laidAll _ (by kernel_rfl) (by kernel_rfl))) ?_
  intro W base args ds gs before hval0 hW hcnd hsz0 hL _
  have htb := tbw hL
  have hval : ∀ (j : Nat) t v, Tryd.f3.params[j]? = some t → args[j]? = some v → Value.okWide Tryd.prog W .any base t v := hval0
  have hW1 := hW
  obtain ⟨p, q, hA0, hV, rfl, hfz, hnd⟩ := hW
  have hA : DataW.TrodAll enc Tryd.prog W 0 (fun _ => true) true Tryd.f3.params.toList args.toList ds p := hA0
  have hB := hA
  rw [Tryd.params3] at hA hval
  obtain ⟨rfl, rfl⟩ := trodVars_none hV
  have hA2 := hA
  obtain ⟨v0, vs0, d0, ds0, p0, q0, ha0, rfl, hp0, h0, r0⟩ := trodAll_cons hA2
  obtain ⟨_, rfl, _⟩ := trodAll_nil r0
  refine (row_calls (RdAll.cons (RdV.agg rd24 Tryd.underlying24) RdAll.nil) laidOut (by kernel_rfl) (fun (x : Tm.Packet × Unit) h => laws_FnExactPacketText_ok 1099511627776 x.1 true (law x h)) enc W base args _ p hA (fun j t v h1 h2 => hval j t v (by simpa using h1) h2) htb).mono fun e W2 hh => ?_
  obtain ⟨he, bel, hT⟩ := hh
  subst he
  exact ⟨_, rfl, _, _, _, [], _, [], hW1, trodAll_mk1 (shut_bool Tryd.underlying4 _), hT, rfl, bel.frame _, fun h => by cases h⟩
theorem over : Rows.fnExactPacketTextRow.holds Tryd.pinned (OpenSpec.ofChange Rows.fnExactPacketTextSpec) :=
  OpenClaim.holds_of_wide 3 Tryd.f3 rfl rfl rfl rfl rfl rfl rfl ⟨rfl, rfl, rfl, rfl, rfl⟩ rfl rfl rfl rfl rfl (by kernel_rfl) Tryd.func3 (by kernel_rfl)
    (of_decide_eq_true (by kernel_rfl)) (by unfold Func.isWrapper; first | (rw [if_pos (by decide +kernel)]; kernel_rfl) | (rw [if_neg (by decide +kernel)]; exact ⟨rfl, rfl⟩))
    (fun os started H enc _ => lifted os started H enc)
theorem card : Rows.FnExactPacketTextCardSaid :=
  Claim7.holds_tied_plain_at .later [] [.data, .data, .data] true (true, "c16cfb8a1e6cc1f920c5de2545b23bf12ca8c05e054bd8d3ffc73d51f36e037d") false over (fun _ h => by cases h) (by kernel_rfl) (fun _ h => by cases h) fnExactPacketText_row_tie rfl ⟨rfl, rfl⟩ (by kernel_rfl) rfl
    (fun f fn hf hfn => by
      obtain rfl : f = 3 := Option.some.inj ((show Tryd.prog.funcNamed "loop.example/g00503/laws.FnExactPacketText" = some 3 by kernel_rfl).symm.trans hf) |>.symm
      obtain rfl : fn = Tryd.f3 := (Option.some.inj (Tryd.func3.symm.trans hfn)).symm
      exact ⟨by kernel_rfl, fun j t ht => by
        rw [Tryd.params3] at ht
        have hm : t ∈ [24] := by simpa using Array.mem_of_getElem? ht
        have hall : ([24].all fun u => !Tryd.prog.wantsStandIn u) = true := by kernel_rfl
        exact (show Tryd.prog.wantsStandIn t = false by simpa using List.all_eq_true.1 hall t hm)⟩)
    (by kernel_rfl)
#print axioms card
end Go.Proofs.YtohcknmdebahiaaDoor.fnExactPacketText
namespace Go.Proofs.YtohcknmdebahiaaDoor
theorem fnExactPacketText_holds : Rows.FnExactPacketTextCardSaid := fnExactPacketText.card
end Go.Proofs.YtohcknmdebahiaaDoor