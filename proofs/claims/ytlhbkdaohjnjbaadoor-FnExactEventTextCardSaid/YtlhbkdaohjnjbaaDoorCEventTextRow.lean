/- The law FnExactEventText holds for every input, as its row says; under no condition. -/
import Derived.Test.YtlhbkdaohjnjbaaDoorCEventTextK1
import Derived.Test.YtlhbkdaohjnjbaaDoorCEventTextP1
import Derived.Test.YtlhbkdaohjnjbaaDoorRows
import Derived.WalkKit
import Derived.ProofKit
import Derived.OpenShut
import Derived.ShutString
import Derived.ChangeOld
import Derived.Below
import Derived.SizedLaws
import Derived.Test.YtlhbkdaohjnjbaaDoorTm35
import Derived.Test.YtlhbkdaohjnjbaaDoorTie
import Derived.Test.YtlhbkdaohjnjbaaDoorCards
import Derived.Lay
import Derived.Stop.LaidErr
import Derived.LaidMore
import Derived.SevenTiedAt
import Derived.Lib.LaidTab
set_option maxRecDepth 100000
set_option linter.unusedVariables false
set_option linter.unusedSimpArgs false
namespace Go.Proofs.YtlhbkdaohjnjbaaDoor.fnExactEventText
open Go.Tm Go.RowKit Go.ChangeShapes Go.WideShapes Go.ChangeAt Go.ChangeMaps
theorem rd24 : RdTy Tryd.prog 24 3 Tm.Packet.wf Tm.Packet.enc := RdTy.map (RdTy.struct Tryd.underlying24 (by kernel_rfl) (RdFs.cons (n := 1) (m := 2) rfl (RdTy.int (k := .i64) Tryd.underlying3 (by kernel_rfl)) (RdFs.cons (n := 1) (m := 1) rfl (RdTy.int (k := .i64) Tryd.underlying3 (by kernel_rfl)) (RdFs.cons (n := 1) (m := 0) rfl (RdTy.slice Tryd.underlying22 (by kernel_rfl) (RdTy.int (k := .u8) Tryd.underlying5 (by kernel_rfl))) RdFs.nil)))) (fun (x : Int × Int × (List Int) × Unit) => ⟨x.1, x.2.1, x.2.2.1⟩) (fun _ => rfl) (fun _ => rfl) (fun _ h => h)
theorem rd26 : RdTy Tryd.prog 26 6 Tm.Event.wf Tm.Event.enc := RdTy.map (RdTy.struct Tryd.underlying26 (by kernel_rfl) (RdFs.cons (n := 1) (m := 5) rfl (RdTy.int (k := .i64) Tryd.underlying3 (by kernel_rfl)) (RdFs.cons (n := 1) (m := 4) rfl (RdTy.int (k := .i64) Tryd.underlying3 (by kernel_rfl)) (RdFs.cons (n := 1) (m := 3) rfl (RdTy.int (k := .i64) Tryd.underlying3 (by kernel_rfl)) (RdFs.cons (n := 3) (m := 0) rfl rd24 RdFs.nil))))) (fun (x : Int × Int × Int × Tm.Packet × Unit) => ⟨x.1, x.2.1, x.2.2.1, x.2.2.2.1⟩) (fun _ => rfl) (fun _ => rfl) (fun _ h => h)
theorem own : ownKnob Tryd.prog.godebug = none := by kernel_rfl
theorem laidOut : laidOutB Tryd.prog = true := by kernel_rfl
theorem law (x : Tm.Event × Unit) (h : Tm.Event.wf x.1 ∧ True) : laws_FnExactEventText 1099511627776 x.1 = some true := Pu.EventText_law x.1 h
theorem tbw {W : World} (h : laidMetH Tryd.prog [("math/bits.deBruijn32tab", Rows.laid_math_bits_deBruijn32tab), ("math/bits.deBruijn64tab", Rows.laid_math_bits_deBruijn64tab), ("internal/strconv.uint64pow10", Rows.laid_internal_strconv_uint64pow10)] W) : TbW Tryd.prog W fun _ => False := by
  rw [MakeChecks.laidMetH_plain _ _ _ (by kernel_rfl)] at h
  have h3 : laidMet Tryd.prog (("internal/strconv.uint64pow10", Rows.laid_internal_strconv_uint64pow10) :: []) W := h.tail.tail
  have e : (Rows.laid_internal_strconv_uint64pow10 : DataW Unit) = Lib.tabData .u64 Lib.pow10Tab := by kernel_rfl
  rw [e] at h3
  exact fun k hk => ⟨Lib.tabIs_of_head (g := 0) (t := 54) (e := 47) (n := 20) (by kernel_rfl) (by kernel_rfl) Tryd.underlying54 Tryd.underlying47 (by kernel_rfl) (by kernel_rfl) h3, fun h => h⟩
theorem lifted (os : Os) (started : os.Started) (H : Type) (enc : TypeId × Value → H) :
    ReturnsInHanded {} Tryd.checked os 3 .any (fun w args => (Rows.fnExactEventTextSpec.pre enc Tryd.prog Tryd.f3 [] false w args ∧ laidMetH Tryd.prog Rows.fnExactEventTextRow.laid w) ∧ sizedMet enc Tryd.prog Tryd.f3 (OpenSpec.ofChange Rows.fnExactEventTextSpec) false w args)
      (Rows.fnExactEventTextSpec.post enc Tryd.prog Tryd.f3 false true false false) := by
  refine returnsInHanded_of_change_and (C := Tryd.checked) (X := fun w _ => laidMetH Tryd.prog Rows.fnExactEventTextRow.laid w) (fun _ _ _ hh h => h.of_heap hh) own started (by kernel_rfl) Tryd.func3
    (ChangeSpec.witness_shaped (enc := enc) (C := Tryd.checked) (os := os) (X := fun w _ => laidMetH Tryd.prog Rows.fnExactEventTextRow.laid w) false (World.laidAll Tryd.prog os Rows.fnExactEventTextRow.laid) #[.agg #[.int .i64 0, .int .i64 0, .int .i64 0, .int .i64 0, .int .i64 0, .slice none 0 0]] 8 (World.laidAll_os _ _ _)
      (World.shaped_of_ZipB (by kernel_rfl) (by kernel_rfl)) (by kernel_rfl) (by kernel_rfl) (by kernel_rfl)
      (by rw [MakeChecks.laidMetH_plain _ _ _ (by kernel_rfl)]; exact laidMet_laidAll _ (by kernel_rfl) (by kernel_rfl))) ?_
  intro W base args ds gs before hval0 hW hcnd hsz0 hL _
  have htb := tbw hL
  have hval : ∀ (j : Nat) t v, Tryd.f3.params[j]? = some t → args[j]? = some v → Value.okWide Tryd.prog W .any base t v := hval0
  have hW1 := hW
  obtain ⟨p, q, hA0, hV, rfl, hfz, hnd⟩ := hW
  have hA : DataW.TrodAll enc Tryd.prog W 0 (fun _ => true) true Tryd.f3.params.toList args.toList ds p := hA0
  have hB := hA
  rw [Tryd.params3] at hA hval
  obtain ⟨rfl, rfl⟩ := trodVars_none hV
  have hA2 := hA
  obtain ⟨v0, vs0, d0, ds0, p0, q0, ha0, rfl, hp0, h0, r0⟩ := trodAll_cons hA2
  obtain ⟨_, rfl, _⟩ := trodAll_nil r0
  refine (row_calls (RdAll.cons (RdV.agg rd26 Tryd.underlying26) RdAll.nil) laidOut (by kernel_rfl) (fun (x : Tm.Event × Unit) h => laws_FnExactEventText_ok 1099511627776 x.1 true (law x h)) enc W base args _ p hA (fun j t v h1 h2 => hval j t v (by simpa using h1) h2) htb).mono fun e W2 hh => ?_
  obtain ⟨he, bel, hT⟩ := hh
  subst he
  exact ⟨_, rfl, _, _, _, [], _, [], hW1, trodAll_mk1 (shut_bool Tryd.underlying4 _), hT, rfl, bel.frame _, fun h => by cases h⟩
theorem over : Rows.fnExactEventTextRow.holds Tryd.pinned (OpenSpec.ofChange Rows.fnExactEventTextSpec) :=
  OpenClaim.holds_of_wide 3 Tryd.f3 rfl rfl rfl rfl rfl rfl rfl ⟨rfl, rfl, rfl, rfl, rfl⟩ rfl rfl rfl rfl rfl (by kernel_rfl) Tryd.func3 (by kernel_rfl)
    (of_decide_eq_true (by kernel_rfl)) (by unfold Func.isWrapper; first | (rw [if_pos (by decide +kernel)]; kernel_rfl) | (rw [if_neg (by decide +kernel)]; exact ⟨rfl, rfl⟩))
    (fun os started H enc _ => lifted os started H enc)
theorem card : Rows.FnExactEventTextCardSaid :=
  Claim7.holds_tied_plain_at .later [] [.data, .data, .data] true (true, "a5adee82117b9a655f075a4e8d6144c4837895eda0e779822dbe2c82c48beadd") false over (fun _ h => by cases h) (by kernel_rfl) (fun _ h => by cases h) fnExactEventText_row_tie rfl ⟨rfl, rfl⟩ (by kernel_rfl) rfl
    (fun f fn hf hfn => by
      obtain rfl : f = 3 := Option.some.inj ((show Tryd.prog.funcNamed "loop.example/g00503/laws.FnExactEventText" = some 3 by kernel_rfl).symm.trans hf) |>.symm
      obtain rfl : fn = Tryd.f3 := (Option.some.inj (Tryd.func3.symm.trans hfn)).symm
      exact ⟨by kernel_rfl, fun j t ht => by
        rw [Tryd.params3] at ht
        have hm : t ∈ [26] := by simpa using Array.mem_of_getElem? ht
        have hall : ([26].all fun u => !Tryd.prog.wantsStandIn u) = true := by kernel_rfl
        exact (show Tryd.prog.wantsStandIn t = false by simpa using List.all_eq_true.1 hall t hm)⟩)
    (by kernel_rfl)
#print axioms card
end Go.Proofs.YtlhbkdaohjnjbaaDoor.fnExactEventText
namespace Go.Proofs.YtlhbkdaohjnjbaaDoor
theorem fnExactEventText_holds : Rows.FnExactEventTextCardSaid := fnExactEventText.card
end Go.Proofs.YtlhbkdaohjnjbaaDoor