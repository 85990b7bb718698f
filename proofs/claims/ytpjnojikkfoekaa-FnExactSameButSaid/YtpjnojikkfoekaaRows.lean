/-
  No cell of these rows narrows 'for every input' (looked for: loops, veiled, ifaces, maps, wideKeys, modest, calm, conditions, laid).
  DERIVED. THE GIVEN ROWS OF THIS SEAT. 10 by the template 'for every input the law returns true; each argument reads behind the call as it read before'; 0 by the template 'total and deterministic' (their statements: YtpjnojikkfoekaaTotals.lean).
  GIVEN WITH THE SEED: the statements are not yours to turn. If you find one false, say at which input.
  Laid BY PROGRAM, IN A SANDBOX (cutbox-rows.mjs): the forced cells as the released guide's own fill.sh prints them over the translation 4fc31be51c549298… (all of the seat's roots in one cut). By AI agents, Wed Nov 11 2026. No macro, syntax, notation, axiom, sorry.
-/
import Derived.Test.YtpjnojikkfoekaaChecked
import GoSem.Claim
import GoSem.ClaimJoined
import GoSem.ClaimMapViews
import Derived.JoinedTies
import Derived.KernelRfl
namespace Go.Proofs.Ytpjnojikkfoekaa
/- THE CELL 'sum', in the pinned program and in every row, IS THE sha256 OF THE DUMP (.gsa) THAT YtpjnojikkfoekaaProg.lean LOADS. Nothing in Lean hashes anything: it is a label: what it is worth is what the hold of that sum in a sandbox is worth. -/
noncomputable def Try.pinned : Pinned := { name := "ytpjnojikkfoekaa", sum := "4fc31be51c549298844c841d123624b877e835fa5cc5a661c62ae65e262798c1", checked := Try.checked }
namespace Rows
def none {H : Type} : Left H := { results := [], args := [] }

/-- 'laws.FnExactWorstFor': WHATEVER THE INPUT: true; the input reads as it did. -/
def fnExactWorstForSpec : ChangeSpec := { name := "fnExactWorstFor", fn := fun _ => fun
  | [d1, d2, d3] => { results := [.lit (.bool true)], args := [d1, d2, d3] }
  | _ => none }
def fnExactWorstForRow : OpenClaim := { program := "ytpjnojikkfoekaa", sum := "4fc31be51c549298844c841d123624b877e835fa5cc5a661c62ae65e262798c1", func := "loop.example/g00503/laws.FnExactWorstFor", spec := "fnExactWorstFor", plainKeys := false, apart := false }
def FnExactWorstForSaid : Prop := fnExactWorstForRow.holds Try.pinned (OpenSpec.ofChange fnExactWorstForSpec)

/-- ITS FALSE NEIGHBOUR: 'it returns false'. Refute it at one input. -/
def fnExactWorstForWrong : ChangeSpec := { name := "fnExactWorstFor", fn := fun _ => fun
  | [d1, d2, d3] => { results := [.lit (.bool false)], args := [d1, d2, d3] }
  | _ => none }
def FnExactWorstForWrongFalsely : Prop := fnExactWorstForRow.holds Try.pinned (OpenSpec.ofChange fnExactWorstForWrong)

/-- 'laws.FnExactCostOf': WHATEVER THE INPUT: true; the input reads as it did. -/
def fnExactCostOfSpec : ChangeSpec := { name := "fnExactCostOf", fn := fun _ => fun
  | [d1, d2, d3] => { results := [.lit (.bool true)], args := [d1, d2, d3] }
  | _ => none }
def fnExactCostOfRow : OpenClaim := { program := "ytpjnojikkfoekaa", sum := "4fc31be51c549298844c841d123624b877e835fa5cc5a661c62ae65e262798c1", func := "loop.example/g00503/laws.FnExactCostOf", spec := "fnExactCostOf", plainKeys := false, apart := false }
def FnExactCostOfSaid : Prop := fnExactCostOfRow.holds Try.pinned (OpenSpec.ofChange fnExactCostOfSpec)

/-- ITS FALSE NEIGHBOUR: 'it returns false'. Refute it at one input. -/
def fnExactCostOfWrong : ChangeSpec := { name := "fnExactCostOf", fn := fun _ => fun
  | [d1, d2, d3] => { results := [.lit (.bool false)], args := [d1, d2, d3] }
  | _ => none }
def FnExactCostOfWrongFalsely : Prop := fnExactCostOfRow.holds Try.pinned (OpenSpec.ofChange fnExactCostOfWrong)

/-- 'laws.FnExactBestSize': WHATEVER THE INPUT: true; the input reads as it did. -/
def fnExactBestSizeSpec : ChangeSpec := { name := "fnExactBestSize", fn := fun _ => fun
  | [d1, d2] => { results := [.lit (.bool true)], args := [d1, d2] }
  | _ => none }
def fnExactBestSizeRow : OpenClaim := { program := "ytpjnojikkfoekaa", sum := "4fc31be51c549298844c841d123624b877e835fa5cc5a661c62ae65e262798c1", func := "loop.example/g00503/laws.FnExactBestSize", spec := "fnExactBestSize", plainKeys := false, apart := false }
def FnExactBestSizeSaid : Prop := fnExactBestSizeRow.holds Try.pinned (OpenSpec.ofChange fnExactBestSizeSpec)

/-- ITS FALSE NEIGHBOUR: 'it returns false'. Refute it at one input. -/
def fnExactBestSizeWrong : ChangeSpec := { name := "fnExactBestSize", fn := fun _ => fun
  | [d1, d2] => { results := [.lit (.bool false)], args := [d1, d2] }
  | _ => none }
def FnExactBestSizeWrongFalsely : Prop := fnExactBestSizeRow.holds Try.pinned (OpenSpec.ofChange fnExactBestSizeWrong)

/-- 'laws.FnExactResting': WHATEVER THE INPUT: true; the input reads as it did. -/
def fnExactRestingSpec : ChangeSpec := { name := "fnExactResting", fn := fun _ => fun
  | [d] => { results := [.lit (.bool true)], args := [d] }
  | _ => none }
def fnExactRestingRow : OpenClaim := { program := "ytpjnojikkfoekaa", sum := "4fc31be51c549298844c841d123624b877e835fa5cc5a661c62ae65e262798c1", func := "loop.example/g00503/laws.FnExactResting", spec := "fnExactResting", plainKeys := false, apart := false }
def FnExactRestingSaid : Prop := fnExactRestingRow.holds Try.pinned (OpenSpec.ofChange fnExactRestingSpec)

/-- ITS FALSE NEIGHBOUR: 'it returns false'. Refute it at one input. -/
def fnExactRestingWrong : ChangeSpec := { name := "fnExactResting", fn := fun _ => fun
  | [d] => { results := [.lit (.bool false)], args := [d] }
  | _ => none }
def FnExactRestingWrongFalsely : Prop := fnExactRestingRow.holds Try.pinned (OpenSpec.ofChange fnExactRestingWrong)

/-- 'laws.FnExactTwiceOver': WHATEVER THE INPUT: true; the input reads as it did. -/
def fnExactTwiceOverSpec : ChangeSpec := { name := "fnExactTwiceOver", fn := fun _ => fun
  | [d] => { results := [.lit (.bool true)], args := [d] }
  | _ => none }
def fnExactTwiceOverRow : OpenClaim := { program := "ytpjnojikkfoekaa", sum := "4fc31be51c549298844c841d123624b877e835fa5cc5a661c62ae65e262798c1", func := "loop.example/g00503/laws.FnExactTwiceOver", spec := "fnExactTwiceOver", plainKeys := false, apart := false }
def FnExactTwiceOverSaid : Prop := fnExactTwiceOverRow.holds Try.pinned (OpenSpec.ofChange fnExactTwiceOverSpec)

/-- ITS FALSE NEIGHBOUR: 'it returns false'. Refute it at one input. -/
def fnExactTwiceOverWrong : ChangeSpec := { name := "fnExactTwiceOver", fn := fun _ => fun
  | [d] => { results := [.lit (.bool false)], args := [d] }
  | _ => none }
def FnExactTwiceOverWrongFalsely : Prop := fnExactTwiceOverRow.holds Try.pinned (OpenSpec.ofChange fnExactTwiceOverWrong)

/-- 'laws.FnExactRoundsFor': WHATEVER THE INPUT: true; the input reads as it did. -/
def fnExactRoundsForSpec : ChangeSpec := { name := "fnExactRoundsFor", fn := fun _ => fun
  | [d] => { results := [.lit (.bool true)], args := [d] }
  | _ => none }
def fnExactRoundsForRow : OpenClaim := { program := "ytpjnojikkfoekaa", sum := "4fc31be51c549298844c841d123624b877e835fa5cc5a661c62ae65e262798c1", func := "loop.example/g00503/laws.FnExactRoundsFor", spec := "fnExactRoundsFor", plainKeys := false, apart := false }
def FnExactRoundsForSaid : Prop := fnExactRoundsForRow.holds Try.pinned (OpenSpec.ofChange fnExactRoundsForSpec)

/-- ITS FALSE NEIGHBOUR: 'it returns false'. Refute it at one input. -/
def fnExactRoundsForWrong : ChangeSpec := { name := "fnExactRoundsFor", fn := fun _ => fun
  | [d] => { results := [.lit (.bool false)], args := [d] }
  | _ => none }
def FnExactRoundsForWrongFalsely : Prop := fnExactRoundsForRow.holds Try.pinned (OpenSpec.ofChange fnExactRoundsForWrong)

/-- 'laws.FnExactInTo': WHATEVER THE INPUT: true; the input reads as it did. -/
def fnExactInToSpec : ChangeSpec := { name := "fnExactInTo", fn := fun _ => fun
  | [d1, d2] => { results := [.lit (.bool true)], args := [d1, d2] }
  | _ => none }
def fnExactInToRow : OpenClaim := { program := "ytpjnojikkfoekaa", sum := "4fc31be51c549298844c841d123624b877e835fa5cc5a661c62ae65e262798c1", func := "loop.example/g00503/laws.FnExactInTo", spec := "fnExactInTo", plainKeys := false, apart := false }
def FnExactInToSaid : Prop := fnExactInToRow.holds Try.pinned (OpenSpec.ofChange fnExactInToSpec)

/-- ITS FALSE NEIGHBOUR: 'it returns false'. Refute it at one input. -/
def fnExactInToWrong : ChangeSpec := { name := "fnExactInTo", fn := fun _ => fun
  | [d1, d2] => { results := [.lit (.bool false)], args := [d1, d2] }
  | _ => none }
def FnExactInToWrongFalsely : Prop := fnExactInToRow.holds Try.pinned (OpenSpec.ofChange fnExactInToWrong)

/-- 'laws.FnExactBytesOver': WHATEVER THE INPUT: true; the input reads as it did. -/
def fnExactBytesOverSpec : ChangeSpec := { name := "fnExactBytesOver", fn := fun _ => fun
  | [d1, d2, d3] => { results := [.lit (.bool true)], args := [d1, d2, d3] }
  | _ => none }
def fnExactBytesOverRow : OpenClaim := { program := "ytpjnojikkfoekaa", sum := "4fc31be51c549298844c841d123624b877e835fa5cc5a661c62ae65e262798c1", func := "loop.example/g00503/laws.FnExactBytesOver", spec := "fnExactBytesOver", plainKeys := false, apart := false }
def FnExactBytesOverSaid : Prop := fnExactBytesOverRow.holds Try.pinned (OpenSpec.ofChange fnExactBytesOverSpec)

/-- ITS FALSE NEIGHBOUR: 'it returns false'. Refute it at one input. -/
def fnExactBytesOverWrong : ChangeSpec := { name := "fnExactBytesOver", fn := fun _ => fun
  | [d1, d2, d3] => { results := [.lit (.bool false)], args := [d1, d2, d3] }
  | _ => none }
def FnExactBytesOverWrongFalsely : Prop := fnExactBytesOverRow.holds Try.pinned (OpenSpec.ofChange fnExactBytesOverWrong)

/-- 'laws.FnExactStateOf': WHATEVER THE INPUT: true; the input reads as it did. -/
def fnExactStateOfSpec : ChangeSpec := { name := "fnExactStateOf", fn := fun _ => fun
  | [d1, d2] => { results := [.lit (.bool true)], args := [d1, d2] }
  | _ => none }
def fnExactStateOfRow : OpenClaim := { program := "ytpjnojikkfoekaa", sum := "4fc31be51c549298844c841d123624b877e835fa5cc5a661c62ae65e262798c1", func := "loop.example/g00503/laws.FnExactStateOf", spec := "fnExactStateOf", unfollowed := true, recurses := true, plainKeys := false, apart := false }
def FnExactStateOfSaid : Prop := fnExactStateOfRow.holds Try.pinned (OpenSpec.ofChange fnExactStateOfSpec)

/-- ITS FALSE NEIGHBOUR: 'it returns false'. Refute it at one input. -/
def fnExactStateOfWrong : ChangeSpec := { name := "fnExactStateOf", fn := fun _ => fun
  | [d1, d2] => { results := [.lit (.bool false)], args := [d1, d2] }
  | _ => none }
def FnExactStateOfWrongFalsely : Prop := fnExactStateOfRow.holds Try.pinned (OpenSpec.ofChange fnExactStateOfWrong)

/-- 'laws.FnExactSameBut': WHATEVER THE INPUT: true; the input reads as it did. -/
def fnExactSameButSpec : ChangeSpec := { name := "fnExactSameBut", fn := fun _ => fun
  | [d1, d2] => { results := [.lit (.bool true)], args := [d1, d2] }
  | _ => none }
def fnExactSameButRow : OpenClaim := { program := "ytpjnojikkfoekaa", sum := "4fc31be51c549298844c841d123624b877e835fa5cc5a661c62ae65e262798c1", func := "loop.example/g00503/laws.FnExactSameBut", spec := "fnExactSameBut", unfollowed := true, recurses := true, plainKeys := false, apart := false }
def FnExactSameButSaid : Prop := fnExactSameButRow.holds Try.pinned (OpenSpec.ofChange fnExactSameButSpec)

/-- ITS FALSE NEIGHBOUR: 'it returns false'. Refute it at one input. -/
def fnExactSameButWrong : ChangeSpec := { name := "fnExactSameBut", fn := fun _ => fun
  | [d1, d2] => { results := [.lit (.bool false)], args := [d1, d2] }
  | _ => none }
def FnExactSameButWrongFalsely : Prop := fnExactSameButRow.holds Try.pinned (OpenSpec.ofChange fnExactSameButWrong)

/- THE SECOND FORM. 'bulk': how many values and letters a reading holds, each counted each time it is reached (what is shared counts as often as it is met; a slice's spare places count too). A statement '..UptoSaid' is the law's where the arguments, and the package variables that the reading takes, are together of bulk at most 1048576: NARROWER than '..Said'. Prove '..Said' where nothing that the law and all that it calls make is longer than what came in: it says more and counts as full. Else prove '..UptoSaid'. A law counts once. -/
mutual
def uptoBulk {H : Type} : DataW H → Nat
  | .lit (.string bytes) => bytes.length + 1
  | .lit _ => 1
  | .nil => 1
  | .ptr d => uptoBulk d + 1
  | .slice elems spare => uptoBulkAll elems + uptoBulkAll spare + 1
  | .agg parts => uptoBulkAll parts + 1
  | .iface _ d => uptoBulk d + 1
  | .map entries => uptoBulkEntries entries + 1
  | .held _ => 1
def uptoBulkAll {H : Type} : List (DataW H) → Nat
  | [] => 0
  | d :: r => uptoBulk d + uptoBulkAll r
def uptoBulkEntries {H : Type} : List (Lit × DataW H) → Nat
  | [] => 0
  | x :: r => uptoBulkEntry x + uptoBulkEntries r
def uptoBulkEntry {H : Type} : Lit × DataW H → Nat
  | (.string bytes, d) => bytes.length + uptoBulk d + 1
  | (_, d) => uptoBulk d + 1
 end
def uptoSmall : (H : Type) → List (DataW H) → Bool := fun _ ds => decide (uptoBulkAll ds ≤ 1048576)
def OpenSpec.upto (s : _root_.Go.ChangeSpec) : _root_.Go.OpenSpec := { _root_.Go.OpenSpec.ofChange s with cond := some uptoSmall }

/-- 'laws.FnExactWorstFor', WHERE WHAT IT READS IS OF BULK AT MOST 1048576: true; the input reads as it did. -/
def fnExactWorstForUptoRow : OpenClaim := { program := "ytpjnojikkfoekaa", sum := "4fc31be51c549298844c841d123624b877e835fa5cc5a661c62ae65e262798c1", func := "loop.example/g00503/laws.FnExactWorstFor", spec := "fnExactWorstFor", plainKeys := false, apart := false, narrowed := true }
def FnExactWorstForUptoSaid : Prop := fnExactWorstForUptoRow.holds Try.pinned (OpenSpec.upto fnExactWorstForSpec)

/-- 'laws.FnExactCostOf', WHERE WHAT IT READS IS OF BULK AT MOST 1048576: true; the input reads as it did. -/
def fnExactCostOfUptoRow : OpenClaim := { program := "ytpjnojikkfoekaa", sum := "4fc31be51c549298844c841d123624b877e835fa5cc5a661c62ae65e262798c1", func := "loop.example/g00503/laws.FnExactCostOf", spec := "fnExactCostOf", plainKeys := false, apart := false, narrowed := true }
def FnExactCostOfUptoSaid : Prop := fnExactCostOfUptoRow.holds Try.pinned (OpenSpec.upto fnExactCostOfSpec)

/-- 'laws.FnExactBestSize', WHERE WHAT IT READS IS OF BULK AT MOST 1048576: true; the input reads as it did. -/
def fnExactBestSizeUptoRow : OpenClaim := { program := "ytpjnojikkfoekaa", sum := "4fc31be51c549298844c841d123624b877e835fa5cc5a661c62ae65e262798c1", func := "loop.example/g00503/laws.FnExactBestSize", spec := "fnExactBestSize", plainKeys := false, apart := false, narrowed := true }
def FnExactBestSizeUptoSaid : Prop := fnExactBestSizeUptoRow.holds Try.pinned (OpenSpec.upto fnExactBestSizeSpec)

/-- 'laws.FnExactResting', WHERE WHAT IT READS IS OF BULK AT MOST 1048576: true; the input reads as it did. -/
def fnExactRestingUptoRow : OpenClaim := { program := "ytpjnojikkfoekaa", sum := "4fc31be51c549298844c841d123624b877e835fa5cc5a661c62ae65e262798c1", func := "loop.example/g00503/laws.FnExactResting", spec := "fnExactResting", plainKeys := false, apart := false, narrowed := true }
def FnExactRestingUptoSaid : Prop := fnExactRestingUptoRow.holds Try.pinned (OpenSpec.upto fnExactRestingSpec)

/-- 'laws.FnExactTwiceOver', WHERE WHAT IT READS IS OF BULK AT MOST 1048576: true; the input reads as it did. -/
def fnExactTwiceOverUptoRow : OpenClaim := { program := "ytpjnojikkfoekaa", sum := "4fc31be51c549298844c841d123624b877e835fa5cc5a661c62ae65e262798c1", func := "loop.example/g00503/laws.FnExactTwiceOver", spec := "fnExactTwiceOver", plainKeys := false, apart := false, narrowed := true }
def FnExactTwiceOverUptoSaid : Prop := fnExactTwiceOverUptoRow.holds Try.pinned (OpenSpec.upto fnExactTwiceOverSpec)

/-- 'laws.FnExactRoundsFor', WHERE WHAT IT READS IS OF BULK AT MOST 1048576: true; the input reads as it did. -/
def fnExactRoundsForUptoRow : OpenClaim := { program := "ytpjnojikkfoekaa", sum := "4fc31be51c549298844c841d123624b877e835fa5cc5a661c62ae65e262798c1", func := "loop.example/g00503/laws.FnExactRoundsFor", spec := "fnExactRoundsFor", plainKeys := false, apart := false, narrowed := true }
def FnExactRoundsForUptoSaid : Prop := fnExactRoundsForUptoRow.holds Try.pinned (OpenSpec.upto fnExactRoundsForSpec)

/-- 'laws.FnExactInTo', WHERE WHAT IT READS IS OF BULK AT MOST 1048576: true; the input reads as it did. -/
def fnExactInToUptoRow : OpenClaim := { program := "ytpjnojikkfoekaa", sum := "4fc31be51c549298844c841d123624b877e835fa5cc5a661c62ae65e262798c1", func := "loop.example/g00503/laws.FnExactInTo", spec := "fnExactInTo", plainKeys := false, apart := false, narrowed := true }
def FnExactInToUptoSaid : Prop := fnExactInToUptoRow.holds Try.pinned (OpenSpec.upto fnExactInToSpec)

/-- 'laws.FnExactBytesOver', WHERE WHAT IT READS IS OF BULK AT MOST 1048576: true; the input reads as it did. -/
def fnExactBytesOverUptoRow : OpenClaim := { program := "ytpjnojikkfoekaa", sum := "4fc31be51c549298844c841d123624b877e835fa5cc5a661c62ae65e262798c1", func := "loop.example/g00503/laws.FnExactBytesOver", spec := "fnExactBytesOver", plainKeys := false, apart := false, narrowed := true }
def FnExactBytesOverUptoSaid : Prop := fnExactBytesOverUptoRow.holds Try.pinned (OpenSpec.upto fnExactBytesOverSpec)

/-- 'laws.FnExactStateOf', WHERE WHAT IT READS IS OF BULK AT MOST 1048576: true; the input reads as it did. -/
def fnExactStateOfUptoRow : OpenClaim := { program := "ytpjnojikkfoekaa", sum := "4fc31be51c549298844c841d123624b877e835fa5cc5a661c62ae65e262798c1", func := "loop.example/g00503/laws.FnExactStateOf", spec := "fnExactStateOf", unfollowed := true, recurses := true, plainKeys := false, apart := false, narrowed := true }
def FnExactStateOfUptoSaid : Prop := fnExactStateOfUptoRow.holds Try.pinned (OpenSpec.upto fnExactStateOfSpec)

/-- 'laws.FnExactSameBut', WHERE WHAT IT READS IS OF BULK AT MOST 1048576: true; the input reads as it did. -/
def fnExactSameButUptoRow : OpenClaim := { program := "ytpjnojikkfoekaa", sum := "4fc31be51c549298844c841d123624b877e835fa5cc5a661c62ae65e262798c1", func := "loop.example/g00503/laws.FnExactSameBut", spec := "fnExactSameBut", unfollowed := true, recurses := true, plainKeys := false, apart := false, narrowed := true }
def FnExactSameButUptoSaid : Prop := fnExactSameButUptoRow.holds Try.pinned (OpenSpec.upto fnExactSameButSpec)

end Rows
end Go.Proofs.Ytpjnojikkfoekaa
