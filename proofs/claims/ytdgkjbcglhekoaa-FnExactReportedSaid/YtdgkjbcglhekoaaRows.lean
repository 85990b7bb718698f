/-
  No cell of these rows narrows 'for every input' (looked for: loops, veiled, ifaces, maps, wideKeys, modest, calm, conditions, laid).
  DERIVED. THE GIVEN ROWS OF THIS SEAT. 3 by the template 'for every input the law returns true; each argument reads behind the call as it read before'; 0 by the template 'total and deterministic' (their statements: YtdgkjbcglhekoaaTotals.lean).
  GIVEN WITH THE SEED: the statements are not yours to turn. If you find one false, say at which input.
  Laid BY PROGRAM, IN A SANDBOX (cutbox-rows.mjs): the forced cells as the released guide's own fill.sh prints them over the translation 4201b01adf5a0896… (all of the seat's roots in one cut). By AI agents, Wed Nov 11 2026. No macro, syntax, notation, axiom, sorry.
-/
import Derived.Test.YtdgkjbcglhekoaaChecked
import GoSem.Claim
import GoSem.ClaimJoined
import GoSem.ClaimMapViews
import Derived.JoinedTies
import Derived.KernelRfl
namespace Go.Proofs.Ytdgkjbcglhekoaa
/- THE CELL 'sum', in the pinned program and in every row, IS THE sha256 OF THE DUMP (.gsa) THAT YtdgkjbcglhekoaaProg.lean LOADS. Nothing in Lean hashes anything: it is a label: what it is worth is what the hold of that sum in a sandbox is worth. -/
noncomputable def Try.pinned : Pinned := { name := "ytdgkjbcglhekoaa", sum := "4201b01adf5a08963aaef0b3816f2191a12bc9e9bffa7d1a477a8728ce3b765c", checked := Try.checked }
namespace Rows
def none {H : Type} : Left H := { results := [], args := [] }

/-- 'laws.FnExactPartsOver': WHATEVER THE INPUT: true; the input reads as it did. -/
def fnExactPartsOverSpec : ChangeSpec := { name := "fnExactPartsOver", fn := fun _ => fun
  | [d1, d2, d3] => { results := [.lit (.bool true)], args := [d1, d2, d3] }
  | _ => none }
def fnExactPartsOverRow : OpenClaim := { program := "ytdgkjbcglhekoaa", sum := "4201b01adf5a08963aaef0b3816f2191a12bc9e9bffa7d1a477a8728ce3b765c", func := "loop.example/g00503/laws.FnExactPartsOver", spec := "fnExactPartsOver", apart := false }
def FnExactPartsOverSaid : Prop := fnExactPartsOverRow.holds Try.pinned (OpenSpec.ofChange fnExactPartsOverSpec)

/-- ITS FALSE NEIGHBOUR: 'it returns false'. Refute it at one input. -/
def fnExactPartsOverWrong : ChangeSpec := { name := "fnExactPartsOver", fn := fun _ => fun
  | [d1, d2, d3] => { results := [.lit (.bool false)], args := [d1, d2, d3] }
  | _ => none }
def FnExactPartsOverWrongFalsely : Prop := fnExactPartsOverRow.holds Try.pinned (OpenSpec.ofChange fnExactPartsOverWrong)

/-- 'laws.FnExactCounts': WHATEVER THE INPUT: true; the input reads as it did. -/
def fnExactCountsSpec : ChangeSpec := { name := "fnExactCounts", fn := fun _ => fun
  | [d] => { results := [.lit (.bool true)], args := [d] }
  | _ => none }
def fnExactCountsRow : OpenClaim := { program := "ytdgkjbcglhekoaa", sum := "4201b01adf5a08963aaef0b3816f2191a12bc9e9bffa7d1a477a8728ce3b765c", func := "loop.example/g00503/laws.FnExactCounts", spec := "fnExactCounts", unfollowed := true, recurses := true, apart := false }
def FnExactCountsSaid : Prop := fnExactCountsRow.holds Try.pinned (OpenSpec.ofChange fnExactCountsSpec)

/-- ITS FALSE NEIGHBOUR: 'it returns false'. Refute it at one input. -/
def fnExactCountsWrong : ChangeSpec := { name := "fnExactCounts", fn := fun _ => fun
  | [d] => { results := [.lit (.bool false)], args := [d] }
  | _ => none }
def FnExactCountsWrongFalsely : Prop := fnExactCountsRow.holds Try.pinned (OpenSpec.ofChange fnExactCountsWrong)

/-- 'laws.FnExactReported': WHATEVER THE INPUT: true; the input reads as it did. -/
def fnExactReportedSpec : ChangeSpec := { name := "fnExactReported", fn := fun _ => fun
  | [d] => { results := [.lit (.bool true)], args := [d] }
  | _ => none }
def fnExactReportedRow : OpenClaim := { program := "ytdgkjbcglhekoaa", sum := "4201b01adf5a08963aaef0b3816f2191a12bc9e9bffa7d1a477a8728ce3b765c", func := "loop.example/g00503/laws.FnExactReported", spec := "fnExactReported", unfollowed := true, recurses := true, apart := false }
def FnExactReportedSaid : Prop := fnExactReportedRow.holds Try.pinned (OpenSpec.ofChange fnExactReportedSpec)

/-- ITS FALSE NEIGHBOUR: 'it returns false'. Refute it at one input. -/
def fnExactReportedWrong : ChangeSpec := { name := "fnExactReported", fn := fun _ => fun
  | [d] => { results := [.lit (.bool false)], args := [d] }
  | _ => none }
def FnExactReportedWrongFalsely : Prop := fnExactReportedRow.holds Try.pinned (OpenSpec.ofChange fnExactReportedWrong)

/- THE SECOND FORM. 'bulk': how many values and letters a reading holds, each counted each time it is reached (what is shared counts as often as it is met; a slice's spare places count too). A statement '..UptoSaid' is the law's where the arguments, and the package variables that the reading takes, are together of bulk at most 1048576: NARROWER than '..Said'. Prove '..Said' where nothing that the law and all that it calls make is longer than what came in: it says more and counts as full. Else prove '..UptoSaid'. A law counts once. -/
mutual
def uptoBulk {H : Type} : DataW H → Nat
  | .lit (.string bytes) => bytes.length + 1
  | .lit _ => 1
  | .nil => 1
  | .ptr d => uptoBulk d + 1
  | .slice elems spare => uptoBulkAll elems + uptoBulkAll spare + 1
  | .agg parts => uptoBulkAll parts + 1
  | .iface _ d => uptoBulk d + 1
  | .map entries => uptoBulkEntries entries + 1
  | .held _ => 1
def uptoBulkAll {H : Type} : List (DataW H) → Nat
  | [] => 0
  | d :: r => uptoBulk d + uptoBulkAll r
def uptoBulkEntries {H : Type} : List (Lit × DataW H) → Nat
  | [] => 0
  | x :: r => uptoBulkEntry x + uptoBulkEntries r
def uptoBulkEntry {H : Type} : Lit × DataW H → Nat
  | (.string bytes, d) => bytes.length + uptoBulk d + 1
  | (_, d) => uptoBulk d + 1
 end
def uptoSmall : (H : Type) → List (DataW H) → Bool := fun _ ds => decide (uptoBulkAll ds ≤ 1048576)
def OpenSpec.upto (s : _root_.Go.ChangeSpec) : _root_.Go.OpenSpec := { _root_.Go.OpenSpec.ofChange s with cond := some uptoSmall }

/-- 'laws.FnExactPartsOver', WHERE WHAT IT READS IS OF BULK AT MOST 1048576: true; the input reads as it did. -/
def fnExactPartsOverUptoRow : OpenClaim := { program := "ytdgkjbcglhekoaa", sum := "4201b01adf5a08963aaef0b3816f2191a12bc9e9bffa7d1a477a8728ce3b765c", func := "loop.example/g00503/laws.FnExactPartsOver", spec := "fnExactPartsOver", apart := false, narrowed := true }
def FnExactPartsOverUptoSaid : Prop := fnExactPartsOverUptoRow.holds Try.pinned (OpenSpec.upto fnExactPartsOverSpec)

/-- 'laws.FnExactCounts', WHERE WHAT IT READS IS OF BULK AT MOST 1048576: true; the input reads as it did. -/
def fnExactCountsUptoRow : OpenClaim := { program := "ytdgkjbcglhekoaa", sum := "4201b01adf5a08963aaef0b3816f2191a12bc9e9bffa7d1a477a8728ce3b765c", func := "loop.example/g00503/laws.FnExactCounts", spec := "fnExactCounts", unfollowed := true, recurses := true, apart := false, narrowed := true }
def FnExactCountsUptoSaid : Prop := fnExactCountsUptoRow.holds Try.pinned (OpenSpec.upto fnExactCountsSpec)

/-- 'laws.FnExactReported', WHERE WHAT IT READS IS OF BULK AT MOST 1048576: true; the input reads as it did. -/
def fnExactReportedUptoRow : OpenClaim := { program := "ytdgkjbcglhekoaa", sum := "4201b01adf5a08963aaef0b3816f2191a12bc9e9bffa7d1a477a8728ce3b765c", func := "loop.example/g00503/laws.FnExactReported", spec := "fnExactReported", unfollowed := true, recurses := true, apart := false, narrowed := true }
def FnExactReportedUptoSaid : Prop := fnExactReportedUptoRow.holds Try.pinned (OpenSpec.upto fnExactReportedSpec)

end Rows
end Go.Proofs.Ytdgkjbcglhekoaa
