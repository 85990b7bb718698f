/-
  No cell of these rows narrows 'for every input' (looked for: loops, veiled, ifaces, maps, wideKeys, modest, calm, conditions, laid).
  DERIVED. THE GIVEN ROWS OF THIS SEAT. 9 by the template 'for every input the law returns true; each argument reads behind the call as it read before'; 0 by the template 'total and deterministic' (their statements: YtdgkjbcglhekoaaGreatTotals.lean).
  GIVEN WITH THE SEED: the statements are not yours to turn. If you find one false, say at which input.
  Laid BY PROGRAM, IN A SANDBOX (cutbox-rows.mjs): the forced cells as the released guide's own fill.sh prints them over the translation cf6eb261cdc625eb… (all of the seat's roots in one cut). By AI agents, Wed Nov 11 2026. No macro, syntax, notation, axiom, sorry.
-/
import Derived.Test.YtdgkjbcglhekoaaGreatChecked
import GoSem.Claim
import GoSem.ClaimJoined
import GoSem.ClaimMapViews
import Derived.JoinedTies
import Derived.KernelRfl
namespace Go.Proofs.YtdgkjbcglhekoaaGreat
/- THE CELL 'sum', in the pinned program and in every row, IS THE sha256 OF THE DUMP (.gsa) THAT YtdgkjbcglhekoaaGreatProg.lean LOADS. Nothing in Lean hashes anything: it is a label: what it is worth is what the hold of that sum in a sandbox is worth. -/
noncomputable def Tryz.pinned : Pinned := { name := "ytdgkjbcglhekoaagreat", sum := "cf6eb261cdc625ebcec9c0fd4238483eeecb28bd19ac9fbec2e9785a13ce04c3", checked := Tryz.checked }
namespace Rows
def none {H : Type} : Left H := { results := [], args := [] }

/-- 'laws.FnExactStateText': WHATEVER THE INPUT: true; the input reads as it did. -/
def fnExactStateTextSpec : ChangeSpec := { name := "fnExactStateText", fn := fun _ => fun
  | [d] => { results := [.lit (.bool true)], args := [d] }
  | _ => none }
def fnExactStateTextRow : OpenClaim := { program := "ytdgkjbcglhekoaagreat", sum := "cf6eb261cdc625ebcec9c0fd4238483eeecb28bd19ac9fbec2e9785a13ce04c3", func := "loop.example/g00503/laws.FnExactStateText", spec := "fnExactStateText", unfollowed := true, recurses := true, apart := false }
def FnExactStateTextSaid : Prop := fnExactStateTextRow.holds Tryz.pinned (OpenSpec.ofChange fnExactStateTextSpec)

/-- ITS FALSE NEIGHBOUR: 'it returns false'. Refute it at one input. -/
def fnExactStateTextWrong : ChangeSpec := { name := "fnExactStateText", fn := fun _ => fun
  | [d] => { results := [.lit (.bool false)], args := [d] }
  | _ => none }
def FnExactStateTextWrongFalsely : Prop := fnExactStateTextRow.holds Tryz.pinned (OpenSpec.ofChange fnExactStateTextWrong)

/-- 'laws.FnExactSound': WHATEVER THE INPUT: true; the input reads as it did. -/
def fnExactSoundSpec : ChangeSpec := { name := "fnExactSound", fn := fun _ => fun
  | [d] => { results := [.lit (.bool true)], args := [d] }
  | _ => none }
def fnExactSoundRow : OpenClaim := { program := "ytdgkjbcglhekoaagreat", sum := "cf6eb261cdc625ebcec9c0fd4238483eeecb28bd19ac9fbec2e9785a13ce04c3", func := "loop.example/g00503/laws.FnExactSound", spec := "fnExactSound", unfollowed := true, recurses := true, apart := false }
def FnExactSoundSaid : Prop := fnExactSoundRow.holds Tryz.pinned (OpenSpec.ofChange fnExactSoundSpec)

/-- ITS FALSE NEIGHBOUR: 'it returns false'. Refute it at one input. -/
def fnExactSoundWrong : ChangeSpec := { name := "fnExactSound", fn := fun _ => fun
  | [d] => { results := [.lit (.bool false)], args := [d] }
  | _ => none }
def FnExactSoundWrongFalsely : Prop := fnExactSoundRow.holds Tryz.pinned (OpenSpec.ofChange fnExactSoundWrong)

/-- 'laws.FnExactSafeIn': WHATEVER THE INPUT: true; the input reads as it did. -/
def fnExactSafeInSpec : ChangeSpec := { name := "fnExactSafeIn", fn := fun _ => fun
  | [d] => { results := [.lit (.bool true)], args := [d] }
  | _ => none }
def fnExactSafeInRow : OpenClaim := { program := "ytdgkjbcglhekoaagreat", sum := "cf6eb261cdc625ebcec9c0fd4238483eeecb28bd19ac9fbec2e9785a13ce04c3", func := "loop.example/g00503/laws.FnExactSafeIn", spec := "fnExactSafeIn", unfollowed := true, recurses := true, apart := false }
def FnExactSafeInSaid : Prop := fnExactSafeInRow.holds Tryz.pinned (OpenSpec.ofChange fnExactSafeInSpec)

/-- ITS FALSE NEIGHBOUR: 'it returns false'. Refute it at one input. -/
def fnExactSafeInWrong : ChangeSpec := { name := "fnExactSafeIn", fn := fun _ => fun
  | [d] => { results := [.lit (.bool false)], args := [d] }
  | _ => none }
def FnExactSafeInWrongFalsely : Prop := fnExactSafeInRow.holds Tryz.pinned (OpenSpec.ofChange fnExactSafeInWrong)

/-- 'laws.FnExactComplete': WHATEVER THE INPUT: true; the input reads as it did. -/
def fnExactCompleteSpec : ChangeSpec := { name := "fnExactComplete", fn := fun _ => fun
  | [d] => { results := [.lit (.bool true)], args := [d] }
  | _ => none }
def fnExactCompleteRow : OpenClaim := { program := "ytdgkjbcglhekoaagreat", sum := "cf6eb261cdc625ebcec9c0fd4238483eeecb28bd19ac9fbec2e9785a13ce04c3", func := "loop.example/g00503/laws.FnExactComplete", spec := "fnExactComplete", unfollowed := true, recurses := true, apart := false }
def FnExactCompleteSaid : Prop := fnExactCompleteRow.holds Tryz.pinned (OpenSpec.ofChange fnExactCompleteSpec)

/-- ITS FALSE NEIGHBOUR: 'it returns false'. Refute it at one input. -/
def fnExactCompleteWrong : ChangeSpec := { name := "fnExactComplete", fn := fun _ => fun
  | [d] => { results := [.lit (.bool false)], args := [d] }
  | _ => none }
def FnExactCompleteWrongFalsely : Prop := fnExactCompleteRow.holds Tryz.pinned (OpenSpec.ofChange fnExactCompleteWrong)

/-- 'laws.FnExactStates': WHATEVER THE INPUT: true; the input reads as it did. -/
def fnExactStatesSpec : ChangeSpec := { name := "fnExactStates", fn := fun _ => fun
  | [d] => { results := [.lit (.bool true)], args := [d] }
  | _ => none }
def fnExactStatesRow : OpenClaim := { program := "ytdgkjbcglhekoaagreat", sum := "cf6eb261cdc625ebcec9c0fd4238483eeecb28bd19ac9fbec2e9785a13ce04c3", func := "loop.example/g00503/laws.FnExactStates", spec := "fnExactStates", unfollowed := true, recurses := true, apart := false }
def FnExactStatesSaid : Prop := fnExactStatesRow.holds Tryz.pinned (OpenSpec.ofChange fnExactStatesSpec)

/-- ITS FALSE NEIGHBOUR: 'it returns false'. Refute it at one input. -/
def fnExactStatesWrong : ChangeSpec := { name := "fnExactStates", fn := fun _ => fun
  | [d] => { results := [.lit (.bool false)], args := [d] }
  | _ => none }
def FnExactStatesWrongFalsely : Prop := fnExactStatesRow.holds Tryz.pinned (OpenSpec.ofChange fnExactStatesWrong)

/-- 'laws.FnExactFlipped': WHATEVER THE INPUT: true; the input reads as it did. -/
def fnExactFlippedSpec : ChangeSpec := { name := "fnExactFlipped", fn := fun _ => fun
  | [d1, d2] => { results := [.lit (.bool true)], args := [d1, d2] }
  | _ => none }
def fnExactFlippedRow : OpenClaim := { program := "ytdgkjbcglhekoaagreat", sum := "cf6eb261cdc625ebcec9c0fd4238483eeecb28bd19ac9fbec2e9785a13ce04c3", func := "loop.example/g00503/laws.FnExactFlipped", spec := "fnExactFlipped", unfollowed := true, recurses := true, apart := false }
def FnExactFlippedSaid : Prop := fnExactFlippedRow.holds Tryz.pinned (OpenSpec.ofChange fnExactFlippedSpec)

/-- ITS FALSE NEIGHBOUR: 'it returns false'. Refute it at one input. -/
def fnExactFlippedWrong : ChangeSpec := { name := "fnExactFlipped", fn := fun _ => fun
  | [d1, d2] => { results := [.lit (.bool false)], args := [d1, d2] }
  | _ => none }
def FnExactFlippedWrongFalsely : Prop := fnExactFlippedRow.holds Tryz.pinned (OpenSpec.ofChange fnExactFlippedWrong)

/-- 'laws.FnExactWentBack': WHATEVER THE INPUT: true; the input reads as it did. -/
def fnExactWentBackSpec : ChangeSpec := { name := "fnExactWentBack", fn := fun _ => fun
  | [d1, d2] => { results := [.lit (.bool true)], args := [d1, d2] }
  | _ => none }
def fnExactWentBackRow : OpenClaim := { program := "ytdgkjbcglhekoaagreat", sum := "cf6eb261cdc625ebcec9c0fd4238483eeecb28bd19ac9fbec2e9785a13ce04c3", func := "loop.example/g00503/laws.FnExactWentBack", spec := "fnExactWentBack", unfollowed := true, recurses := true, apart := false }
def FnExactWentBackSaid : Prop := fnExactWentBackRow.holds Tryz.pinned (OpenSpec.ofChange fnExactWentBackSpec)

/-- ITS FALSE NEIGHBOUR: 'it returns false'. Refute it at one input. -/
def fnExactWentBackWrong : ChangeSpec := { name := "fnExactWentBack", fn := fun _ => fun
  | [d1, d2] => { results := [.lit (.bool false)], args := [d1, d2] }
  | _ => none }
def FnExactWentBackWrongFalsely : Prop := fnExactWentBackRow.holds Tryz.pinned (OpenSpec.ofChange fnExactWentBackWrong)

/-- 'laws.FnExactLateIn': WHATEVER THE INPUT: true; the input reads as it did. -/
def fnExactLateInSpec : ChangeSpec := { name := "fnExactLateIn", fn := fun _ => fun
  | [d] => { results := [.lit (.bool true)], args := [d] }
  | _ => none }
def fnExactLateInRow : OpenClaim := { program := "ytdgkjbcglhekoaagreat", sum := "cf6eb261cdc625ebcec9c0fd4238483eeecb28bd19ac9fbec2e9785a13ce04c3", func := "loop.example/g00503/laws.FnExactLateIn", spec := "fnExactLateIn", unfollowed := true, recurses := true, apart := false }
def FnExactLateInSaid : Prop := fnExactLateInRow.holds Tryz.pinned (OpenSpec.ofChange fnExactLateInSpec)

/-- ITS FALSE NEIGHBOUR: 'it returns false'. Refute it at one input. -/
def fnExactLateInWrong : ChangeSpec := { name := "fnExactLateIn", fn := fun _ => fun
  | [d] => { results := [.lit (.bool false)], args := [d] }
  | _ => none }
def FnExactLateInWrongFalsely : Prop := fnExactLateInRow.holds Tryz.pinned (OpenSpec.ofChange fnExactLateInWrong)

/-- 'laws.FnExactNeedOf': WHATEVER THE INPUT: true; the input reads as it did. -/
def fnExactNeedOfSpec : ChangeSpec := { name := "fnExactNeedOf", fn := fun _ => fun
  | [d1, d2] => { results := [.lit (.bool true)], args := [d1, d2] }
  | _ => none }
def fnExactNeedOfRow : OpenClaim := { program := "ytdgkjbcglhekoaagreat", sum := "cf6eb261cdc625ebcec9c0fd4238483eeecb28bd19ac9fbec2e9785a13ce04c3", func := "loop.example/g00503/laws.FnExactNeedOf", spec := "fnExactNeedOf", apart := false }
def FnExactNeedOfSaid : Prop := fnExactNeedOfRow.holds Tryz.pinned (OpenSpec.ofChange fnExactNeedOfSpec)

/-- ITS FALSE NEIGHBOUR: 'it returns false'. Refute it at one input. -/
def fnExactNeedOfWrong : ChangeSpec := { name := "fnExactNeedOf", fn := fun _ => fun
  | [d1, d2] => { results := [.lit (.bool false)], args := [d1, d2] }
  | _ => none }
def FnExactNeedOfWrongFalsely : Prop := fnExactNeedOfRow.holds Tryz.pinned (OpenSpec.ofChange fnExactNeedOfWrong)

/- THE SECOND FORM. 'bulk': how many values and letters a reading holds, each counted each time it is reached (what is shared counts as often as it is met; a slice's spare places count too). A statement '..UptoSaid' is the law's where the arguments, and the package variables that the reading takes, are together of bulk at most 1048576: NARROWER than '..Said'. Prove '..Said' where nothing that the law and all that it calls make is longer than what came in: it says more and counts as full. Else prove '..UptoSaid'. A law counts once. -/
mutual
def uptoBulk {H : Type} : DataW H → Nat
  | .lit (.string bytes) => bytes.length + 1
  | .lit _ => 1
  | .nil => 1
  | .ptr d => uptoBulk d + 1
  | .slice elems spare => uptoBulkAll elems + uptoBulkAll spare + 1
  | .agg parts => uptoBulkAll parts + 1
  | .iface _ d => uptoBulk d + 1
  | .map entries => uptoBulkEntries entries + 1
  | .held _ => 1
def uptoBulkAll {H : Type} : List (DataW H) → Nat
  | [] => 0
  | d :: r => uptoBulk d + uptoBulkAll r
def uptoBulkEntries {H : Type} : List (Lit × DataW H) → Nat
  | [] => 0
  | x :: r => uptoBulkEntry x + uptoBulkEntries r
def uptoBulkEntry {H : Type} : Lit × DataW H → Nat
  | (.string bytes, d) => bytes.length + uptoBulk d + 1
  | (_, d) => uptoBulk d + 1
 end
def uptoSmall : (H : Type) → List (DataW H) → Bool := fun _ ds => decide (uptoBulkAll ds ≤ 1048576)
def OpenSpec.upto (s : _root_.Go.ChangeSpec) : _root_.Go.OpenSpec := { _root_.Go.OpenSpec.ofChange s with cond := some uptoSmall }

/-- 'laws.FnExactStateText', WHERE WHAT IT READS IS OF BULK AT MOST 1048576: true; the input reads as it did. -/
def fnExactStateTextUptoRow : OpenClaim := { program := "ytdgkjbcglhekoaagreat", sum := "cf6eb261cdc625ebcec9c0fd4238483eeecb28bd19ac9fbec2e9785a13ce04c3", func := "loop.example/g00503/laws.FnExactStateText", spec := "fnExactStateText", unfollowed := true, recurses := true, apart := false, narrowed := true }
def FnExactStateTextUptoSaid : Prop := fnExactStateTextUptoRow.holds Tryz.pinned (OpenSpec.upto fnExactStateTextSpec)

/-- 'laws.FnExactSound', WHERE WHAT IT READS IS OF BULK AT MOST 1048576: true; the input reads as it did. -/
def fnExactSoundUptoRow : OpenClaim := { program := "ytdgkjbcglhekoaagreat", sum := "cf6eb261cdc625ebcec9c0fd4238483eeecb28bd19ac9fbec2e9785a13ce04c3", func := "loop.example/g00503/laws.FnExactSound", spec := "fnExactSound", unfollowed := true, recurses := true, apart := false, narrowed := true }
def FnExactSoundUptoSaid : Prop := fnExactSoundUptoRow.holds Tryz.pinned (OpenSpec.upto fnExactSoundSpec)

/-- 'laws.FnExactSafeIn', WHERE WHAT IT READS IS OF BULK AT MOST 1048576: true; the input reads as it did. -/
def fnExactSafeInUptoRow : OpenClaim := { program := "ytdgkjbcglhekoaagreat", sum := "cf6eb261cdc625ebcec9c0fd4238483eeecb28bd19ac9fbec2e9785a13ce04c3", func := "loop.example/g00503/laws.FnExactSafeIn", spec := "fnExactSafeIn", unfollowed := true, recurses := true, apart := false, narrowed := true }
def FnExactSafeInUptoSaid : Prop := fnExactSafeInUptoRow.holds Tryz.pinned (OpenSpec.upto fnExactSafeInSpec)

/-- 'laws.FnExactComplete', WHERE WHAT IT READS IS OF BULK AT MOST 1048576: true; the input reads as it did. -/
def fnExactCompleteUptoRow : OpenClaim := { program := "ytdgkjbcglhekoaagreat", sum := "cf6eb261cdc625ebcec9c0fd4238483eeecb28bd19ac9fbec2e9785a13ce04c3", func := "loop.example/g00503/laws.FnExactComplete", spec := "fnExactComplete", unfollowed := true, recurses := true, apart := false, narrowed := true }
def FnExactCompleteUptoSaid : Prop := fnExactCompleteUptoRow.holds Tryz.pinned (OpenSpec.upto fnExactCompleteSpec)

/-- 'laws.FnExactStates', WHERE WHAT IT READS IS OF BULK AT MOST 1048576: true; the input reads as it did. -/
def fnExactStatesUptoRow : OpenClaim := { program := "ytdgkjbcglhekoaagreat", sum := "cf6eb261cdc625ebcec9c0fd4238483eeecb28bd19ac9fbec2e9785a13ce04c3", func := "loop.example/g00503/laws.FnExactStates", spec := "fnExactStates", unfollowed := true, recurses := true, apart := false, narrowed := true }
def FnExactStatesUptoSaid : Prop := fnExactStatesUptoRow.holds Tryz.pinned (OpenSpec.upto fnExactStatesSpec)

/-- 'laws.FnExactFlipped', WHERE WHAT IT READS IS OF BULK AT MOST 1048576: true; the input reads as it did. -/
def fnExactFlippedUptoRow : OpenClaim := { program := "ytdgkjbcglhekoaagreat", sum := "cf6eb261cdc625ebcec9c0fd4238483eeecb28bd19ac9fbec2e9785a13ce04c3", func := "loop.example/g00503/laws.FnExactFlipped", spec := "fnExactFlipped", unfollowed := true, recurses := true, apart := false, narrowed := true }
def FnExactFlippedUptoSaid : Prop := fnExactFlippedUptoRow.holds Tryz.pinned (OpenSpec.upto fnExactFlippedSpec)

/-- 'laws.FnExactWentBack', WHERE WHAT IT READS IS OF BULK AT MOST 1048576: true; the input reads as it did. -/
def fnExactWentBackUptoRow : OpenClaim := { program := "ytdgkjbcglhekoaagreat", sum := "cf6eb261cdc625ebcec9c0fd4238483eeecb28bd19ac9fbec2e9785a13ce04c3", func := "loop.example/g00503/laws.FnExactWentBack", spec := "fnExactWentBack", unfollowed := true, recurses := true, apart := false, narrowed := true }
def FnExactWentBackUptoSaid : Prop := fnExactWentBackUptoRow.holds Tryz.pinned (OpenSpec.upto fnExactWentBackSpec)

/-- 'laws.FnExactLateIn', WHERE WHAT IT READS IS OF BULK AT MOST 1048576: true; the input reads as it did. -/
def fnExactLateInUptoRow : OpenClaim := { program := "ytdgkjbcglhekoaagreat", sum := "cf6eb261cdc625ebcec9c0fd4238483eeecb28bd19ac9fbec2e9785a13ce04c3", func := "loop.example/g00503/laws.FnExactLateIn", spec := "fnExactLateIn", unfollowed := true, recurses := true, apart := false, narrowed := true }
def FnExactLateInUptoSaid : Prop := fnExactLateInUptoRow.holds Tryz.pinned (OpenSpec.upto fnExactLateInSpec)

/-- 'laws.FnExactNeedOf', WHERE WHAT IT READS IS OF BULK AT MOST 1048576: true; the input reads as it did. -/
def fnExactNeedOfUptoRow : OpenClaim := { program := "ytdgkjbcglhekoaagreat", sum := "cf6eb261cdc625ebcec9c0fd4238483eeecb28bd19ac9fbec2e9785a13ce04c3", func := "loop.example/g00503/laws.FnExactNeedOf", spec := "fnExactNeedOf", apart := false, narrowed := true }
def FnExactNeedOfUptoSaid : Prop := fnExactNeedOfUptoRow.holds Tryz.pinned (OpenSpec.upto fnExactNeedOfSpec)

end Rows
end Go.Proofs.YtdgkjbcglhekoaaGreat
