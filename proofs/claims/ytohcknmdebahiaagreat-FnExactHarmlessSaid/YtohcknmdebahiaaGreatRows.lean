/-
  No cell of these rows narrows 'for every input' (looked for: loops, veiled, ifaces, maps, wideKeys, modest, calm, conditions, laid).
  DERIVED. THE GIVEN ROWS OF THIS SEAT. 4 by the template 'for every input the law returns true; each argument reads behind the call as it read before'; 0 by the template 'total and deterministic' (their statements: YtohcknmdebahiaaGreatTotals.lean).
  GIVEN WITH THE SEED: the statements are not yours to turn. If you find one false, say at which input.
  Laid BY PROGRAM, IN A SANDBOX (cutbox-rows.mjs): the forced cells as the released guide's own fill.sh prints them over the translation 01e5421949f9b3c2… (all of the seat's roots in one cut). By AI agents, Wed Nov 11 2026. No macro, syntax, notation, axiom, sorry.
-/
import Derived.Test.YtohcknmdebahiaaGreatChecked
import GoSem.Claim
import GoSem.ClaimJoined
import GoSem.ClaimMapViews
import Derived.JoinedTies
import Derived.KernelRfl
namespace Go.Proofs.YtohcknmdebahiaaGreat
/- THE CELL 'sum', in the pinned program and in every row, IS THE sha256 OF THE DUMP (.gsa) THAT YtohcknmdebahiaaGreatProg.lean LOADS. Nothing in Lean hashes anything: it is a label: what it is worth is what the hold of that sum in a sandbox is worth. -/
noncomputable def Tryz.pinned : Pinned := { name := "ytohcknmdebahiaagreat", sum := "01e5421949f9b3c2be13b525d95bef765c1f30f27ed7e1b5e276e5c915040ea3", checked := Tryz.checked }
namespace Rows
def none {H : Type} : Left H := { results := [], args := [] }

/-- 'laws.FnExactNeedAll': WHATEVER THE INPUT: true; the input reads as it did. -/
def fnExactNeedAllSpec : ChangeSpec := { name := "fnExactNeedAll", fn := fun _ => fun
  | [d] => { results := [.lit (.bool true)], args := [d] }
  | _ => none }
def fnExactNeedAllRow : OpenClaim := { program := "ytohcknmdebahiaagreat", sum := "01e5421949f9b3c2be13b525d95bef765c1f30f27ed7e1b5e276e5c915040ea3", func := "loop.example/g00503/laws.FnExactNeedAll", spec := "fnExactNeedAll", apart := false }
def FnExactNeedAllSaid : Prop := fnExactNeedAllRow.holds Tryz.pinned (OpenSpec.ofChange fnExactNeedAllSpec)

/-- ITS FALSE NEIGHBOUR: 'it returns false'. Refute it at one input. -/
def fnExactNeedAllWrong : ChangeSpec := { name := "fnExactNeedAll", fn := fun _ => fun
  | [d] => { results := [.lit (.bool false)], args := [d] }
  | _ => none }
def FnExactNeedAllWrongFalsely : Prop := fnExactNeedAllRow.holds Tryz.pinned (OpenSpec.ofChange fnExactNeedAllWrong)

/-- 'laws.FnExactHarmless': WHATEVER THE INPUT: true; the input reads as it did. -/
def fnExactHarmlessSpec : ChangeSpec := { name := "fnExactHarmless", fn := fun _ => fun
  | [d1, d2] => { results := [.lit (.bool true)], args := [d1, d2] }
  | _ => none }
def fnExactHarmlessRow : OpenClaim := { program := "ytohcknmdebahiaagreat", sum := "01e5421949f9b3c2be13b525d95bef765c1f30f27ed7e1b5e276e5c915040ea3", func := "loop.example/g00503/laws.FnExactHarmless", spec := "fnExactHarmless", unfollowed := true, recurses := true, apart := false }
def FnExactHarmlessSaid : Prop := fnExactHarmlessRow.holds Tryz.pinned (OpenSpec.ofChange fnExactHarmlessSpec)

/-- ITS FALSE NEIGHBOUR: 'it returns false'. Refute it at one input. -/
def fnExactHarmlessWrong : ChangeSpec := { name := "fnExactHarmless", fn := fun _ => fun
  | [d1, d2] => { results := [.lit (.bool false)], args := [d1, d2] }
  | _ => none }
def FnExactHarmlessWrongFalsely : Prop := fnExactHarmlessRow.holds Tryz.pinned (OpenSpec.ofChange fnExactHarmlessWrong)

/-- 'laws.FnExactUselessAt': WHATEVER THE INPUT: true; the input reads as it did. -/
def fnExactUselessAtSpec : ChangeSpec := { name := "fnExactUselessAt", fn := fun _ => fun
  | [d1, d2] => { results := [.lit (.bool true)], args := [d1, d2] }
  | _ => none }
def fnExactUselessAtRow : OpenClaim := { program := "ytohcknmdebahiaagreat", sum := "01e5421949f9b3c2be13b525d95bef765c1f30f27ed7e1b5e276e5c915040ea3", func := "loop.example/g00503/laws.FnExactUselessAt", spec := "fnExactUselessAt", inPlace := ["slices.overlaps[loop.example/g00503/impl.Kid]"], unfollowed := true, recurses := true, apart := false }
def FnExactUselessAtSaid : Prop := fnExactUselessAtRow.holds Tryz.pinned (OpenSpec.ofChange fnExactUselessAtSpec)

/-- ITS FALSE NEIGHBOUR: 'it returns false'. Refute it at one input. -/
def fnExactUselessAtWrong : ChangeSpec := { name := "fnExactUselessAt", fn := fun _ => fun
  | [d1, d2] => { results := [.lit (.bool false)], args := [d1, d2] }
  | _ => none }
def FnExactUselessAtWrongFalsely : Prop := fnExactUselessAtRow.holds Tryz.pinned (OpenSpec.ofChange fnExactUselessAtWrong)

/-- 'laws.FnExactUseless': WHATEVER THE INPUT: true; the input reads as it did. -/
def fnExactUselessSpec : ChangeSpec := { name := "fnExactUseless", fn := fun _ => fun
  | [d] => { results := [.lit (.bool true)], args := [d] }
  | _ => none }
def fnExactUselessRow : OpenClaim := { program := "ytohcknmdebahiaagreat", sum := "01e5421949f9b3c2be13b525d95bef765c1f30f27ed7e1b5e276e5c915040ea3", func := "loop.example/g00503/laws.FnExactUseless", spec := "fnExactUseless", inPlace := ["slices.overlaps[loop.example/g00503/impl.Kid]"], unfollowed := true, recurses := true, apart := false }
def FnExactUselessSaid : Prop := fnExactUselessRow.holds Tryz.pinned (OpenSpec.ofChange fnExactUselessSpec)

/-- ITS FALSE NEIGHBOUR: 'it returns false'. Refute it at one input. -/
def fnExactUselessWrong : ChangeSpec := { name := "fnExactUseless", fn := fun _ => fun
  | [d] => { results := [.lit (.bool false)], args := [d] }
  | _ => none }
def FnExactUselessWrongFalsely : Prop := fnExactUselessRow.holds Tryz.pinned (OpenSpec.ofChange fnExactUselessWrong)

/- THE SECOND FORM. 'bulk': how many values and letters a reading holds, each counted each time it is reached (what is shared counts as often as it is met; a slice's spare places count too). A statement '..UptoSaid' is the law's where the arguments, and the package variables that the reading takes, are together of bulk at most 1048576: NARROWER than '..Said'. Prove '..Said' where nothing that the law and all that it calls make is longer than what came in: it says more and counts as full. Else prove '..UptoSaid'. A law counts once. -/
mutual
def uptoBulk {H : Type} : DataW H → Nat
  | .lit (.string bytes) => bytes.length + 1
  | .lit _ => 1
  | .nil => 1
  | .ptr d => uptoBulk d + 1
  | .slice elems spare => uptoBulkAll elems + uptoBulkAll spare + 1
  | .agg parts => uptoBulkAll parts + 1
  | .iface _ d => uptoBulk d + 1
  | .map entries => uptoBulkEntries entries + 1
  | .held _ => 1
def uptoBulkAll {H : Type} : List (DataW H) → Nat
  | [] => 0
  | d :: r => uptoBulk d + uptoBulkAll r
def uptoBulkEntries {H : Type} : List (Lit × DataW H) → Nat
  | [] => 0
  | x :: r => uptoBulkEntry x + uptoBulkEntries r
def uptoBulkEntry {H : Type} : Lit × DataW H → Nat
  | (.string bytes, d) => bytes.length + uptoBulk d + 1
  | (_, d) => uptoBulk d + 1
 end
def uptoSmall : (H : Type) → List (DataW H) → Bool := fun _ ds => decide (uptoBulkAll ds ≤ 1048576)
def OpenSpec.upto (s : _root_.Go.ChangeSpec) : _root_.Go.OpenSpec := { _root_.Go.OpenSpec.ofChange s with cond := some uptoSmall }

/-- 'laws.FnExactNeedAll', WHERE WHAT IT READS IS OF BULK AT MOST 1048576: true; the input reads as it did. -/
def fnExactNeedAllUptoRow : OpenClaim := { program := "ytohcknmdebahiaagreat", sum := "01e5421949f9b3c2be13b525d95bef765c1f30f27ed7e1b5e276e5c915040ea3", func := "loop.example/g00503/laws.FnExactNeedAll", spec := "fnExactNeedAll", apart := false, narrowed := true }
def FnExactNeedAllUptoSaid : Prop := fnExactNeedAllUptoRow.holds Tryz.pinned (OpenSpec.upto fnExactNeedAllSpec)

/-- 'laws.FnExactHarmless', WHERE WHAT IT READS IS OF BULK AT MOST 1048576: true; the input reads as it did. -/
def fnExactHarmlessUptoRow : OpenClaim := { program := "ytohcknmdebahiaagreat", sum := "01e5421949f9b3c2be13b525d95bef765c1f30f27ed7e1b5e276e5c915040ea3", func := "loop.example/g00503/laws.FnExactHarmless", spec := "fnExactHarmless", unfollowed := true, recurses := true, apart := false, narrowed := true }
def FnExactHarmlessUptoSaid : Prop := fnExactHarmlessUptoRow.holds Tryz.pinned (OpenSpec.upto fnExactHarmlessSpec)

/-- 'laws.FnExactUselessAt', WHERE WHAT IT READS IS OF BULK AT MOST 1048576: true; the input reads as it did. -/
def fnExactUselessAtUptoRow : OpenClaim := { program := "ytohcknmdebahiaagreat", sum := "01e5421949f9b3c2be13b525d95bef765c1f30f27ed7e1b5e276e5c915040ea3", func := "loop.example/g00503/laws.FnExactUselessAt", spec := "fnExactUselessAt", inPlace := ["slices.overlaps[loop.example/g00503/impl.Kid]"], unfollowed := true, recurses := true, apart := false, narrowed := true }
def FnExactUselessAtUptoSaid : Prop := fnExactUselessAtUptoRow.holds Tryz.pinned (OpenSpec.upto fnExactUselessAtSpec)

/-- 'laws.FnExactUseless', WHERE WHAT IT READS IS OF BULK AT MOST 1048576: true; the input reads as it did. -/
def fnExactUselessUptoRow : OpenClaim := { program := "ytohcknmdebahiaagreat", sum := "01e5421949f9b3c2be13b525d95bef765c1f30f27ed7e1b5e276e5c915040ea3", func := "loop.example/g00503/laws.FnExactUseless", spec := "fnExactUseless", inPlace := ["slices.overlaps[loop.example/g00503/impl.Kid]"], unfollowed := true, recurses := true, apart := false, narrowed := true }
def FnExactUselessUptoSaid : Prop := fnExactUselessUptoRow.holds Tryz.pinned (OpenSpec.upto fnExactUselessSpec)

end Rows
end Go.Proofs.YtohcknmdebahiaaGreat
