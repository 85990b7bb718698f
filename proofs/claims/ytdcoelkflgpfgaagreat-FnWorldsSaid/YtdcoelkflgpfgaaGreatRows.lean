/-
  No cell of these rows narrows 'for every input' (looked for: loops, veiled, ifaces, maps, wideKeys, modest, calm, conditions, laid).
  DERIVED. THE GIVEN ROWS OF THIS SEAT. 5 by the template 'for every input the law returns true; each argument reads behind the call as it read before'; 0 by the template 'total and deterministic' (their statements: YtdcoelkflgpfgaaGreatTotals.lean).
  GIVEN WITH THE SEED: the statements are not yours to turn. If you find one false, say at which input.
  Laid BY PROGRAM, IN A SANDBOX (cutbox-rows.mjs): the forced cells as the released guide's own fill.sh prints them over the translation 7f34157eafde621c… (all of the seat's roots in one cut). By AI agents, Wed Nov 11 2026. No macro, syntax, notation, axiom, sorry.
-/
import Derived.Test.YtdcoelkflgpfgaaGreatChecked
import GoSem.Claim
import GoSem.ClaimJoined
import GoSem.ClaimMapViews
import Derived.JoinedTies
import Derived.KernelRfl
namespace Go.Proofs.YtdcoelkflgpfgaaGreat
/- THE CELL 'sum', in the pinned program and in every row, IS THE sha256 OF THE DUMP (.gsa) THAT YtdcoelkflgpfgaaGreatProg.lean LOADS. Nothing in Lean hashes anything: it is a label: what it is worth is what the hold of that sum in a sandbox is worth. -/
noncomputable def Tryz.pinned : Pinned := { name := "ytdcoelkflgpfgaagreat", sum := "7f34157eafde621c5581d5a3cc84cec23161c25283d5f795f561fd001358c2fb", checked := Tryz.checked }
namespace Rows
def none {H : Type} : Left H := { results := [], args := [] }

/-- 'laws.FnSounds': WHATEVER THE INPUT: true; the input reads as it did. -/
def fnSoundsSpec : ChangeSpec := { name := "fnSounds", fn := fun _ => fun
  | [d] => { results := [.lit (.bool true)], args := [d] }
  | _ => none }
def fnSoundsRow : OpenClaim := { program := "ytdcoelkflgpfgaagreat", sum := "7f34157eafde621c5581d5a3cc84cec23161c25283d5f795f561fd001358c2fb", func := "loop.example/g00503/laws.FnSounds", spec := "fnSounds", unfollowed := true, recurses := true, plainKeys := false, apart := false }
def FnSoundsSaid : Prop := fnSoundsRow.holds Tryz.pinned (OpenSpec.ofChange fnSoundsSpec)

/-- ITS FALSE NEIGHBOUR: 'it returns false'. Refute it at one input. -/
def fnSoundsWrong : ChangeSpec := { name := "fnSounds", fn := fun _ => fun
  | [d] => { results := [.lit (.bool false)], args := [d] }
  | _ => none }
def FnSoundsWrongFalsely : Prop := fnSoundsRow.holds Tryz.pinned (OpenSpec.ofChange fnSoundsWrong)

/-- 'laws.FnSafes': WHATEVER THE INPUT: true; the input reads as it did. -/
def fnSafesSpec : ChangeSpec := { name := "fnSafes", fn := fun _ => fun
  | [d] => { results := [.lit (.bool true)], args := [d] }
  | _ => none }
def fnSafesRow : OpenClaim := { program := "ytdcoelkflgpfgaagreat", sum := "7f34157eafde621c5581d5a3cc84cec23161c25283d5f795f561fd001358c2fb", func := "loop.example/g00503/laws.FnSafes", spec := "fnSafes", unfollowed := true, recurses := true, plainKeys := false, apart := false }
def FnSafesSaid : Prop := fnSafesRow.holds Tryz.pinned (OpenSpec.ofChange fnSafesSpec)

/-- ITS FALSE NEIGHBOUR: 'it returns false'. Refute it at one input. -/
def fnSafesWrong : ChangeSpec := { name := "fnSafes", fn := fun _ => fun
  | [d] => { results := [.lit (.bool false)], args := [d] }
  | _ => none }
def FnSafesWrongFalsely : Prop := fnSafesRow.holds Tryz.pinned (OpenSpec.ofChange fnSafesWrong)

/-- 'laws.FnEdges': WHATEVER THE INPUT: true; the input reads as it did. -/
def fnEdgesSpec : ChangeSpec := { name := "fnEdges", fn := fun _ => fun
  | [d] => { results := [.lit (.bool true)], args := [d] }
  | _ => none }
def fnEdgesRow : OpenClaim := { program := "ytdcoelkflgpfgaagreat", sum := "7f34157eafde621c5581d5a3cc84cec23161c25283d5f795f561fd001358c2fb", func := "loop.example/g00503/laws.FnEdges", spec := "fnEdges", plainKeys := false, apart := false }
def FnEdgesSaid : Prop := fnEdgesRow.holds Tryz.pinned (OpenSpec.ofChange fnEdgesSpec)

/-- ITS FALSE NEIGHBOUR: 'it returns false'. Refute it at one input. -/
def fnEdgesWrong : ChangeSpec := { name := "fnEdges", fn := fun _ => fun
  | [d] => { results := [.lit (.bool false)], args := [d] }
  | _ => none }
def FnEdgesWrongFalsely : Prop := fnEdgesRow.holds Tryz.pinned (OpenSpec.ofChange fnEdgesWrong)

/-- 'laws.FnWires': WHATEVER THE INPUT: true; the input reads as it did. -/
def fnWiresSpec : ChangeSpec := { name := "fnWires", fn := fun _ => fun
  | [d] => { results := [.lit (.bool true)], args := [d] }
  | _ => none }
def fnWiresRow : OpenClaim := { program := "ytdcoelkflgpfgaagreat", sum := "7f34157eafde621c5581d5a3cc84cec23161c25283d5f795f561fd001358c2fb", func := "loop.example/g00503/laws.FnWires", spec := "fnWires", plainKeys := false, apart := false }
def FnWiresSaid : Prop := fnWiresRow.holds Tryz.pinned (OpenSpec.ofChange fnWiresSpec)

/-- ITS FALSE NEIGHBOUR: 'it returns false'. Refute it at one input. -/
def fnWiresWrong : ChangeSpec := { name := "fnWires", fn := fun _ => fun
  | [d] => { results := [.lit (.bool false)], args := [d] }
  | _ => none }
def FnWiresWrongFalsely : Prop := fnWiresRow.holds Tryz.pinned (OpenSpec.ofChange fnWiresWrong)

/-- 'laws.FnWorlds': WHATEVER THE INPUT: true; the input reads as it did. -/
def fnWorldsSpec : ChangeSpec := { name := "fnWorlds", fn := fun _ => fun
  | [d] => { results := [.lit (.bool true)], args := [d] }
  | _ => none }
def fnWorldsRow : OpenClaim := { program := "ytdcoelkflgpfgaagreat", sum := "7f34157eafde621c5581d5a3cc84cec23161c25283d5f795f561fd001358c2fb", func := "loop.example/g00503/laws.FnWorlds", spec := "fnWorlds", unfollowed := true, recurses := true, plainKeys := false, apart := false }
def FnWorldsSaid : Prop := fnWorldsRow.holds Tryz.pinned (OpenSpec.ofChange fnWorldsSpec)

/-- ITS FALSE NEIGHBOUR: 'it returns false'. Refute it at one input. -/
def fnWorldsWrong : ChangeSpec := { name := "fnWorlds", fn := fun _ => fun
  | [d] => { results := [.lit (.bool false)], args := [d] }
  | _ => none }
def FnWorldsWrongFalsely : Prop := fnWorldsRow.holds Tryz.pinned (OpenSpec.ofChange fnWorldsWrong)

/- THE SECOND FORM. 'bulk': how many values and letters a reading holds, each counted each time it is reached (what is shared counts as often as it is met; a slice's spare places count too). A statement '..UptoSaid' is the law's where the arguments, and the package variables that the reading takes, are together of bulk at most 1048576: NARROWER than '..Said'. Prove '..Said' where nothing that the law and all that it calls make is longer than what came in: it says more and counts as full. Else prove '..UptoSaid'. A law counts once. -/
mutual
def uptoBulk {H : Type} : DataW H → Nat
  | .lit (.string bytes) => bytes.length + 1
  | .lit _ => 1
  | .nil => 1
  | .ptr d => uptoBulk d + 1
  | .slice elems spare => uptoBulkAll elems + uptoBulkAll spare + 1
  | .agg parts => uptoBulkAll parts + 1
  | .iface _ d => uptoBulk d + 1
  | .map entries => uptoBulkEntries entries + 1
  | .held _ => 1
def uptoBulkAll {H : Type} : List (DataW H) → Nat
  | [] => 0
  | d :: r => uptoBulk d + uptoBulkAll r
def uptoBulkEntries {H : Type} : List (Lit × DataW H) → Nat
  | [] => 0
  | x :: r => uptoBulkEntry x + uptoBulkEntries r
def uptoBulkEntry {H : Type} : Lit × DataW H → Nat
  | (.string bytes, d) => bytes.length + uptoBulk d + 1
  | (_, d) => uptoBulk d + 1
 end
def uptoSmall : (H : Type) → List (DataW H) → Bool := fun _ ds => decide (uptoBulkAll ds ≤ 1048576)
def OpenSpec.upto (s : _root_.Go.ChangeSpec) : _root_.Go.OpenSpec := { _root_.Go.OpenSpec.ofChange s with cond := some uptoSmall }

/-- 'laws.FnSounds', WHERE WHAT IT READS IS OF BULK AT MOST 1048576: true; the input reads as it did. -/
def fnSoundsUptoRow : OpenClaim := { program := "ytdcoelkflgpfgaagreat", sum := "7f34157eafde621c5581d5a3cc84cec23161c25283d5f795f561fd001358c2fb", func := "loop.example/g00503/laws.FnSounds", spec := "fnSounds", unfollowed := true, recurses := true, plainKeys := false, apart := false, narrowed := true }
def FnSoundsUptoSaid : Prop := fnSoundsUptoRow.holds Tryz.pinned (OpenSpec.upto fnSoundsSpec)

/-- 'laws.FnSafes', WHERE WHAT IT READS IS OF BULK AT MOST 1048576: true; the input reads as it did. -/
def fnSafesUptoRow : OpenClaim := { program := "ytdcoelkflgpfgaagreat", sum := "7f34157eafde621c5581d5a3cc84cec23161c25283d5f795f561fd001358c2fb", func := "loop.example/g00503/laws.FnSafes", spec := "fnSafes", unfollowed := true, recurses := true, plainKeys := false, apart := false, narrowed := true }
def FnSafesUptoSaid : Prop := fnSafesUptoRow.holds Tryz.pinned (OpenSpec.upto fnSafesSpec)

/-- 'laws.FnEdges', WHERE WHAT IT READS IS OF BULK AT MOST 1048576: true; the input reads as it did. -/
def fnEdgesUptoRow : OpenClaim := { program := "ytdcoelkflgpfgaagreat", sum := "7f34157eafde621c5581d5a3cc84cec23161c25283d5f795f561fd001358c2fb", func := "loop.example/g00503/laws.FnEdges", spec := "fnEdges", plainKeys := false, apart := false, narrowed := true }
def FnEdgesUptoSaid : Prop := fnEdgesUptoRow.holds Tryz.pinned (OpenSpec.upto fnEdgesSpec)

/-- 'laws.FnWires', WHERE WHAT IT READS IS OF BULK AT MOST 1048576: true; the input reads as it did. -/
def fnWiresUptoRow : OpenClaim := { program := "ytdcoelkflgpfgaagreat", sum := "7f34157eafde621c5581d5a3cc84cec23161c25283d5f795f561fd001358c2fb", func := "loop.example/g00503/laws.FnWires", spec := "fnWires", plainKeys := false, apart := false, narrowed := true }
def FnWiresUptoSaid : Prop := fnWiresUptoRow.holds Tryz.pinned (OpenSpec.upto fnWiresSpec)

/-- 'laws.FnWorlds', WHERE WHAT IT READS IS OF BULK AT MOST 1048576: true; the input reads as it did. -/
def fnWorldsUptoRow : OpenClaim := { program := "ytdcoelkflgpfgaagreat", sum := "7f34157eafde621c5581d5a3cc84cec23161c25283d5f795f561fd001358c2fb", func := "loop.example/g00503/laws.FnWorlds", spec := "fnWorlds", unfollowed := true, recurses := true, plainKeys := false, apart := false, narrowed := true }
def FnWorldsUptoSaid : Prop := fnWorldsUptoRow.holds Tryz.pinned (OpenSpec.upto fnWorldsSpec)

end Rows
end Go.Proofs.YtdcoelkflgpfgaaGreat
