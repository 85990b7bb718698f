/-
  DERIVED. GIVEN WITH THE SEED: THE CARDS: each row of YtohcknmdebahiaaGreatDoorRows.lean that lists a variable, with what it lists TIED to the program's text (the seventh form; the later family's looks); each row that meets fmt, with fmt's text TOLD by the authors' own Lean function (tested against real Go, not proved from fmt's source: count such statements apart). THE CARD IS WHAT COUNTS. Prove the row's statement (the work); the ties are given (YtohcknmdebahiaaGreatDoorTie.lean); close each card by the builder's one call (the guide's Derived/Test/ToyasCard.lean, 'card_holds'). Laid BY PROGRAM, IN A SANDBOX (cutbox-door.mjs). By AI agents, Wed Nov 11 2026. No macro, syntax, notation, axiom, sorry.
-/
import Derived.Test.YtohcknmdebahiaaGreatDoorRows
import GoSem.ClaimSeven
namespace Go.Proofs.YtohcknmdebahiaaGreatDoor
namespace Rows

/-- THE TIED CARD OF 'laws.FnExactCostTable'. -/
def fnExactCostTableCard : Claim7 := { stood := { row := fnExactCostTableRow, standIns := [], harness := (true, "4df28c54adf339a6acca81c41fec7f4eac67281429aa9e2bcc9b252d87470afd"), looks := false }, kinds := [], alts := [], laidByText := true, laidKinds := [.data, .data, .data], laidTests := true, laidLooks := .later }
def FnExactCostTableCardSaid : Prop := Claim7.holds Tryz.pinned (.plain (OpenSpec.ofChange fnExactCostTableSpec)) fnExactCostTableCard

/-- THE TIED CARD OF 'laws.FnExactCountText'. -/
def fnExactCountTextCard : Claim7 := { stood := { row := fnExactCountTextRow, standIns := [], harness := (true, "4df28c54adf339a6acca81c41fec7f4eac67281429aa9e2bcc9b252d87470afd"), looks := false }, kinds := [], alts := [], laidByText := true, laidKinds := [.data, .data, .data], laidTests := true, laidLooks := .later }
def FnExactCountTextCardSaid : Prop := Claim7.holds Tryz.pinned (.plain (OpenSpec.ofChange fnExactCountTextSpec)) fnExactCountTextCard

/-- THE TIED CARD OF 'laws.FnExactWorldText'. -/
def fnExactWorldTextCard : Claim7 := { stood := { row := fnExactWorldTextRow, standIns := [], harness := (true, "4df28c54adf339a6acca81c41fec7f4eac67281429aa9e2bcc9b252d87470afd"), looks := false }, kinds := [], alts := [], laidByText := true, laidKinds := [.data, .data, .data], laidTests := true, laidLooks := .later }
def FnExactWorldTextCardSaid : Prop := Claim7.holds Tryz.pinned (.plain (OpenSpec.ofChange fnExactWorldTextSpec)) fnExactWorldTextCard

/-- THE TIED CARD OF 'laws.FnExactNetText'. -/
def fnExactNetTextCard : Claim7 := { stood := { row := fnExactNetTextRow, standIns := [], harness := (true, "4df28c54adf339a6acca81c41fec7f4eac67281429aa9e2bcc9b252d87470afd"), looks := false }, kinds := [], alts := [], laidByText := true, laidKinds := [.data, .data, .data], laidTests := true, laidLooks := .later }
def FnExactNetTextCardSaid : Prop := Claim7.holds Tryz.pinned (.plain (OpenSpec.ofChange fnExactNetTextSpec)) fnExactNetTextCard

/-- THE SECOND FORM's CARD OF 'laws.FnExactCostTable'. -/
def fnExactCostTableUptoCard : Claim7 := { stood := { row := fnExactCostTableUptoRow, standIns := [], harness := (true, "4df28c54adf339a6acca81c41fec7f4eac67281429aa9e2bcc9b252d87470afd"), looks := false }, kinds := [], alts := [], laidByText := true, laidKinds := [.data, .data, .data], laidTests := true, laidLooks := .later }
def FnExactCostTableUptoCardSaid : Prop := Claim7.holds Tryz.pinned (.plain (OpenSpec.upto fnExactCostTableSpec)) fnExactCostTableUptoCard

/-- THE SECOND FORM's CARD OF 'laws.FnExactCountText'. -/
def fnExactCountTextUptoCard : Claim7 := { stood := { row := fnExactCountTextUptoRow, standIns := [], harness := (true, "4df28c54adf339a6acca81c41fec7f4eac67281429aa9e2bcc9b252d87470afd"), looks := false }, kinds := [], alts := [], laidByText := true, laidKinds := [.data, .data, .data], laidTests := true, laidLooks := .later }
def FnExactCountTextUptoCardSaid : Prop := Claim7.holds Tryz.pinned (.plain (OpenSpec.upto fnExactCountTextSpec)) fnExactCountTextUptoCard

/-- THE SECOND FORM's CARD OF 'laws.FnExactWorldText'. -/
def fnExactWorldTextUptoCard : Claim7 := { stood := { row := fnExactWorldTextUptoRow, standIns := [], harness := (true, "4df28c54adf339a6acca81c41fec7f4eac67281429aa9e2bcc9b252d87470afd"), looks := false }, kinds := [], alts := [], laidByText := true, laidKinds := [.data, .data, .data], laidTests := true, laidLooks := .later }
def FnExactWorldTextUptoCardSaid : Prop := Claim7.holds Tryz.pinned (.plain (OpenSpec.upto fnExactWorldTextSpec)) fnExactWorldTextUptoCard

/-- THE SECOND FORM's CARD OF 'laws.FnExactNetText'. -/
def fnExactNetTextUptoCard : Claim7 := { stood := { row := fnExactNetTextUptoRow, standIns := [], harness := (true, "4df28c54adf339a6acca81c41fec7f4eac67281429aa9e2bcc9b252d87470afd"), looks := false }, kinds := [], alts := [], laidByText := true, laidKinds := [.data, .data, .data], laidTests := true, laidLooks := .later }
def FnExactNetTextUptoCardSaid : Prop := Claim7.holds Tryz.pinned (.plain (OpenSpec.upto fnExactNetTextSpec)) fnExactNetTextUptoCard
end Rows
end Go.Proofs.YtohcknmdebahiaaGreatDoor
