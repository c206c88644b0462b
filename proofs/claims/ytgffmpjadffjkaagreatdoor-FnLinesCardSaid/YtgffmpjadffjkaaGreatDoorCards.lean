/-
  DERIVED. GIVEN WITH THE SEED: THE CARDS: each row of YtgffmpjadffjkaaGreatDoorRows.lean that lists a variable, with what it lists TIED to the program's text (the seventh form; the later family's looks); each row that meets fmt, with fmt's text TOLD by the authors' own Lean function (tested against real Go, not proved from fmt's source: count such statements apart). THE CARD IS WHAT COUNTS. Prove the row's statement (the work); the ties are given (YtgffmpjadffjkaaGreatDoorTie.lean); close each card by the builder's one call (the guide's Derived/Test/ToyasCard.lean, 'card_holds'). Laid BY PROGRAM, IN A SANDBOX (cutbox-door.mjs). By AI agents, Wed Nov 11 2026. No macro, syntax, notation, axiom, sorry.
-/
import Derived.Test.YtgffmpjadffjkaaGreatDoorRows
import GoSem.ClaimSeven
namespace Go.Proofs.YtgffmpjadffjkaaGreatDoor
namespace Rows

/-- THE TIED CARD OF 'laws.FnExactSession'. -/
def fnExactSessionCard : Claim7 := { stood := { row := fnExactSessionRow, standIns := [], harness := (true, "7ad8d360b7fe55e8d1ef900bae8b949bd7342503dba3d4c986b9b3f5392f9eda"), looks := true }, kinds := [], alts := [], laidByText := true, laidKinds := [.data, .data, .data, .data, .sentinel, .sentinel, .mapped, .pinned], laidTests := true, laidLooks := .later }
def FnExactSessionCardSaid : Prop := Claim7.holds Tryz.pinned (.plain (OpenSpec.ofChange fnExactSessionSpec)) fnExactSessionCard

/-- THE TIED CARD OF 'laws.FnLines'. -/
def fnLinesCard : Claim7 := { stood := { row := fnLinesRow, standIns := [], harness := (true, "7ad8d360b7fe55e8d1ef900bae8b949bd7342503dba3d4c986b9b3f5392f9eda"), looks := true }, kinds := [], alts := [], laidByText := true, laidKinds := [.data, .data, .data, .data, .sentinel, .sentinel, .mapped, .pinned], laidTests := true, laidLooks := .later }
def FnLinesCardSaid : Prop := Claim7.holds Tryz.pinned (.plain (OpenSpec.ofChange fnLinesSpec)) fnLinesCard

/-- THE SECOND FORM's CARD OF 'laws.FnExactSession'. -/
def fnExactSessionUptoCard : Claim7 := { stood := { row := fnExactSessionUptoRow, standIns := [], harness := (true, "7ad8d360b7fe55e8d1ef900bae8b949bd7342503dba3d4c986b9b3f5392f9eda"), looks := true }, kinds := [], alts := [], laidByText := true, laidKinds := [.data, .data, .data, .data, .sentinel, .sentinel, .mapped, .pinned], laidTests := true, laidLooks := .later }
def FnExactSessionUptoCardSaid : Prop := Claim7.holds Tryz.pinned (.plain (OpenSpec.upto fnExactSessionSpec)) fnExactSessionUptoCard

/-- THE SECOND FORM's CARD OF 'laws.FnLines'. -/
def fnLinesUptoCard : Claim7 := { stood := { row := fnLinesUptoRow, standIns := [], harness := (true, "7ad8d360b7fe55e8d1ef900bae8b949bd7342503dba3d4c986b9b3f5392f9eda"), looks := true }, kinds := [], alts := [], laidByText := true, laidKinds := [.data, .data, .data, .data, .sentinel, .sentinel, .mapped, .pinned], laidTests := true, laidLooks := .later }
def FnLinesUptoCardSaid : Prop := Claim7.holds Tryz.pinned (.plain (OpenSpec.upto fnLinesSpec)) fnLinesUptoCard
end Rows
end Go.Proofs.YtgffmpjadffjkaaGreatDoor
