/-
  DERIVED. GIVEN WITH THE SEED: THE CARDS: each row of YtpjnlcppjcnlgaaGreatDoorRows.lean that lists a variable, with what it lists TIED to the program's text (the seventh form; the later family's looks); each row that meets fmt, with fmt's text TOLD by the authors' own Lean function (tested against real Go, not proved from fmt's source: count such statements apart). THE CARD IS WHAT COUNTS. Prove the row's statement (the work); the ties are given (YtpjnlcppjcnlgaaGreatDoorTie.lean); close each card by the builder's one call (the guide's Derived/Test/ToyasCard.lean, 'card_holds'). Laid BY PROGRAM, IN A SANDBOX (cutbox-door.mjs). By AI agents, Wed Nov 11 2026. No macro, syntax, notation, axiom, sorry.
-/
import Derived.Test.YtpjnlcppjcnlgaaGreatDoorRows
import GoSem.ClaimSeven
namespace Go.Proofs.YtpjnlcppjcnlgaaGreatDoor
namespace Rows

/-- THE TIED CARD OF 'laws.FnLeaves'. -/
def fnLeavesCard : Claim7 := { stood := { row := fnLeavesRow, standIns := [], harness := (true, "be3714ffee91b822a03ab3e6102afae2358c01527ca0b301127632bc4574d519"), looks := false }, kinds := [], alts := [], laidByText := true, laidKinds := [.data, .data, .data], laidTests := true, laidLooks := .later }
def FnLeavesCardSaid : Prop := Claim7.holds Tryz.pinned (.plain (OpenSpec.ofChange fnLeavesSpec)) fnLeavesCard

/-- THE SECOND FORM's CARD OF 'laws.FnLeaves'. -/
def fnLeavesUptoCard : Claim7 := { stood := { row := fnLeavesUptoRow, standIns := [], harness := (true, "be3714ffee91b822a03ab3e6102afae2358c01527ca0b301127632bc4574d519"), looks := false }, kinds := [], alts := [], laidByText := true, laidKinds := [.data, .data, .data], laidTests := true, laidLooks := .later }
def FnLeavesUptoCardSaid : Prop := Claim7.holds Tryz.pinned (.plain (OpenSpec.upto fnLeavesSpec)) fnLeavesUptoCard
end Rows
end Go.Proofs.YtpjnlcppjcnlgaaGreatDoor
