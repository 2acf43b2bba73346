/-
  DERIVED. GIVEN WITH THE SEED: THE CARDS: each row of YtoafmigpppjnnaaDoorRows.lean that lists a variable, with what it lists TIED to the program's text (the seventh form; the later family's looks); each row that meets fmt, with fmt's text TOLD by the authors' own Lean function (tested against real Go, not proved from fmt's source: count such statements apart). THE CARD IS WHAT COUNTS. Prove the row's statement (the work); the ties are given (YtoafmigpppjnnaaDoorTie.lean); close each card by the builder's one call (the guide's Derived/Test/ToyasCard.lean, 'card_holds'). Laid BY PROGRAM, IN A SANDBOX (cutbox-door.mjs). By AI agents, Wed Nov 11 2026. No macro, syntax, notation, axiom, sorry.
-/
import Derived.Test.YtoafmigpppjnnaaDoorRows
import GoSem.ClaimSeven
namespace Go.Proofs.YtoafmigpppjnnaaDoor
namespace Rows

/-- THE TIED CARD OF 'laws.FnExactOddsText'. -/
def fnExactOddsTextCard : Claim7 := { stood := { row := fnExactOddsTextRow, standIns := [], harness := (true, "2d3bfbb4b7199c8af284906dccde9f4b9584314f70b976e6b1b2a9bc600f2098"), looks := false }, kinds := [], alts := [], laidByText := true, laidKinds := [.data, .data, .data], laidTests := true, laidLooks := .later }
def FnExactOddsTextCardSaid : Prop := Claim7.holds Tryd.pinned (.plain (OpenSpec.ofChange fnExactOddsTextSpec)) fnExactOddsTextCard

/-- THE TIED CARD OF 'laws.FnExactHoldText'. -/
def fnExactHoldTextCard : Claim7 := { stood := { row := fnExactHoldTextRow, standIns := [], harness := (true, "2d3bfbb4b7199c8af284906dccde9f4b9584314f70b976e6b1b2a9bc600f2098"), looks := false }, kinds := [], alts := [], laidByText := true, laidKinds := [.data, .data, .data], laidTests := true, laidLooks := .later }
def FnExactHoldTextCardSaid : Prop := Claim7.holds Tryd.pinned (.plain (OpenSpec.ofChange fnExactHoldTextSpec)) fnExactHoldTextCard

/-- THE SECOND FORM's CARD OF 'laws.FnExactOddsText'. -/
def fnExactOddsTextUptoCard : Claim7 := { stood := { row := fnExactOddsTextUptoRow, standIns := [], harness := (true, "2d3bfbb4b7199c8af284906dccde9f4b9584314f70b976e6b1b2a9bc600f2098"), looks := false }, kinds := [], alts := [], laidByText := true, laidKinds := [.data, .data, .data], laidTests := true, laidLooks := .later }
def FnExactOddsTextUptoCardSaid : Prop := Claim7.holds Tryd.pinned (.plain (OpenSpec.upto fnExactOddsTextSpec)) fnExactOddsTextUptoCard

/-- THE SECOND FORM's CARD OF 'laws.FnExactHoldText'. -/
def fnExactHoldTextUptoCard : Claim7 := { stood := { row := fnExactHoldTextUptoRow, standIns := [], harness := (true, "2d3bfbb4b7199c8af284906dccde9f4b9584314f70b976e6b1b2a9bc600f2098"), looks := false }, kinds := [], alts := [], laidByText := true, laidKinds := [.data, .data, .data], laidTests := true, laidLooks := .later }
def FnExactHoldTextUptoCardSaid : Prop := Claim7.holds Tryd.pinned (.plain (OpenSpec.upto fnExactHoldTextSpec)) fnExactHoldTextUptoCard
end Rows
end Go.Proofs.YtoafmigpppjnnaaDoor
