/-
  DERIVED. GIVEN WITH THE SEED: THE CARDS: each row of YtgjehnjpbekoeaaDoorRows.lean that lists a variable, with what it lists TIED to the program's text (the seventh form; the later family's looks); each row that meets fmt, with fmt's text TOLD by the authors' own Lean function (tested against real Go, not proved from fmt's source: count such statements apart). THE CARD IS WHAT COUNTS. Prove the row's statement (the work); the ties are given (YtgjehnjpbekoeaaDoorTie.lean); close each card by the builder's one call (the guide's Derived/Test/ToyasCard.lean, 'card_holds'). Laid BY PROGRAM, IN A SANDBOX (cutbox-door.mjs). By AI agents, Wed Nov 11 2026. No macro, syntax, notation, axiom, sorry.
-/
import Derived.Test.YtgjehnjpbekoeaaDoorRows
import GoSem.ClaimSeven
namespace Go.Proofs.YtgjehnjpbekoeaaDoor
namespace Rows

/-- THE TIED CARD OF 'laws.FnPlates'. -/
def fnPlatesCard : Claim7 := { stood := { row := fnPlatesRow, standIns := [], harness := (true, "5b1778e20746c1ea492ec69f296f68db0d46fc3841faf6c940603bd9c984a2cc"), looks := false }, kinds := [], alts := [], laidByText := true, laidKinds := [.data, .data, .data], laidTests := true, laidLooks := .later }
def FnPlatesCardSaid : Prop := Claim7.holds Tryd.pinned (.plain (OpenSpec.ofChange fnPlatesSpec)) fnPlatesCard

/-- THE SECOND FORM's CARD OF 'laws.FnPlates'. -/
def fnPlatesUptoCard : Claim7 := { stood := { row := fnPlatesUptoRow, standIns := [], harness := (true, "5b1778e20746c1ea492ec69f296f68db0d46fc3841faf6c940603bd9c984a2cc"), looks := false }, kinds := [], alts := [], laidByText := true, laidKinds := [.data, .data, .data], laidTests := true, laidLooks := .later }
def FnPlatesUptoCardSaid : Prop := Claim7.holds Tryd.pinned (.plain (OpenSpec.upto fnPlatesSpec)) fnPlatesUptoCard
end Rows
end Go.Proofs.YtgjehnjpbekoeaaDoor
