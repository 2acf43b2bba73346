/-
  DERIVED. GIVEN WITH THE SEED: THE CARDS: each row of YtebkfcdijjcefaaDoorRows.lean that lists a variable, with what it lists TIED to the program's text (the seventh form; the later family's looks); each row that meets fmt, with fmt's text TOLD by the authors' own Lean function (tested against real Go, not proved from fmt's source: count such statements apart). THE CARD IS WHAT COUNTS. Prove the row's statement (the work); the ties are given (YtebkfcdijjcefaaDoorTie.lean); close each card by the builder's one call (the guide's Derived/Test/ToyasCard.lean, 'card_holds'). Laid BY PROGRAM, IN A SANDBOX (cutbox-door.mjs). By AI agents, Wed Nov 11 2026. No macro, syntax, notation, axiom, sorry.
-/
import Derived.Test.YtebkfcdijjcefaaDoorRows
import GoSem.ClaimSeven
namespace Go.Proofs.YtebkfcdijjcefaaDoor
namespace Rows

/-- THE TIED CARD OF 'laws.FnPartners'. -/
def fnPartnersCard : Claim7 := { stood := { row := fnPartnersRow, standIns := [], harness := (true, "1889cd5fb58dfe1a6e6bb5caaabc9e9ad5f88d8e3a463c60108012feb5f26f86"), looks := false }, kinds := [], alts := [], laidByText := true, laidKinds := [.data, .data, .data], laidTests := true, laidLooks := .later }
def FnPartnersCardSaid : Prop := Claim7.holds Tryd.pinned (.plain (OpenSpec.ofChange fnPartnersSpec)) fnPartnersCard

/-- THE SECOND FORM's CARD OF 'laws.FnPartners'. -/
def fnPartnersUptoCard : Claim7 := { stood := { row := fnPartnersUptoRow, standIns := [], harness := (true, "1889cd5fb58dfe1a6e6bb5caaabc9e9ad5f88d8e3a463c60108012feb5f26f86"), looks := false }, kinds := [], alts := [], laidByText := true, laidKinds := [.data, .data, .data], laidTests := true, laidLooks := .later }
def FnPartnersUptoCardSaid : Prop := Claim7.holds Tryd.pinned (.plain (OpenSpec.upto fnPartnersSpec)) fnPartnersUptoCard
end Rows
end Go.Proofs.YtebkfcdijjcefaaDoor
