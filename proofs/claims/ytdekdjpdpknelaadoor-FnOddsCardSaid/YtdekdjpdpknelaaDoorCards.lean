/-
  DERIVED. GIVEN WITH THE SEED: THE CARDS: each row of YtdekdjpdpknelaaDoorRows.lean that lists a variable, with what it lists TIED to the program's text (the seventh form; the later family's looks); each row that meets fmt, with fmt's text TOLD by the authors' own Lean function (tested against real Go, not proved from fmt's source: count such statements apart). THE CARD IS WHAT COUNTS. Prove the row's statement (the work); the ties are given (YtdekdjpdpknelaaDoorTie.lean); close each card by the builder's one call (the guide's Derived/Test/ToyasCard.lean, 'card_holds'). Laid BY PROGRAM, IN A SANDBOX (cutbox-door.mjs). By AI agents, Wed Nov 11 2026. No macro, syntax, notation, axiom, sorry.
-/
import Derived.Test.YtdekdjpdpknelaaDoorRows
import GoSem.ClaimSeven
namespace Go.Proofs.YtdekdjpdpknelaaDoor
namespace Rows

/-- THE TIED CARD OF 'laws.FnOdds'. -/
def fnOddsCard : Claim7 := { stood := { row := fnOddsRow, standIns := [], harness := (true, "eeacc7864cf6d9a7ec27464ce88ce994149f7a53d660c57d051d7b4177377e03"), looks := false }, kinds := [], alts := [], laidByText := true, laidKinds := [.data, .data, .data], laidTests := true, laidLooks := .later }
def FnOddsCardSaid : Prop := Claim7.holds Tryd.pinned (.plain (OpenSpec.ofChange fnOddsSpec)) fnOddsCard

/-- THE SECOND FORM's CARD OF 'laws.FnOdds'. -/
def fnOddsUptoCard : Claim7 := { stood := { row := fnOddsUptoRow, standIns := [], harness := (true, "eeacc7864cf6d9a7ec27464ce88ce994149f7a53d660c57d051d7b4177377e03"), looks := false }, kinds := [], alts := [], laidByText := true, laidKinds := [.data, .data, .data], laidTests := true, laidLooks := .later }
def FnOddsUptoCardSaid : Prop := Claim7.holds Tryd.pinned (.plain (OpenSpec.upto fnOddsSpec)) fnOddsUptoCard
end Rows
end Go.Proofs.YtdekdjpdpknelaaDoor
