/-
  DERIVED. GIVEN WITH THE SEED: THE CARDS: each row of YtpnkeaeikcobfaaGreatDoorRows.lean that lists a variable, with what it lists TIED to the program's text (the seventh form; the later family's looks); each row that meets fmt, with fmt's text TOLD by the authors' own Lean function (tested against real Go, not proved from fmt's source: count such statements apart). THE CARD IS WHAT COUNTS. Prove the row's statement (the work); the ties are given (YtpnkeaeikcobfaaGreatDoorTie.lean); close each card by the builder's one call (the guide's Derived/Test/ToyasCard.lean, 'card_holds'). Laid BY PROGRAM, IN A SANDBOX (cutbox-door.mjs). By AI agents, Wed Nov 11 2026. No macro, syntax, notation, axiom, sorry.
-/
import Derived.Test.YtpnkeaeikcobfaaGreatDoorRows
import GoSem.ClaimSeven
namespace Go.Proofs.YtpnkeaeikcobfaaGreatDoor
namespace Rows

/-- THE TIED CARD OF 'laws.FnViews'. -/
def fnViewsCard : Claim7 := { stood := { row := fnViewsRow, standIns := [], harness := (true, "33b8f7d73df7b9e6fa248b28dbd214e2b9f52c5937d9bcf24291a4b9534e6f8f"), looks := false }, kinds := [], alts := [], laidByText := true, laidKinds := [.data, .data, .data], laidTests := true, laidLooks := .later }
def FnViewsCardSaid : Prop := Claim7.holds Tryz.pinned (.plain (OpenSpec.ofChange fnViewsSpec)) fnViewsCard

/-- THE SECOND FORM's CARD OF 'laws.FnViews'. -/
def fnViewsUptoCard : Claim7 := { stood := { row := fnViewsUptoRow, standIns := [], harness := (true, "33b8f7d73df7b9e6fa248b28dbd214e2b9f52c5937d9bcf24291a4b9534e6f8f"), looks := false }, kinds := [], alts := [], laidByText := true, laidKinds := [.data, .data, .data], laidTests := true, laidLooks := .later }
def FnViewsUptoCardSaid : Prop := Claim7.holds Tryz.pinned (.plain (OpenSpec.upto fnViewsSpec)) fnViewsUptoCard
end Rows
end Go.Proofs.YtpnkeaeikcobfaaGreatDoor
