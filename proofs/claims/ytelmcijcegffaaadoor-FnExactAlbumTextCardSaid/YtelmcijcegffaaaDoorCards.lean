/-
  DERIVED. GIVEN WITH THE SEED: THE CARDS: each row of YtelmcijcegffaaaDoorRows.lean that lists a variable, with what it lists TIED to the program's text (the seventh form; the later family's looks); each row that meets fmt, with fmt's text TOLD by the authors' own Lean function (tested against real Go, not proved from fmt's source: count such statements apart). THE CARD IS WHAT COUNTS. Prove the row's statement (the work); the ties are given (YtelmcijcegffaaaDoorTie.lean); close each card by the builder's one call (the guide's Derived/Test/ToyasCard.lean, 'card_holds'). Laid BY PROGRAM, IN A SANDBOX (cutbox-door.mjs). By AI agents, Wed Nov 11 2026. No macro, syntax, notation, axiom, sorry.
-/
import Derived.Test.YtelmcijcegffaaaDoorRows
import GoSem.ClaimSeven
namespace Go.Proofs.YtelmcijcegffaaaDoor
namespace Rows

/-- THE TIED CARD OF 'laws.FnExactCertificateText'. -/
def fnExactCertificateTextCard : Claim7 := { stood := { row := fnExactCertificateTextRow, standIns := [], harness := (true, "8be1d109b4189b1f08e0b42d6aab9015d9aca667ce41315a312026fc9cb18ae7"), looks := false }, kinds := [], alts := [], laidByText := true, laidKinds := [.data, .data, .data], laidTests := true, laidLooks := .later }
def FnExactCertificateTextCardSaid : Prop := Claim7.holds Tryd.pinned (.plain (OpenSpec.ofChange fnExactCertificateTextSpec)) fnExactCertificateTextCard

/-- THE TIED CARD OF 'laws.FnExactAlbumText'. -/
def fnExactAlbumTextCard : Claim7 := { stood := { row := fnExactAlbumTextRow, standIns := [], harness := (true, "8be1d109b4189b1f08e0b42d6aab9015d9aca667ce41315a312026fc9cb18ae7"), looks := false }, kinds := [], alts := [], laidByText := true, laidKinds := [.data, .data, .data], laidTests := true, laidLooks := .later }
def FnExactAlbumTextCardSaid : Prop := Claim7.holds Tryd.pinned (.plain (OpenSpec.ofChange fnExactAlbumTextSpec)) fnExactAlbumTextCard

/-- THE SECOND FORM's CARD OF 'laws.FnExactCertificateText'. -/
def fnExactCertificateTextUptoCard : Claim7 := { stood := { row := fnExactCertificateTextUptoRow, standIns := [], harness := (true, "8be1d109b4189b1f08e0b42d6aab9015d9aca667ce41315a312026fc9cb18ae7"), looks := false }, kinds := [], alts := [], laidByText := true, laidKinds := [.data, .data, .data], laidTests := true, laidLooks := .later }
def FnExactCertificateTextUptoCardSaid : Prop := Claim7.holds Tryd.pinned (.plain (OpenSpec.upto fnExactCertificateTextSpec)) fnExactCertificateTextUptoCard

/-- THE SECOND FORM's CARD OF 'laws.FnExactAlbumText'. -/
def fnExactAlbumTextUptoCard : Claim7 := { stood := { row := fnExactAlbumTextUptoRow, standIns := [], harness := (true, "8be1d109b4189b1f08e0b42d6aab9015d9aca667ce41315a312026fc9cb18ae7"), looks := false }, kinds := [], alts := [], laidByText := true, laidKinds := [.data, .data, .data], laidTests := true, laidLooks := .later }
def FnExactAlbumTextUptoCardSaid : Prop := Claim7.holds Tryd.pinned (.plain (OpenSpec.upto fnExactAlbumTextSpec)) fnExactAlbumTextUptoCard
end Rows
end Go.Proofs.YtelmcijcegffaaaDoor
