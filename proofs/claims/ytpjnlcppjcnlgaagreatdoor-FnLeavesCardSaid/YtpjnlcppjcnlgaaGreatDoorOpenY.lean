/- How a slice of bytes that came in is opened. No condition. -/
import Derived.Test.YtpjnlcppjcnlgaaGreatDoorProg
import Derived.Test.YtpjnlcppjcnlgaaGreatDoorOpenScal
import Derived.Test.YtpjnlcppjcnlgaaGreatDoorCur
namespace Go.Proofs.YtpjnlcppjcnlgaaGreatDoor
set_option linter.unusedVariables false
set_option linter.unusedSimpArgs false
open Go.RowKit Go.ChangeShapes Go.WideShapes Go.Deep
section
variable {H : Type} {enc : TypeId × Value → H} {w : World} {base : Nat} {spare : Nat → Bool} {held : Bool}
theorem elByte (cs : List Value) (n : Nat) (y : DataW H × List MemPlace) (h : DataW.trod enc Tryz.prog w base spare held n 5 cs = some y) : ∃ a : Int, cs = encY a ∧ ByteI a := by
  obtain ⟨b, h1, _, hw⟩ := DataW.trod_int Tryz.underlying5 h
  refine ⟨b, h1, ?_⟩
  have h2 : (decide (IntKind.u8.min ≤ b) && decide (b ≤ IntKind.u8.max)) = true := hw
  have e1 : IntKind.u8.min = 0 := by decide
  have e2 : IntKind.u8.max = 255 := by decide
  rw [e1, e2] at h2
  simpa [ByteI] using h2
end
end Go.Proofs.YtpjnlcppjcnlgaaGreatDoor
