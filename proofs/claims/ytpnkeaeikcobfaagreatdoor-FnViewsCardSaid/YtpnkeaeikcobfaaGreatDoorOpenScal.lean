/- How slices of ints, bools and strings that came in are opened. No condition. -/
import Derived.Test.YtpnkeaeikcobfaaGreatDoorProg
import Derived.Test.YtpnkeaeikcobfaaGreatDoorOpen
import Derived.Test.YtpnkeaeikcobfaaGreatDoorScal
import Derived.Test.YtpnkeaeikcobfaaGreatDoorCur
namespace Go.Proofs.YtpnkeaeikcobfaaGreatDoor
set_option linter.unusedVariables false
set_option linter.unusedSimpArgs false
open Go.RowKit Go.ChangeShapes Go.WideShapes Go.Deep
theorem fits_of {n : Int} (h : (Lit.int .i64 n).wf = true) : -9223372036854775808 ≤ n ∧ n ≤ 9223372036854775807 := by
  have h2 : (decide (IntKind.i64.min ≤ n) && decide (n ≤ IntKind.i64.max)) = true := h
  have e1 : IntKind.i64.min = -9223372036854775808 := by decide
  have e2 : IntKind.i64.max = 9223372036854775807 := by decide
  rw [e1, e2] at h2
  simpa using h2
section
variable {H : Type} {enc : TypeId × Value → H} {w : World} {base : Nat} {spare : Nat → Bool} {held : Bool}
theorem elBool (cs : List Value) (n : Nat) (y : DataW H × List MemPlace) (h : DataW.trod enc Tryz.prog w base spare held n 4 cs = some y) : ∃ a : Bool, cs = encB a ∧ (fun _ => True) a := by
  obtain ⟨b, h1, _⟩ := DataW.trod_bool Tryz.underlying4 h
  exact ⟨b, h1, trivial⟩
theorem elInt (cs : List Value) (n : Nat) (y : DataW H × List MemPlace) (h : DataW.trod enc Tryz.prog w base spare held n 3 cs = some y) : ∃ a : Int, cs = encI a ∧ Fits a := by
  obtain ⟨b, h1, _, hw⟩ := DataW.trod_int Tryz.underlying3 h
  exact ⟨b, h1, fits_of hw⟩
end
end Go.Proofs.YtpnkeaeikcobfaaGreatDoor
namespace Go.Proofs.YtpnkeaeikcobfaaGreatDoor
set_option linter.unusedVariables false
set_option linter.unusedSimpArgs false
open Go.RowKit Go.ChangeShapes Go.WideShapes Go.Deep
section
variable {H : Type} {enc : TypeId × Value → H} {w : World} {base : Nat} {spare : Nat → Bool} {held : Bool}
theorem elByte (cs : List Value) (n : Nat) (y : DataW H × List MemPlace) (h : DataW.trod enc Tryz.prog w base spare held n 5 cs = some y) : ∃ a : Int, cs = encY a ∧ ByteI a := by
  obtain ⟨b, h1, _, hw⟩ := DataW.trod_int Tryz.underlying5 h
  refine ⟨b, h1, ?_⟩
  have h2 : (decide (IntKind.u8.min ≤ b) && decide (b ≤ IntKind.u8.max)) = true := hw
  have e1 : IntKind.u8.min = 0 := by decide
  have e2 : IntKind.u8.max = 255 := by decide
  rw [e1, e2] at h2
  simpa [ByteI] using h2
end
end Go.Proofs.YtpnkeaeikcobfaaGreatDoor
