/- The record Odds: its cells, and how one that came in is opened. No condition. -/
import Derived.Test.YtpnkeaeikcobfaaGreatDoorProg
import Derived.Test.YtpnkeaeikcobfaaGreatDoorOpen
namespace Go.Proofs.YtpnkeaeikcobfaaGreatDoor
set_option linter.unusedVariables false
set_option linter.unusedSimpArgs false
open Go.RowKit Go.ChangeShapes Go.WideShapes Go.Deep
structure Odds where
  real : Int
  fake : Int
instance : Inhabited Odds := ⟨⟨0, 0⟩⟩
def encOdds (t : Odds) : List Value := [.int .i64 t.real, .int .i64 t.fake]
theorem encOdds_len (t : Odds) : (encOdds t).length = 2 := rfl
def Odds.fits (t : Odds) : Prop := Fits t.real ∧ Fits t.fake
theorem Rd.atOdds {B : Nat} {w : World} {A : Option Addr} {xs : List Odds} (h : Rd encOdds 2 B w A xs) {i : Nat} (hi : i < xs.length) :
    ∃ b off, A = some ⟨b, off, none⟩ ∧ b < B ∧ w.cell? ⟨b, off + i * 2, none⟩ = some (.int .i64 xs[i].real) ∧ w.cell? ⟨b, off + i * 2 + 1, none⟩ = some (.int .i64 xs[i].fake) := by
  obtain ⟨b, off, hA, hb, hc⟩ := h.at_ hi
  exact ⟨b, off, hA, hb, by simpa using hc 0 _ rfl, hc 1 _ rfl⟩
end Go.Proofs.YtpnkeaeikcobfaaGreatDoor
