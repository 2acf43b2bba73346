/- The record Odds: its cells, and how one that came in is opened. No condition. -/
import Derived.Test.YtpfkmfejginojaaProg
import Derived.Test.YtpfkmfejginojaaOpen
namespace Go.Proofs.Ytpfkmfejginojaa
set_option linter.unusedVariables false
set_option linter.unusedSimpArgs false
open Go.RowKit Go.ChangeShapes Go.WideShapes Go.Deep
structure Odds where
  real : Int
  fake : Int
instance : Inhabited Odds := ⟨⟨0, 0⟩⟩
def encOdds (t : Odds) : List Value := [.int .i64 t.real, .int .i64 t.fake]
theorem encOdds_len (t : Odds) : (encOdds t).length = 2 := rfl
def Odds.fits (t : Odds) : Prop := Fits t.real ∧ Fits t.fake
section
variable {H : Type} {enc : TypeId × Value → H} {w : World} {base : Nat} {spare : Nat → Bool} {held : Bool}
theorem elOdds (cs : List Value) (n : Nat) (y : DataW H × List MemPlace) (h : DataW.trod enc Try.prog w base spare held n 24 cs = some y) : ∃ a : Odds, cs = encOdds a ∧ a.fits := by
  obtain ⟨hl, hf⟩ := trod_fields Try.underlying24 (by kernel_rfl) (by kernel_rfl) h
  obtain ⟨v0, n0, y0, c0, t0⟩ := hf 0 _ rfl
  obtain ⟨v1, n1, y1, c1, t1⟩ := hf 1 _ rfl
  obtain ⟨a0, rfl, f0⟩ := int_el Try.underlying3 t0
  obtain ⟨a1, rfl, f1⟩ := int_el Try.underlying3 t1
  match cs, hl with
  | [d0, d1], _ =>
    simp at c0 c1
    exact ⟨⟨a0, a1⟩, by simp [encOdds, c0, c1], f0, f1⟩
end
theorem Rd.atOdds {B : Nat} {w : World} {A : Option Addr} {xs : List Odds} (h : Rd encOdds 2 B w A xs) {i : Nat} (hi : i < xs.length) :
    ∃ b off, A = some ⟨b, off, none⟩ ∧ b < B ∧ w.cell? ⟨b, off + i * 2, none⟩ = some (.int .i64 xs[i].real) ∧ w.cell? ⟨b, off + i * 2 + 1, none⟩ = some (.int .i64 xs[i].fake) := by
  obtain ⟨b, off, hA, hb, hc⟩ := h.at_ hi
  exact ⟨b, off, hA, hb, by simpa using hc 0 _ rfl, hc 1 _ rfl⟩
end Go.Proofs.Ytpfkmfejginojaa
