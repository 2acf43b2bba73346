/- The record Trial: its cells, and how one that came in is opened. No condition. -/
import Derived.Test.YtpfkmfejginojaaProg
import Derived.Test.YtpfkmfejginojaaOpen
namespace Go.Proofs.Ytpfkmfejginojaa
set_option linter.unusedVariables false
set_option linter.unusedSimpArgs false
open Go.RowKit Go.ChangeShapes Go.WideShapes Go.Deep
structure Trial where
  real : Int
  fake : Int
  price : Int
instance : Inhabited Trial := ⟨⟨0, 0, 0⟩⟩
def encTrial (t : Trial) : List Value := [.int .i64 t.real, .int .i64 t.fake, .int .i64 t.price]
theorem encTrial_len (t : Trial) : (encTrial t).length = 3 := rfl
def Trial.fits (t : Trial) : Prop := Fits t.real ∧ Fits t.fake ∧ Fits t.price
section
variable {H : Type} {enc : TypeId × Value → H} {w : World} {base : Nat} {spare : Nat → Bool} {held : Bool}
theorem elTrial (cs : List Value) (n : Nat) (y : DataW H × List MemPlace) (h : DataW.trod enc Try.prog w base spare held n 58 cs = some y) : ∃ a : Trial, cs = encTrial a ∧ a.fits := by
  obtain ⟨hl, hf⟩ := trod_fields Try.underlying58 (by kernel_rfl) (by kernel_rfl) h
  obtain ⟨v0, n0, y0, c0, t0⟩ := hf 0 _ rfl
  obtain ⟨v1, n1, y1, c1, t1⟩ := hf 1 _ rfl
  obtain ⟨v2, n2, y2, c2, t2⟩ := hf 2 _ rfl
  obtain ⟨a0, rfl, f0⟩ := int_el Try.underlying3 t0
  obtain ⟨a1, rfl, f1⟩ := int_el Try.underlying3 t1
  obtain ⟨a2, rfl, f2⟩ := int_el Try.underlying3 t2
  match cs, hl with
  | [d0, d1, d2], _ =>
    simp at c0 c1 c2
    exact ⟨⟨a0, a1, a2⟩, by simp [encTrial, c0, c1, c2], f0, f1, f2⟩
end
theorem Rd.atTrial {B : Nat} {w : World} {A : Option Addr} {xs : List Trial} (h : Rd encTrial 3 B w A xs) {i : Nat} (hi : i < xs.length) :
    ∃ b off, A = some ⟨b, off, none⟩ ∧ b < B ∧ w.cell? ⟨b, off + i * 3, none⟩ = some (.int .i64 xs[i].real) ∧ w.cell? ⟨b, off + i * 3 + 1, none⟩ = some (.int .i64 xs[i].fake) ∧ w.cell? ⟨b, off + i * 3 + 2, none⟩ = some (.int .i64 xs[i].price) := by
  obtain ⟨b, off, hA, hb, hc⟩ := h.at_ hi
  exact ⟨b, off, hA, hb, by simpa using hc 0 _ rfl, hc 1 _ rfl, hc 2 _ rfl⟩
end Go.Proofs.Ytpfkmfejginojaa
