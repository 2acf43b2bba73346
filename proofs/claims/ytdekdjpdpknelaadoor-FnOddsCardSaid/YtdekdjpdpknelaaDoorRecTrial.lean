/- The record Trial: its cells, and how one that came in is opened. No condition. -/
import Derived.Test.YtdekdjpdpknelaaDoorProg
import Derived.Test.YtdekdjpdpknelaaDoorOpen
namespace Go.Proofs.YtdekdjpdpknelaaDoor
set_option linter.unusedVariables false
set_option linter.unusedSimpArgs false
open Go.RowKit Go.ChangeShapes Go.WideShapes Go.Deep
structure Trial where
  real : Int
  fake : Int
  price : Int
instance : Inhabited Trial := ⟨⟨0, 0, 0⟩⟩
def encTrial (t : Trial) : List Value := [.int .i64 t.real, .int .i64 t.fake, .int .i64 t.price]
theorem encTrial_len (t : Trial) : (encTrial t).length = 3 := rfl
def Trial.fits (t : Trial) : Prop := Fits t.real ∧ Fits t.fake ∧ Fits t.price
theorem Rd.atTrial {B : Nat} {w : World} {A : Option Addr} {xs : List Trial} (h : Rd encTrial 3 B w A xs) {i : Nat} (hi : i < xs.length) :
    ∃ b off, A = some ⟨b, off, none⟩ ∧ b < B ∧ w.cell? ⟨b, off + i * 3, none⟩ = some (.int .i64 xs[i].real) ∧ w.cell? ⟨b, off + i * 3 + 1, none⟩ = some (.int .i64 xs[i].fake) ∧ w.cell? ⟨b, off + i * 3 + 2, none⟩ = some (.int .i64 xs[i].price) := by
  obtain ⟨b, off, hA, hb, hc⟩ := h.at_ hi
  exact ⟨b, off, hA, hb, by simpa using hc 0 _ rfl, hc 1 _ rfl, hc 2 _ rfl⟩
end Go.Proofs.YtdekdjpdpknelaaDoor
