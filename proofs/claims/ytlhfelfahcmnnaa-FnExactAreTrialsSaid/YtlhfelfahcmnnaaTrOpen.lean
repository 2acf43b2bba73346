/- How trials and odds that came in are opened. No condition of its own. -/
import Derived.Test.YtlhfelfahcmnnaaProg
import Derived.Test.YtlhfelfahcmnnaaOpen
namespace Go.Proofs.Ytlhfelfahcmnnaa
set_option linter.unusedVariables false
set_option linter.unusedSimpArgs false
open Go.RowKit Go.ChangeShapes Go.WideShapes Go.Deep
structure Trial where
  real : Int
  fake : Int
  price : Int
instance : Inhabited Trial := ⟨⟨0, 0, 0⟩⟩
def encT (t : Trial) : List Value := [.int .i64 t.real, .int .i64 t.fake, .int .i64 t.price]
structure Odds where
  real : Int
  fake : Int
instance : Inhabited Odds := ⟨⟨0, 0⟩⟩
def encO (t : Odds) : List Value := [.int .i64 t.real, .int .i64 t.fake]
def Trial.fits (t : Trial) : Prop := Fits t.real ∧ Fits t.fake ∧ Fits t.price
def Odds.fits (t : Odds) : Prop := Fits t.real ∧ Fits t.fake

section
variable {H : Type} {enc : TypeId × Value → H} {w : World} {base : Nat} {spare : Nat → Bool} {held : Bool}
theorem trial_el (cs : List Value) (n : Nat) (y : DataW H × List MemPlace) (h : DataW.trod enc Try.prog w base spare held n 23 cs = some y) : ∃ a : Trial, cs = encT a ∧ a.fits := by
  obtain ⟨hl, hf⟩ := trod_fields Try.underlying23 (by kernel_rfl) (by kernel_rfl) h
  obtain ⟨v0, n0, y0, c0, t0⟩ := hf 0 _ rfl
  obtain ⟨v1, n1, y1, c1, t1⟩ := hf 1 _ rfl
  obtain ⟨v2, n2, y2, c2, t2⟩ := hf 2 _ rfl
  obtain ⟨a0, rfl, f0⟩ := int_el Try.underlying3 t0
  obtain ⟨a1, rfl, f1⟩ := int_el Try.underlying3 t1
  obtain ⟨a2, rfl, f2⟩ := int_el Try.underlying3 t2
  match cs, hl with
  | [d0, d1, d2], _ =>
    simp at c0 c1 c2
    exact ⟨⟨a0, a1, a2⟩, by simp [encT, c0, c1, c2], f0, f1, f2⟩
theorem odds_el (cs : List Value) (n : Nat) (y : DataW H × List MemPlace) (h : DataW.trod enc Try.prog w base spare held n 30 cs = some y) : ∃ a : Odds, cs = encO a ∧ a.fits := by
  obtain ⟨hl, hf⟩ := trod_fields Try.underlying30 (by kernel_rfl) (by kernel_rfl) h
  obtain ⟨v0, n0, y0, c0, t0⟩ := hf 0 _ rfl
  obtain ⟨v1, n1, y1, c1, t1⟩ := hf 1 _ rfl
  obtain ⟨a0, rfl, f0⟩ := int_el Try.underlying3 t0
  obtain ⟨a1, rfl, f1⟩ := int_el Try.underlying3 t1
  match cs, hl with
  | [d0, d1], _ =>
    simp at c0 c1
    exact ⟨⟨a0, a1⟩, by simp [encO, c0, c1], f0, f1⟩
end
end Go.Proofs.Ytlhfelfahcmnnaa
