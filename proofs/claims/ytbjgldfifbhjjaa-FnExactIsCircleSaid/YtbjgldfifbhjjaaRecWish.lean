/- The record Wish: its cells, and how one that came in is opened. No condition. -/
import Derived.Test.YtbjgldfifbhjjaaProg
import Derived.Test.YtbjgldfifbhjjaaOpen
namespace Go.Proofs.Ytbjgldfifbhjjaa
set_option linter.unusedVariables false
set_option linter.unusedSimpArgs false
open Go.RowKit Go.ChangeShapes Go.WideShapes Go.Deep
structure Wish where
  giver : Int
  taker : Int
  gain : Int
instance : Inhabited Wish := ⟨⟨0, 0, 0⟩⟩
def encWish (t : Wish) : List Value := [.int .i64 t.giver, .int .i64 t.taker, .int .i64 t.gain]
theorem encWish_len (t : Wish) : (encWish t).length = 3 := rfl
def Wish.fits (t : Wish) : Prop := Fits t.giver ∧ Fits t.taker ∧ Fits t.gain
section
variable {H : Type} {enc : TypeId × Value → H} {w : World} {base : Nat} {spare : Nat → Bool} {held : Bool}
theorem elWish (cs : List Value) (n : Nat) (y : DataW H × List MemPlace) (h : DataW.trod enc Try.prog w base spare held n 101 cs = some y) : ∃ a : Wish, cs = encWish a ∧ a.fits := by
  obtain ⟨hl, hf⟩ := trod_fields Try.underlying101 (by kernel_rfl) (by kernel_rfl) h
  obtain ⟨v0, n0, y0, c0, t0⟩ := hf 0 _ rfl
  obtain ⟨v1, n1, y1, c1, t1⟩ := hf 1 _ rfl
  obtain ⟨v2, n2, y2, c2, t2⟩ := hf 2 _ rfl
  obtain ⟨a0, rfl, f0⟩ := int_el Try.underlying3 t0
  obtain ⟨a1, rfl, f1⟩ := int_el Try.underlying3 t1
  obtain ⟨a2, rfl, f2⟩ := int_el Try.underlying3 t2
  match cs, hl with
  | [d0, d1, d2], _ =>
    simp at c0 c1 c2
    exact ⟨⟨a0, a1, a2⟩, by simp [encWish, c0, c1, c2], f0, f1, f2⟩
end
theorem Rd.atWish {B : Nat} {w : World} {A : Option Addr} {xs : List Wish} (h : Rd encWish 3 B w A xs) {i : Nat} (hi : i < xs.length) :
    ∃ b off, A = some ⟨b, off, none⟩ ∧ b < B ∧ w.cell? ⟨b, off + i * 3, none⟩ = some (.int .i64 xs[i].giver) ∧ w.cell? ⟨b, off + i * 3 + 1, none⟩ = some (.int .i64 xs[i].taker) ∧ w.cell? ⟨b, off + i * 3 + 2, none⟩ = some (.int .i64 xs[i].gain) := by
  obtain ⟨b, off, hA, hb, hc⟩ := h.at_ hi
  exact ⟨b, off, hA, hb, by simpa using hc 0 _ rfl, hc 1 _ rfl, hc 2 _ rfl⟩
end Go.Proofs.Ytbjgldfifbhjjaa
