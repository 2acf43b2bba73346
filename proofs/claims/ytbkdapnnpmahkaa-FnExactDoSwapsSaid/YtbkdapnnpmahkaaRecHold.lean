/- The record Hold: its cells, and how one that came in is opened. No condition. -/
import Derived.Test.YtbkdapnnpmahkaaProg
import Derived.Test.YtbkdapnnpmahkaaOpen
namespace Go.Proofs.Ytbkdapnnpmahkaa
set_option linter.unusedVariables false
set_option linter.unusedSimpArgs false
open Go.RowKit Go.ChangeShapes Go.WideShapes Go.Deep
structure Hold where
  owner : ByteArray
  item : Int
  count : Int
instance : Inhabited Hold := ⟨⟨ByteArray.empty, 0, 0⟩⟩
def encHold (t : Hold) : List Value := [.string t.owner, .int .i64 t.item, .int .i64 t.count]
theorem encHold_len (t : Hold) : (encHold t).length = 3 := rfl
def Hold.fits (t : Hold) : Prop := t.owner.size ≤ maxLen ∧ Fits t.item ∧ Fits t.count
section
variable {H : Type} {enc : TypeId × Value → H} {w : World} {base : Nat} {spare : Nat → Bool} {held : Bool}
theorem elHold (cs : List Value) (n : Nat) (y : DataW H × List MemPlace) (h : DataW.trod enc Try.prog w base spare held n 33 cs = some y) : ∃ a : Hold, cs = encHold a ∧ a.fits := by
  obtain ⟨hl, hf⟩ := trod_fields Try.underlying33 (by kernel_rfl) (by kernel_rfl) h
  obtain ⟨v0, n0, y0, c0, t0⟩ := hf 0 _ rfl
  obtain ⟨v1, n1, y1, c1, t1⟩ := hf 1 _ rfl
  obtain ⟨v2, n2, y2, c2, t2⟩ := hf 2 _ rfl
  obtain ⟨a0, rfl, f0⟩ := str_el Try.underlying9 t0
  obtain ⟨a1, rfl, f1⟩ := int_el Try.underlying3 t1
  obtain ⟨a2, rfl, f2⟩ := int_el Try.underlying3 t2
  match cs, hl with
  | [d0, d1, d2], _ =>
    simp at c0 c1 c2
    exact ⟨⟨a0, a1, a2⟩, by simp [encHold, c0, c1, c2], f0, f1, f2⟩
end
theorem Rd.atHold {B : Nat} {w : World} {A : Option Addr} {xs : List Hold} (h : Rd encHold 3 B w A xs) {i : Nat} (hi : i < xs.length) :
    ∃ b off, A = some ⟨b, off, none⟩ ∧ b < B ∧ w.cell? ⟨b, off + i * 3, none⟩ = some (.string xs[i].owner) ∧ w.cell? ⟨b, off + i * 3 + 1, none⟩ = some (.int .i64 xs[i].item) ∧ w.cell? ⟨b, off + i * 3 + 2, none⟩ = some (.int .i64 xs[i].count) := by
  obtain ⟨b, off, hA, hb, hc⟩ := h.at_ hi
  exact ⟨b, off, hA, hb, by simpa using hc 0 _ rfl, hc 1 _ rfl, hc 2 _ rfl⟩
end Go.Proofs.Ytbkdapnnpmahkaa
