/- The record Hold: its cells, and how one that came in is opened. No condition. -/
import Derived.Test.YtebkfcdijjcefaaDoorProg
import Derived.Test.YtebkfcdijjcefaaDoorOpen
namespace Go.Proofs.YtebkfcdijjcefaaDoor
set_option linter.unusedVariables false
set_option linter.unusedSimpArgs false
open Go.RowKit Go.ChangeShapes Go.WideShapes Go.Deep
structure Hold where
  owner : ByteArray
  item : Int
  count : Int
instance : Inhabited Hold := ⟨⟨ByteArray.empty, 0, 0⟩⟩
def encHold (t : Hold) : List Value := [.string t.owner, .int .i64 t.item, .int .i64 t.count]
theorem encHold_len (t : Hold) : (encHold t).length = 3 := rfl
def Hold.fits (t : Hold) : Prop := t.owner.size ≤ maxLen ∧ Fits t.item ∧ Fits t.count
theorem Rd.atHold {B : Nat} {w : World} {A : Option Addr} {xs : List Hold} (h : Rd encHold 3 B w A xs) {i : Nat} (hi : i < xs.length) :
    ∃ b off, A = some ⟨b, off, none⟩ ∧ b < B ∧ w.cell? ⟨b, off + i * 3, none⟩ = some (.string xs[i].owner) ∧ w.cell? ⟨b, off + i * 3 + 1, none⟩ = some (.int .i64 xs[i].item) ∧ w.cell? ⟨b, off + i * 3 + 2, none⟩ = some (.int .i64 xs[i].count) := by
  obtain ⟨b, off, hA, hb, hc⟩ := h.at_ hi
  exact ⟨b, off, hA, hb, by simpa using hc 0 _ rfl, hc 1 _ rfl, hc 2 _ rfl⟩
end Go.Proofs.YtebkfcdijjcefaaDoor
