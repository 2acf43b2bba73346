/- The record Flaw: its cells, and how one that came in is opened. No condition. -/
import Derived.Test.YtgjehnjpbekoeaaDoorProg
import Derived.Test.YtgjehnjpbekoeaaDoorOpen
namespace Go.Proofs.YtgjehnjpbekoeaaDoor
set_option linter.unusedVariables false
set_option linter.unusedSimpArgs false
open Go.RowKit Go.ChangeShapes Go.WideShapes Go.Deep
structure Flaw where
  row : Int
  col : Int
  code : Int
  since : Int
instance : Inhabited Flaw := ⟨⟨0, 0, 0, 0⟩⟩
def encFlaw (t : Flaw) : List Value := [.int .i64 t.row, .int .i64 t.col, .int .i64 t.code, .int .i64 t.since]
theorem encFlaw_len (t : Flaw) : (encFlaw t).length = 4 := rfl
def Flaw.fits (t : Flaw) : Prop := Fits t.row ∧ Fits t.col ∧ Fits t.code ∧ Fits t.since
theorem Rd.atFlaw {B : Nat} {w : World} {A : Option Addr} {xs : List Flaw} (h : Rd encFlaw 4 B w A xs) {i : Nat} (hi : i < xs.length) :
    ∃ b off, A = some ⟨b, off, none⟩ ∧ b < B ∧ w.cell? ⟨b, off + i * 4, none⟩ = some (.int .i64 xs[i].row) ∧ w.cell? ⟨b, off + i * 4 + 1, none⟩ = some (.int .i64 xs[i].col) ∧ w.cell? ⟨b, off + i * 4 + 2, none⟩ = some (.int .i64 xs[i].code) ∧ w.cell? ⟨b, off + i * 4 + 3, none⟩ = some (.int .i64 xs[i].since) := by
  obtain ⟨b, off, hA, hb, hc⟩ := h.at_ hi
  exact ⟨b, off, hA, hb, by simpa using hc 0 _ rfl, hc 1 _ rfl, hc 2 _ rfl, hc 3 _ rfl⟩
end Go.Proofs.YtgjehnjpbekoeaaDoor
