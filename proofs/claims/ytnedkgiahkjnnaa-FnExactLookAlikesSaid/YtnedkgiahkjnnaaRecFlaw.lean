/- The record Flaw: its cells, and how one that came in is opened. No condition. -/
import Derived.Test.YtnedkgiahkjnnaaProg
import Derived.Test.YtnedkgiahkjnnaaOpen
namespace Go.Proofs.Ytnedkgiahkjnnaa
set_option linter.unusedVariables false
set_option linter.unusedSimpArgs false
open Go.RowKit Go.ChangeShapes Go.WideShapes Go.Deep
structure Flaw where
  row : Int
  col : Int
  code : Int
  since : Int
instance : Inhabited Flaw := ⟨⟨0, 0, 0, 0⟩⟩
def encFlaw (t : Flaw) : List Value := [.int .i64 t.row, .int .i64 t.col, .int .i64 t.code, .int .i64 t.since]
theorem encFlaw_len (t : Flaw) : (encFlaw t).length = 4 := rfl
def Flaw.fits (t : Flaw) : Prop := Fits t.row ∧ Fits t.col ∧ Fits t.code ∧ Fits t.since
section
variable {H : Type} {enc : TypeId × Value → H} {w : World} {base : Nat} {spare : Nat → Bool} {held : Bool}
theorem elFlaw (cs : List Value) (n : Nat) (y : DataW H × List MemPlace) (h : DataW.trod enc Try.prog w base spare held n 38 cs = some y) : ∃ a : Flaw, cs = encFlaw a ∧ a.fits := by
  obtain ⟨hl, hf⟩ := trod_fields Try.underlying38 (by kernel_rfl) (by kernel_rfl) h
  obtain ⟨v0, n0, y0, c0, t0⟩ := hf 0 _ rfl
  obtain ⟨v1, n1, y1, c1, t1⟩ := hf 1 _ rfl
  obtain ⟨v2, n2, y2, c2, t2⟩ := hf 2 _ rfl
  obtain ⟨v3, n3, y3, c3, t3⟩ := hf 3 _ rfl
  obtain ⟨a0, rfl, f0⟩ := int_el Try.underlying3 t0
  obtain ⟨a1, rfl, f1⟩ := int_el Try.underlying3 t1
  obtain ⟨a2, rfl, f2⟩ := int_el Try.underlying3 t2
  obtain ⟨a3, rfl, f3⟩ := int_el Try.underlying3 t3
  match cs, hl with
  | [d0, d1, d2, d3], _ =>
    simp at c0 c1 c2 c3
    exact ⟨⟨a0, a1, a2, a3⟩, by simp [encFlaw, c0, c1, c2, c3], f0, f1, f2, f3⟩
end
theorem Rd.atFlaw {B : Nat} {w : World} {A : Option Addr} {xs : List Flaw} (h : Rd encFlaw 4 B w A xs) {i : Nat} (hi : i < xs.length) :
    ∃ b off, A = some ⟨b, off, none⟩ ∧ b < B ∧ w.cell? ⟨b, off + i * 4, none⟩ = some (.int .i64 xs[i].row) ∧ w.cell? ⟨b, off + i * 4 + 1, none⟩ = some (.int .i64 xs[i].col) ∧ w.cell? ⟨b, off + i * 4 + 2, none⟩ = some (.int .i64 xs[i].code) ∧ w.cell? ⟨b, off + i * 4 + 3, none⟩ = some (.int .i64 xs[i].since) := by
  obtain ⟨b, off, hA, hb, hc⟩ := h.at_ hi
  exact ⟨b, off, hA, hb, by simpa using hc 0 _ rfl, hc 1 _ rfl, hc 2 _ rfl, hc 3 _ rfl⟩
end Go.Proofs.Ytnedkgiahkjnnaa
