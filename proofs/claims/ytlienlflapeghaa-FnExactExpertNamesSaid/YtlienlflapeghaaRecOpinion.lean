/- The record Opinion: its cells, and how one that came in is opened. No condition. -/
import Derived.Test.YtlienlflapeghaaProg
import Derived.Test.YtlienlflapeghaaOpen
namespace Go.Proofs.Ytlienlflapeghaa
set_option linter.unusedVariables false
set_option linter.unusedSimpArgs false
open Go.RowKit Go.ChangeShapes Go.WideShapes Go.Deep
structure Opinion where
  item : Int
  expert : ByteArray
  day : Int
  says : Int
  over : Int
instance : Inhabited Opinion := ⟨⟨0, ByteArray.empty, 0, 0, 0⟩⟩
def encOpinion (t : Opinion) : List Value := [.int .i64 t.item, .string t.expert, .int .i64 t.day, .int .i64 t.says, .int .i64 t.over]
theorem encOpinion_len (t : Opinion) : (encOpinion t).length = 5 := rfl
def Opinion.fits (t : Opinion) : Prop := Fits t.item ∧ t.expert.size ≤ maxLen ∧ Fits t.day ∧ Fits t.says ∧ Fits t.over
section
variable {H : Type} {enc : TypeId × Value → H} {w : World} {base : Nat} {spare : Nat → Bool} {held : Bool}
theorem elOpinion (cs : List Value) (n : Nat) (y : DataW H × List MemPlace) (h : DataW.trod enc Try.prog w base spare held n 36 cs = some y) : ∃ a : Opinion, cs = encOpinion a ∧ a.fits := by
  obtain ⟨hl, hf⟩ := trod_fields Try.underlying36 (by kernel_rfl) (by kernel_rfl) h
  obtain ⟨v0, n0, y0, c0, t0⟩ := hf 0 _ rfl
  obtain ⟨v1, n1, y1, c1, t1⟩ := hf 1 _ rfl
  obtain ⟨v2, n2, y2, c2, t2⟩ := hf 2 _ rfl
  obtain ⟨v3, n3, y3, c3, t3⟩ := hf 3 _ rfl
  obtain ⟨v4, n4, y4, c4, t4⟩ := hf 4 _ rfl
  obtain ⟨a0, rfl, f0⟩ := int_el Try.underlying3 t0
  obtain ⟨a1, rfl, f1⟩ := str_el Try.underlying9 t1
  obtain ⟨a2, rfl, f2⟩ := int_el Try.underlying3 t2
  obtain ⟨a3, rfl, f3⟩ := int_el Try.underlying3 t3
  obtain ⟨a4, rfl, f4⟩ := int_el Try.underlying3 t4
  match cs, hl with
  | [d0, d1, d2, d3, d4], _ =>
    simp at c0 c1 c2 c3 c4
    exact ⟨⟨a0, a1, a2, a3, a4⟩, by simp [encOpinion, c0, c1, c2, c3, c4], f0, f1, f2, f3, f4⟩
end
theorem Rd.atOpinion {B : Nat} {w : World} {A : Option Addr} {xs : List Opinion} (h : Rd encOpinion 5 B w A xs) {i : Nat} (hi : i < xs.length) :
    ∃ b off, A = some ⟨b, off, none⟩ ∧ b < B ∧ w.cell? ⟨b, off + i * 5, none⟩ = some (.int .i64 xs[i].item) ∧ w.cell? ⟨b, off + i * 5 + 1, none⟩ = some (.string xs[i].expert) ∧ w.cell? ⟨b, off + i * 5 + 2, none⟩ = some (.int .i64 xs[i].day) ∧ w.cell? ⟨b, off + i * 5 + 3, none⟩ = some (.int .i64 xs[i].says) ∧ w.cell? ⟨b, off + i * 5 + 4, none⟩ = some (.int .i64 xs[i].over) := by
  obtain ⟨b, off, hA, hb, hc⟩ := h.at_ hi
  exact ⟨b, off, hA, hb, by simpa using hc 0 _ rfl, hc 1 _ rfl, hc 2 _ rfl, hc 3 _ rfl, hc 4 _ rfl⟩
end Go.Proofs.Ytlienlflapeghaa
