/- The record Opinion: its cells, and how one that came in is opened. No condition. -/
import Derived.Test.YtpnkeaeikcobfaaGreatDoorProg
import Derived.Test.YtpnkeaeikcobfaaGreatDoorOpen
namespace Go.Proofs.YtpnkeaeikcobfaaGreatDoor
set_option linter.unusedVariables false
set_option linter.unusedSimpArgs false
open Go.RowKit Go.ChangeShapes Go.WideShapes Go.Deep
structure Opinion where
  item : Int
  expert : ByteArray
  day : Int
  says : Int
  over : Int
instance : Inhabited Opinion := ⟨⟨0, ByteArray.empty, 0, 0, 0⟩⟩
def encOpinion (t : Opinion) : List Value := [.int .i64 t.item, .string t.expert, .int .i64 t.day, .int .i64 t.says, .int .i64 t.over]
theorem encOpinion_len (t : Opinion) : (encOpinion t).length = 5 := rfl
def Opinion.fits (t : Opinion) : Prop := Fits t.item ∧ t.expert.size ≤ maxLen ∧ Fits t.day ∧ Fits t.says ∧ Fits t.over
theorem Rd.atOpinion {B : Nat} {w : World} {A : Option Addr} {xs : List Opinion} (h : Rd encOpinion 5 B w A xs) {i : Nat} (hi : i < xs.length) :
    ∃ b off, A = some ⟨b, off, none⟩ ∧ b < B ∧ w.cell? ⟨b, off + i * 5, none⟩ = some (.int .i64 xs[i].item) ∧ w.cell? ⟨b, off + i * 5 + 1, none⟩ = some (.string xs[i].expert) ∧ w.cell? ⟨b, off + i * 5 + 2, none⟩ = some (.int .i64 xs[i].day) ∧ w.cell? ⟨b, off + i * 5 + 3, none⟩ = some (.int .i64 xs[i].says) ∧ w.cell? ⟨b, off + i * 5 + 4, none⟩ = some (.int .i64 xs[i].over) := by
  obtain ⟨b, off, hA, hb, hc⟩ := h.at_ hi
  exact ⟨b, off, hA, hb, by simpa using hc 0 _ rfl, hc 1 _ rfl, hc 2 _ rfl, hc 3 _ rfl, hc 4 _ rfl⟩
end Go.Proofs.YtpnkeaeikcobfaaGreatDoor
