/- A slice of records of the call's own: its cells, and one cell of one record stored. No condition of its own. -/
import Derived.Test.YtgjehnjpbekoeaaDoorApp2
namespace Go.Proofs.YtgjehnjpbekoeaaDoor
set_option linter.unusedVariables false
set_option linter.unusedSimpArgs false
open Go.RowKit
section
variable {α : Type} {enc : α → List Value} {k : Nat} {E : TypeId} {base : Nat} {v : Value} {ys : List α} {w w' : World}
theorem OutR.openedR (h : OutR enc k E base v ys w) (hl : ∀ x, (enc x).length = k) (hn : 0 < ys.length) : ∃ g c, v = .slice (some ⟨g, 0, none⟩) ys.length c ∧ ys.length ≤ c ∧ base ≤ g ∧ g < w.heap.size ∧ (∀ o, w.frozen? ⟨g, o, none⟩ = false) ∧ ∀ (i : Nat) (x : α), ys[i]? = some x → ∀ (j : Nat) (u : Value), (enc x)[j]? = some u → w.cell? ⟨g, i * k + j, none⟩ = some u := by
  obtain ⟨A, c, rfl, ho, hc⟩ := h.own hl
  obtain ⟨b, off, rfl, h1, h2, h3, h4⟩ := ho.2 hn
  have h0 : off = 0 := by
    rcases h.2 with ⟨h5, _⟩ | ⟨g, cap, cur, h5, _⟩
    · cases h5
    · injection h5 with h5; injection h5 with h5; injection h5
  subst h0
  exact ⟨b, c, rfl, hc, h1, h2, h4, fun i x hx j u hu => by simpa using h3 i x hx j u hu⟩
theorem flat_setR {m' : α} : ∀ {ys : List α} {i j : Nat} {u : Value} (_ : ∀ x, (enc x).length = k) (hi : i < ys.length) (_ : j < k) (_ : enc m' = (enc ys[i]).set j u), (ys.flatMap enc).set (i * k + j) u = (ys.set i m').flatMap enc
  | y :: ys, 0, j, u, hl, hi, hj, he => by
    simp only [List.getElem_cons_zero] at he
    simp only [List.set_cons_zero, List.flatMap_cons, Nat.zero_mul, Nat.zero_add]
    rw [List.set_append_left _ _ (by rw [hl]; exact hj), he]
  | y :: ys, i + 1, j, u, hl, hi, hj, he => by
    simp only [List.getElem_cons_succ] at he
    simp only [List.set_cons_succ, List.flatMap_cons]
    have hge : (enc y).length ≤ (i + 1) * k + j := by rw [hl, Nat.add_mul]; omega
    rw [List.set_append_right _ _ hge, hl]
    have : (i + 1) * k + j - k = i * k + j := by rw [Nat.add_mul]; omega
    rw [this, flat_setR hl (by simpa using hi) hj he]
theorem OutR.cellSetR {g n c i j : Nat} {u : Value} {m' : α} (h : OutR enc k E base (.slice (some ⟨g, 0, none⟩) n c) ys w) (hl : ∀ x, (enc x).length = k) (hi : i < ys.length) (hj : j < k) (he : enc m' = (enc ys[i]).set j u) : OutR enc k E base (.slice (some ⟨g, 0, none⟩) n c) (ys.set i m') (w.setCell ⟨g, i * k + j, none⟩ u) := by
  have hn : n = ys.length := by
    rcases h.2 with ⟨h1, _⟩ | ⟨g', cap', cur, h1, _⟩
    · cases h1
    · injection h1
  subst hn
  have := (World.ownsRow.stored h (i * k + j) u).1
  unfold OutR
  rw [List.length_set, ← flat_setR hl hi hj he]
  exact this
end
end Go.Proofs.YtgjehnjpbekoeaaDoor
