/- slices.BinarySearch at ints, by the shelf's contract. No condition but the size. -/
import Derived.Test.YthhmcdiedoebiaaAlCpy2
import Derived.Test.YthhmcdiedoebiaaPutPlain
import Derived.Shelf.Slices.SearchI
import Derived.Shelf.Slices.Empties
namespace Go.Proofs.Ythhmcdiedoebiaa
set_option linter.unusedVariables false
set_option linter.unusedSimpArgs false
open Go.RowKit Go.Shelf
shelf_lay Lays2.n25 Nm2 25 at Try as laysSearch
theorem countP_asc (x : Int) : ∀ (zs : List Int), zs.Pairwise (· ≤ ·) → zs.countP (· < x) = putK zs x
  | [], _ => rfl
  | z :: zs, h => by
    rw [List.pairwise_cons] at h
    unfold putK
    by_cases hz : z < x
    · rw [List.countP_cons_of_pos (by simpa using hz), List.takeWhile_cons_of_pos (by simpa using hz), List.length_cons, countP_asc x zs h.2]
      rfl
    · rw [List.takeWhile_cons_of_neg (by simpa using hz)]
      simp only [List.length_nil, List.countP_eq_zero]
      intro y hy
      rcases List.mem_cons.1 hy with rfl | hy
      · simpa using hz
      · have := h.1 y hy; simp; omega
theorem search_c (zs : List Int) (A : Option Addr) (c : Nat) (x : Int) (w : World) (hr : Rd encI 1 w.heap.size w A zs) (hn : zs.length ≤ 2097152) (hs : zs.Pairwise (· ≤ ·)) :
    Calls Try.prog 64 #[.slice A zs.length c, .int .i64 x] w fun e w' => ∃ b, e = .returned (.tuple #[.int .i64 (putK zs x : Nat), .bool b]) ∧ ∃ q, w' = w.drewN q := by
  by_cases hz : zs = []
  · subst hz
    refine (Any.slices_BinarySearch_int_empty laysSearch A c x w).mono ?_
    rintro _ _ ⟨rfl, rfl⟩
    exact ⟨_, rfl, 0, rfl⟩
  · obtain ⟨b, off, rfl, hb, hc⟩ := hr (List.length_pos_iff.2 hz)
    refine (Any.slices_BinarySearch_int laysSearch b off zs.length c zs x w (Nat.le_refl _) (by omega) (fun j hj => ?_) (by rw [List.take_length]; exact hs)).mono ?_
    · have := hc j _ (List.getElem?_eq_getElem hj) 0 _ rfl
      simpa [List.getD, List.getElem?_eq_getElem hj] using this
    · rintro _ _ ⟨rfl, q, rfl⟩
      rw [List.take_length, countP_asc x zs hs]
      exact ⟨_, rfl, q, rfl⟩
end Go.Proofs.Ythhmcdiedoebiaa
