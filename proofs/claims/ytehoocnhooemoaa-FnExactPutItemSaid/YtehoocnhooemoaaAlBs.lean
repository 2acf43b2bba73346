/- slices.BinarySearch at ints, by the shelf's contract. No condition but the size. -/
import Derived.Test.YtehoocnhooemoaaAlCpy2
import Derived.Test.YtehoocnhooemoaaPutPlain
import Derived.Shelf.Slices.SearchI
import Derived.Shelf.Slices.Empties
namespace Go.Proofs.Ytehoocnhooemoaa
set_option linter.unusedVariables false
set_option linter.unusedSimpArgs false
open Go.RowKit Go.Shelf
def laysSearch_ren : Go.Shelf.Ren := ⟨fun | 25 => 45 | 31 => 65 | 32 => 66 | 37 => 81 | n => n, fun | 22 => 31 | 3 => 3 | 4 => 4 | 40 => 72 | 0 => 0 | n => n, fun | n => n⟩
theorem laysSearch : Go.Proofs.Lays2.n25 Try.prog laysSearch_ren := {
  mixed := by kernel_rfl
  f25 := Try.func45.trans (congrArg some (by kernel_rfl))
  f31 := Try.func65.trans (congrArg some (by kernel_rfl))
  f32 := Try.func66.trans (congrArg some (by kernel_rfl))
  f37 := Try.func81.trans (congrArg some (by kernel_rfl))
  t0 := Try.underlying0
  a0 := Try.isAgg0
  z0 := Try.sizeOf0
  v0 := Try.zeroValue0
  t3 := Try.underlying3
  a3 := Try.isAgg3
  z3 := Try.sizeOf3
  v3 := Try.zeroValue3
  t4 := Try.underlying4
  a4 := Try.isAgg4
  z4 := Try.sizeOf4
  v4 := Try.zeroValue4
  t22 := Try.underlying31
  a22 := Try.isAgg31
  z22 := Try.sizeOf31
  v22 := Try.zeroValue31
  t40 := Try.underlying72
  a40 := Try.isAgg72
  z40 := Try.sizeOf72
  v40 := Try.zeroValue72 }
theorem countP_asc (x : Int) : ∀ (zs : List Int), zs.Pairwise (· ≤ ·) → zs.countP (· < x) = putK zs x
  | [], _ => rfl
  | z :: zs, h => by
    rw [List.pairwise_cons] at h
    unfold putK
    by_cases hz : z < x
    · rw [List.countP_cons_of_pos (by simpa using hz), List.takeWhile_cons_of_pos (by simpa using hz), List.length_cons, countP_asc x zs h.2]
      rfl
    · rw [List.takeWhile_cons_of_neg (by simpa using hz)]
      simp only [List.length_nil, List.countP_eq_zero]
      intro y hy
      rcases List.mem_cons.1 hy with rfl | hy
      · simpa using hz
      · have := h.1 y hy; simp; omega
theorem search_c (zs : List Int) (A : Option Addr) (c : Nat) (x : Int) (w : World) (hr : Rd encI 1 w.heap.size w A zs) (hn : zs.length ≤ 2097152) (hs : zs.Pairwise (· ≤ ·)) :
    Calls Try.prog 45 #[.slice A zs.length c, .int .i64 x] w fun e w' => ∃ b, e = .returned (.tuple #[.int .i64 (putK zs x : Nat), .bool b]) ∧ ∃ q, w' = w.drewN q := by
  by_cases hz : zs = []
  · subst hz
    refine (Any.slices_BinarySearch_int_empty laysSearch A c x w).mono ?_
    rintro _ _ ⟨rfl, rfl⟩
    exact ⟨_, rfl, 0, rfl⟩
  · obtain ⟨b, off, rfl, hb, hc⟩ := hr (List.length_pos_iff.2 hz)
    refine (Any.slices_BinarySearch_int laysSearch b off zs.length c zs x w (Nat.le_refl _) (by omega) (fun j hj => ?_) (by rw [List.take_length]; exact hs)).mono ?_
    · have := hc j _ (List.getElem?_eq_getElem hj) 0 _ rfl
      simpa [List.getD, List.getElem?_eq_getElem hj] using this
    · rintro _ _ ⟨rfl, q, rfl⟩
      rw [List.take_length, countP_asc x zs hs]
      exact ⟨_, rfl, q, rfl⟩
end Go.Proofs.Ytehoocnhooemoaa
