/- Contracts of BestTrial, OddsAfter and ResultChance, in the reference and in the program. No condition but the list's size. -/
import Derived.Test.YtdekdjpdpknelaaDoorTrGood
import Derived.Test.YtdekdjpdpknelaaDoorCvOdds
import Derived.Test.YtdekdjpdpknelaaDoorOver
namespace Go.Proofs.YtdekdjpdpknelaaDoor
set_option linter.unusedVariables false
set_option linter.unusedSimpArgs false
open Go.RowKit
def Trial.apart (t : Trial) : Int := max (t.real - t.fake) (t.fake - t.real)
theorem ok_bd {t : Trial} (h : t.ok = true) : 1 ≤ t.real ∧ t.real ≤ 99 ∧ 1 ≤ t.fake ∧ t.fake ≤ 99 ∧ 0 ≤ t.price ∧ t.price ≤ 1000 := by
  simp [Trial.ok, isTr, inR] at h; omega
theorem good_all {xs : List Trial} (h : goodT xs = true) {i : Nat} (hi : i < xs.length) : xs[i].ok = true := by
  simp only [goodT, Bool.and_eq_true] at h
  exact List.all_eq_true.1 h.1 _ (List.getElem_mem hi)
theorem good_len {xs : List Trial} (h : goodT xs = true) : xs.length ≤ 6 := by
  simp [goodT] at h; exact h.2
/-- The index of the best trial among the first k. -/
def bestStep (xs : List Trial) (b i : Nat) : Nat :=
  match xs[i]?, xs[b]? with
  | some x, some y => if y.apart < x.apart ∨ (x.apart = y.apart ∧ x.price < y.price) then i else b
  | _, _ => b
def bestT (xs : List Trial) (k : Nat) : Nat := (List.range k).foldl (bestStep xs) 0
theorem bestT_lt (xs : List Trial) (k : Nat) (hk : k ≤ xs.length) (h0 : 0 < xs.length) : bestT xs k < xs.length := by
  induction k with
  | zero => exact h0
  | succ k ih =>
    have := ih (by omega)
    unfold bestT at this ⊢
    rw [List.range_succ, List.foldl_append]
    simp only [List.foldl_cons, List.foldl_nil, bestStep]
    split <;> (try split) <;> omega
theorem bestT_succ (xs : List Trial) (k : Nat) : bestT xs (k + 1) = bestStep xs (bestT xs k) k := by
  unfold bestT; rw [List.range_succ, List.foldl_append]; rfl
theorem bestStep_eq (xs : List Trial) {m k : Nat} (hm : m < xs.length) (hk : k < xs.length) : bestStep xs m k = if xs[m].apart < xs[k].apart ∨ (xs[k].apart = xs[m].apart ∧ xs[k].price < xs[m].price) then k else m := by
  simp [bestStep, hk, hm]
def bestV (xs : List Trial) : Value := if goodT xs && !xs.isEmpty then .tuple #[.int .i64 (bestT xs xs.length : Int), .bool true] else .tuple #[.int .i64 0, .bool false]
theorem bestV_bad {xs : List Trial} (h : goodT xs = false) : bestV xs = .tuple #[.int .i64 0, .bool false] := by simp [bestV, h]
theorem bestV_nil {xs : List Trial} (h : xs.length = 0) : bestV xs = .tuple #[.int .i64 0, .bool false] := by
  have : xs = [] := List.eq_nil_of_length_eq_zero h
  simp [bestV, this]
theorem bestV_yes {xs : List Trial} (h : goodT xs = true) (h0 : ¬ xs.length = 0) : bestV xs = .tuple #[.int .i64 (bestT xs xs.length : Int), .bool true] := by
  have : xs ≠ [] := fun h => h0 (by rw [h]; rfl)
  simp [bestV, h, this]
theorem best1 (xs : List Trial) : bestT xs 1 = 0 := by unfold bestT; simp [List.range_succ, bestStep]; split <;> simp
end Go.Proofs.YtdekdjpdpknelaaDoor
