/- OddsText: the contracts of the program and the reference. No condition but that the table of powers lies as it is listed. -/
import Derived.Test.YtdekdjpdpknelaaDoorTxNum
import Derived.Test.YtdekdjpdpknelaaDoorTr
import Derived.Test.YtdekdjpdpknelaaDoorCvOdds
namespace Go.Proofs.YtdekdjpdpknelaaDoor
set_option linter.unusedVariables false
set_option linter.unusedSimpArgs false
open Go.RowKit
attribute [local irreducible] wpQuiet
theorem numB_sizeI {m : Int} (h0 : 0 ≤ m) (h1 : m ≤ 9223372036854775807) : (numB m).size ≤ 20 := by
  obtain ⟨k, rfl⟩ := Int.eq_ofNat_of_zero_le h0
  exact numB_size (by omega)
theorem l1NumI_c (m : Int) (h0 : 0 ≤ m) (h1 : m ≤ 9223372036854775807) (w : World) : Calls Tryd.prog 39 #[.int .i64 m] w (Ret (.string (numB m)) w) := by
  obtain ⟨k, rfl⟩ := Int.eq_ofNat_of_zero_le h0
  exact l1Num_c k w (by omega)
def otS (a b : Int) : ByteArray := numB a ++ ⟨#[58]⟩ ++ numB b
def otV (a b : Int) : ByteArray := if isOd a b = true then otS a b else ⟨#[]⟩
theorem otV_no {a b : Int} (h : isOd a b = false) : otV a b = ⟨#[]⟩ := by simp [otV, h]
theorem otV_yes {a b : Int} (h : isOd a b = true) : otV a b = otS a b := by simp [otV, h]
theorem ret_tb {a a' : ByteArray} {b b' : Bool} (h : a = a') (hb : b = b') : Ending.returned (.tuple #[.string a, .bool b]) = .returned (.tuple #[.string a', .bool b']) := by rw [h, hb]
set_option maxRecDepth 100000 in
set_option maxHeartbeats 1000000 in
theorem specOddsText_c (a b : Int) (w : World) : Calls Tryd.prog 22 #[.agg #[.int .i64 a, .int .i64 b]] w (Ret (.tuple #[.string (otV a b), .bool (isOd a b)]) w) := by
  have hbA : Below w.heap.size w (w.alloc (.cells #[.int .i64 a, .int .i64 b] 26)) := by go_grown
  have p0 : (w.alloc (.cells #[.int .i64 a, .int .i64 b] 26)).cell? ⟨w.heap.size, 0, none⟩ = some (.int .i64 a) := by simp
  have p1 : (w.alloc (.cells #[.int .i64 a, .int .i64 b] 26)).cell? ⟨w.heap.size, 1, none⟩ = some (.int .i64 b) := by simp
  have hsA : w.heap.size < (w.alloc (.cells #[.int .i64 a, .int .i64 b] 26)).heap.size := by simp
  go_enter Tryd.func22, Tryd.ntmps22
  go_wp2_with fail
  generalize w.alloc (.cells #[.int .i64 a, .int .i64 b] 26) = W at *
  refine (l16Odds_c _ _ _).mono ?_
  rintro _ w1 ⟨rfl, hb1⟩
  have p0 := (hb1.cell (p := ⟨w.heap.size, 0, none⟩) hsA).trans p0
  have p1 := (hb1.cell (p := ⟨w.heap.size, 1, none⟩) hsA).trans p1
  have hs1 := Nat.lt_of_lt_of_le hsA hb1.size
  have hbg := below_via hbA hb1
  cases hO : isOd a b with
  | false =>
    have HV := Lib.hid (otV_no hO)
    have HO := Lib.hid hO
    clear hO
    go_wp2_with fail
    go_returns
    exact ⟨ret_tb HV.out.symm HO.out.symm, hbg⟩
  | true =>
    have HV := Lib.hid (otV_yes hO)
    have HO := Lib.hid hO
    obtain ⟨h1, h2, h3, h4⟩ := isOd_bd hO
    clear hO
    have z1 := numB_sizeI (m := a) (by omega) (by omega)
    have z2 := numB_sizeI (m := b) (by omega) (by omega)
    have HC : Hid (∀ (m : Int) (_ : 0 ≤ m) (_ : m ≤ 1000) (x : World), Calls Tryd.prog 39 #[.int .i64 m] (over w1 x) (Ret (.string (numB m)) (over w1 x))) := Lib.hid (fun m k1 k2 x => l1NumI_c m k1 (by omega) _)
    have hov := over_cell w1
    go_wp2_with fail
    refine wp_region_over (by kernel_rfl) (by kernel_rfl) ?_
    repeat (go_big_quiet_step (((go_at_call 39; exact Calls.over_of (HC.out _ (by omega) (by omega) _)))))
    refine wpQuiet_nil ?_
    intro _ hwx1
    obtain ⟨x1, hwx1⟩ := hwx1
    subst hwx1
    have hbW := over_below w1 x1
    generalize over w1 x1 = W1 at *
    go_wp2_with fail
    go_returns
    exact ⟨ret_tb HV.out.symm HO.out.symm, below_via hbg hbW⟩
set_option maxRecDepth 100000 in
set_option maxHeartbeats 1000000 in
theorem implOddsText_c (a b : Int) (w : World) (ht : Pow w) : Calls Tryd.prog 21 #[.agg #[.int .i64 a, .int .i64 b]] w (Ret (.tuple #[.string (otV a b), .bool (isOd a b)]) w) := by
  have HT := Lib.hid ht
  have hbA : Below w.heap.size w (w.alloc (.cells #[.int .i64 a, .int .i64 b] 26)) := by go_grown
  have p0 : (w.alloc (.cells #[.int .i64 a, .int .i64 b] 26)).cell? ⟨w.heap.size, 0, none⟩ = some (.int .i64 a) := by simp
  have p1 : (w.alloc (.cells #[.int .i64 a, .int .i64 b] 26)).cell? ⟨w.heap.size, 1, none⟩ = some (.int .i64 b) := by simp
  have hsA : w.heap.size < (w.alloc (.cells #[.int .i64 a, .int .i64 b] 26)).heap.size := by simp
  clear ht
  go_enter Tryd.func21, Tryd.ntmps21
  go_wp2_with fail
  generalize w.alloc (.cells #[.int .i64 a, .int .i64 b] 26) = W at *
  refine (areOdds_c _ _ _).mono ?_
  rintro _ w1 ⟨rfl, hb1⟩
  have p0 := (hb1.cell (p := ⟨w.heap.size, 0, none⟩) hsA).trans p0
  have p1 := (hb1.cell (p := ⟨w.heap.size, 1, none⟩) hsA).trans p1
  have hs1 := Nat.lt_of_lt_of_le hsA hb1.size
  have hbg := below_via hbA hb1
  cases hO : isOd a b with
  | false =>
    have HV := Lib.hid (otV_no hO)
    have HO := Lib.hid hO
    clear hO
    go_wp2_with fail
    go_returns
    exact ⟨ret_tb HV.out.symm HO.out.symm, hbg⟩
  | true =>
    have HV := Lib.hid (otV_yes hO)
    have HO := Lib.hid hO
    obtain ⟨h1, h2, h3, h4⟩ := isOd_bd hO
    clear hO
    have z1 := numB_sizeI (m := a) (by omega) (by omega)
    have z2 := numB_sizeI (m := b) (by omega) (by omega)
    have HC : Hid (∀ (m : Int) (_ : 0 ≤ m) (_ : m ≤ 1000) (x : World), Calls Tryd.prog 38 #[.int .i64 m] (over w1 x) (Ret (.string (numB m)) (over w1 x))) := Lib.hid (fun m k1 k2 x => itoa_c m _ ((HT.out.go hbg).go (over_below w1 x)) (by omega) (by omega))
    have hov := over_cell w1
    go_wp2_with fail
    refine wp_region_over (by kernel_rfl) (by kernel_rfl) ?_
    repeat (go_big_quiet_step (((go_at_call 38; exact Calls.over_of (HC.out _ (by omega) (by omega) _)))))
    refine wpQuiet_nil ?_
    intro _ hwx1
    obtain ⟨x1, hwx1⟩ := hwx1
    subst hwx1
    have hbW := over_below w1 x1
    generalize over w1 x1 = W1 at *
    go_wp2_with fail
    go_returns
    exact ⟨ret_tb HV.out.symm HO.out.symm, below_via hbg hbW⟩
end Go.Proofs.YtdekdjpdpknelaaDoor
