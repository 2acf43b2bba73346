/- HoldText: the contracts of the program and the reference. No condition but that the table of powers lies as it is listed. -/
import Derived.Test.YtebkfcdijjcefaaDoorTxOdds
import Derived.Test.YtebkfcdijjcefaaDoorHoGood
import Derived.Test.YtebkfcdijjcefaaDoorCvHold
namespace Go.Proofs.YtebkfcdijjcefaaDoor
set_option linter.unusedVariables false
set_option linter.unusedSimpArgs false
open Go.RowKit
attribute [local irreducible] wpQuiet
def htA (h : Hold) : ByteArray := h.owner ++ ⟨#[58]⟩ ++ numB h.item
def htS (h : Hold) : ByteArray := if h.count > 1 then htA h ++ ⟨#[120]⟩ ++ numB h.count else htA h
def htV (h : Hold) : ByteArray := if h.ok = true then htS h else ⟨#[]⟩
theorem htV_no {h : Hold} (k : h.ok = false) : htV h = ⟨#[]⟩ := by simp [htV, k]
theorem htV_yes {h : Hold} (k : h.ok = true) : htV h = htS h := by simp [htV, k]
theorem htS_one {h : Hold} (k : ¬ h.count > 1) : htS h = htA h := by simp [htS, k]
theorem htS_more {h : Hold} (k : h.count > 1) : htS h = htA h ++ ⟨#[120]⟩ ++ numB h.count := by simp [htS, k]
theorem htS_more' {h : Hold} (k : h.count > 1) : htS h = htA h ++ (⟨#[120]⟩ ++ numB h.count) := by rw [htS_more k, ByteArray.append_assoc]
theorem ok_bd {h : Hold} (k : h.ok = true) : h.owner.size ≤ 10 ∧ 1 ≤ h.item ∧ h.item ≤ 99 ∧ 1 ≤ h.count ∧ h.count ≤ 99 := by
  simp [Hold.ok, isW, inR] at k
  obtain ⟨⟨⟨⟨_, _⟩, a⟩, b, c⟩, d, e⟩ := k
  exact ⟨a, b, c, d, e⟩
set_option maxRecDepth 100000 in
set_option maxHeartbeats 1000000 in
theorem specHoldText_c (h : Hold) (w : World) (hs : h.owner.size ≤ 9223372036854775807) : Calls Tryd.prog 24 #[.agg #[.string h.owner, .int .i64 h.item, .int .i64 h.count]] w (Ret (.tuple #[.string (htV h), .bool h.ok]) w) := by
  have hbA : Below w.heap.size w (w.alloc (.cells #[.string h.owner, .int .i64 h.item, .int .i64 h.count] 30)) := by go_grown
  have p0 : (w.alloc (.cells #[.string h.owner, .int .i64 h.item, .int .i64 h.count] 30)).cell? ⟨w.heap.size, 0, none⟩ = some (.string h.owner) := by simp
  have p1 : (w.alloc (.cells #[.string h.owner, .int .i64 h.item, .int .i64 h.count] 30)).cell? ⟨w.heap.size, 1, none⟩ = some (.int .i64 h.item) := by simp
  have p2 : (w.alloc (.cells #[.string h.owner, .int .i64 h.item, .int .i64 h.count] 30)).cell? ⟨w.heap.size, 2, none⟩ = some (.int .i64 h.count) := by simp
  have hsA : w.heap.size < (w.alloc (.cells #[.string h.owner, .int .i64 h.item, .int .i64 h.count] 30)).heap.size := by simp
  go_enter Tryd.func24, Tryd.ntmps24
  go_wp2_with fail
  generalize (w.alloc (.cells #[.string h.owner, .int .i64 h.item, .int .i64 h.count] 30)) = W at *
  refine (l19One_c _ _ hs).mono ?_
  rintro _ w1 ⟨rfl, hb1⟩
  have p0 := (hb1.cell (p := ⟨w.heap.size, 0, none⟩) hsA).trans p0
  have p1 := (hb1.cell (p := ⟨w.heap.size, 1, none⟩) hsA).trans p1
  have p2 := (hb1.cell (p := ⟨w.heap.size, 2, none⟩) hsA).trans p2
  have hs1 := Nat.lt_of_lt_of_le hsA hb1.size
  have hbg := below_via hbA hb1
  cases hO : h.ok with
  | false =>
    have HV := Lib.hid (htV_no hO)
    have HO := Lib.hid hO
    clear hO
    go_wp2_with fail
    go_returns
    exact ⟨ret_tb HV.out.symm HO.out.symm, hbg⟩
  | true =>
    have HV := Lib.hid (htV_yes hO)
    have HO := Lib.hid hO
    obtain ⟨hz, h1, h2, h3, h4⟩ := ok_bd hO
    clear hO
    have z1 := numB_sizeI (m := h.item) (by omega) (by omega)
    have z2 := numB_sizeI (m := h.count) (by omega) (by omega)
    have HC : Hid (∀ (m : Int) (_ : 0 ≤ m) (_ : m ≤ 1000) (x : World), Calls Tryd.prog 48 #[.int .i64 m] (over w1 x) (Ret (.string (numB m)) (over w1 x))) := Lib.hid (fun m k1 k2 x => l1NumI_c m k1 (by omega) _)
    have hov := over_cell w1
    go_wp2_with fail
    refine wp_region_over (by kernel_rfl) (by kernel_rfl) ?_
    repeat (go_big_quiet_step (((go_at_call 48; exact Calls.over_of (HC.out _ (by omega) (by omega) _)))))
    refine wpQuiet_nil ?_
    intro _ hwx1
    obtain ⟨x1, hwx1⟩ := hwx1
    subst hwx1
    have hbW := over_below w1 x1
    have hbg := below_via hbg hbW
    have p0 := (hbW.cell (p := ⟨w.heap.size, 0, none⟩) hs1).trans p0
    have p1 := (hbW.cell (p := ⟨w.heap.size, 1, none⟩) hs1).trans p1
    have p2 := (hbW.cell (p := ⟨w.heap.size, 2, none⟩) hs1).trans p2
    have hs1 := Nat.lt_of_lt_of_le hs1 hbW.size
    clear HC hov hbW
    generalize over w1 x1 = W1 at *
    by_cases hc : h.count > 1
    · have HS := Lib.hid (htS_more hc)
      go_wp2_with fail
      refine (l1NumI_c _ (by omega) (by omega) _).mono ?_
      rintro _ W2 ⟨rfl, hbW⟩
      go_wp2_with fail
      go_returns
      exact ⟨ret_tb ((HV.out.trans HS.out).trans rfl).symm HO.out.symm, below_via hbg hbW⟩
    · have HS := Lib.hid (htS_one hc)
      go_wp2_with fail
      go_returns
      exact ⟨ret_tb ((HV.out.trans HS.out).trans rfl).symm HO.out.symm, hbg⟩
set_option maxRecDepth 100000 in
set_option maxHeartbeats 1000000 in
theorem implHoldText_c (h : Hold) (w : World) (hs : h.owner.size ≤ 9223372036854775807) (ht : Pow w) : Calls Tryd.prog 23 #[.agg #[.string h.owner, .int .i64 h.item, .int .i64 h.count]] w (Ret (.tuple #[.string (htV h), .bool h.ok]) w) := by
  have HT := Lib.hid ht
  have hbA : Below w.heap.size w (w.alloc (.cells #[.string h.owner, .int .i64 h.item, .int .i64 h.count] 30)) := by go_grown
  have p0 : (w.alloc (.cells #[.string h.owner, .int .i64 h.item, .int .i64 h.count] 30)).cell? ⟨w.heap.size, 0, none⟩ = some (.string h.owner) := by simp
  have p1 : (w.alloc (.cells #[.string h.owner, .int .i64 h.item, .int .i64 h.count] 30)).cell? ⟨w.heap.size, 1, none⟩ = some (.int .i64 h.item) := by simp
  have p2 : (w.alloc (.cells #[.string h.owner, .int .i64 h.item, .int .i64 h.count] 30)).cell? ⟨w.heap.size, 2, none⟩ = some (.int .i64 h.count) := by simp
  have hsA : w.heap.size < (w.alloc (.cells #[.string h.owner, .int .i64 h.item, .int .i64 h.count] 30)).heap.size := by simp
  clear ht
  go_enter Tryd.func23, Tryd.ntmps23
  go_wp2_with fail
  generalize (w.alloc (.cells #[.string h.owner, .int .i64 h.item, .int .i64 h.count] 30)) = W at *
  refine (isHold_c _ _ hs).mono ?_
  rintro _ w1 ⟨rfl, hb1⟩
  have p0 := (hb1.cell (p := ⟨w.heap.size, 0, none⟩) hsA).trans p0
  have p1 := (hb1.cell (p := ⟨w.heap.size, 1, none⟩) hsA).trans p1
  have p2 := (hb1.cell (p := ⟨w.heap.size, 2, none⟩) hsA).trans p2
  have hs1 := Nat.lt_of_lt_of_le hsA hb1.size
  have hbg := below_via hbA hb1
  cases hO : h.ok with
  | false =>
    have HV := Lib.hid (htV_no hO)
    have HO := Lib.hid hO
    clear hO
    go_wp2_with fail
    go_returns
    exact ⟨ret_tb HV.out.symm HO.out.symm, hbg⟩
  | true =>
    have HV := Lib.hid (htV_yes hO)
    have HO := Lib.hid hO
    obtain ⟨hz, h1, h2, h3, h4⟩ := ok_bd hO
    clear hO
    have z1 := numB_sizeI (m := h.item) (by omega) (by omega)
    have z2 := numB_sizeI (m := h.count) (by omega) (by omega)
    have HC : Hid (∀ (m : Int) (_ : 0 ≤ m) (_ : m ≤ 1000) (x : World), Calls Tryd.prog 46 #[.int .i64 m] (over w1 x) (Ret (.string (numB m)) (over w1 x))) := Lib.hid (fun m k1 k2 x => itoa_c m _ ((HT.out.go hbg).go (over_below w1 x)) (by omega) (by omega))
    have hov := over_cell w1
    go_wp2_with fail
    refine wp_region_over (by kernel_rfl) (by kernel_rfl) ?_
    repeat (go_big_quiet_step (((go_at_call 46; exact Calls.over_of (HC.out _ (by omega) (by omega) _)))))
    refine wpQuiet_nil ?_
    intro _ hwx1
    obtain ⟨x1, hwx1⟩ := hwx1
    subst hwx1
    have hbW := over_below w1 x1
    have hbg := below_via hbg hbW
    have p0 := (hbW.cell (p := ⟨w.heap.size, 0, none⟩) hs1).trans p0
    have p1 := (hbW.cell (p := ⟨w.heap.size, 1, none⟩) hs1).trans p1
    have p2 := (hbW.cell (p := ⟨w.heap.size, 2, none⟩) hs1).trans p2
    have hs1 := Nat.lt_of_lt_of_le hs1 hbW.size
    clear HC hov hbW
    generalize over w1 x1 = W1 at *
    by_cases hc : h.count > 1
    · have HS := Lib.hid (htS_more' hc)
      go_wp2_with fail
      refine (itoa_c _ _ (HT.out.go hbg) (by omega) (by omega)).mono ?_
      rintro _ W2 ⟨rfl, hbW⟩
      go_wp2_with fail
      go_returns
      exact ⟨ret_tb ((HV.out.trans HS.out).trans rfl).symm HO.out.symm, below_via hbg hbW⟩
    · have HS := Lib.hid (htS_one hc)
      go_wp2_with fail
      go_returns
      exact ⟨ret_tb ((HV.out.trans HS.out).trans rfl).symm HO.out.symm, hbg⟩
end Go.Proofs.YtebkfcdijjcefaaDoor
