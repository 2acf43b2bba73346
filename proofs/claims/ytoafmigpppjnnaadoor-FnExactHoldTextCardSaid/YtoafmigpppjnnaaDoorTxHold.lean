/- HoldText: the contracts of the program and the reference. No condition but that the table of powers lies as it is listed. -/
import Derived.Test.YtoafmigpppjnnaaDoorTxOdds
import Derived.Test.YtoafmigpppjnnaaDoorHoGood
import Derived.Test.YtoafmigpppjnnaaDoorCvHold
namespace Go.Proofs.YtoafmigpppjnnaaDoor
set_option linter.unusedVariables false
set_option linter.unusedSimpArgs false
open Go.RowKit
attribute [local irreducible] wpQuiet
def htA (h : Hold) : ByteArray := h.owner ++ ⟨#[58]⟩ ++ numB h.item
def htS (h : Hold) : ByteArray := if h.count > 1 then htA h ++ ⟨#[120]⟩ ++ numB h.count else htA h
def htV (h : Hold) : ByteArray := if h.ok = true then htS h else ⟨#[]⟩
theorem htV_no {h : Hold} (k : h.ok = false) : htV h = ⟨#[]⟩ := by simp [htV, k]
theorem htV_yes {h : Hold} (k : h.ok = true) : htV h = htS h := by simp [htV, k]
theorem htS_one {h : Hold} (k : ¬ h.count > 1) : htS h = htA h := by simp [htS, k]
theorem htS_more {h : Hold} (k : h.count > 1) : htS h = htA h ++ ⟨#[120]⟩ ++ numB h.count := by simp [htS, k]
theorem htS_more' {h : Hold} (k : h.count > 1) : htS h = htA h ++ (⟨#[120]⟩ ++ numB h.count) := by rw [htS_more k, ByteArray.append_assoc]
theorem ok_bd {h : Hold} (k : h.ok = true) : h.owner.size ≤ 10 ∧ 1 ≤ h.item ∧ h.item ≤ 99 ∧ 1 ≤ h.count ∧ h.count ≤ 99 := by
  simp [Hold.ok, isW, inR] at k
  obtain ⟨⟨⟨⟨_, _⟩, a⟩, b, c⟩, d, e⟩ := k
  exact ⟨a, b, c, d, e⟩
set_option maxRecDepth 100000 in
set_option maxHeartbeats 1000000 in
theorem specHoldText_c (h : Hold) (w : World) (hs : h.owner.size ≤ 9223372036854775807) : Calls Tryd.prog 9 #[.agg #[.string h.owner, .int .i64 h.item, .int .i64 h.count]] w (Ret (.tuple #[.string (htV h), .bool h.ok]) w) := by
  have hbA : Below w.heap.size w (w.alloc (.cells #[.string h.owner, .int .i64 h.item, .int .i64 h.count] 33)) := by go_grown
  have p0 : (w.alloc (.cells #[.string h.owner, .int .i64 h.item, .int .i64 h.count] 33)).cell? ⟨w.heap.size, 0, none⟩ = some (.string h.owner) := by simp
  have p1 : (w.alloc (.cells #[.string h.owner, .int .i64 h.item, .int .i64 h.count] 33)).cell? ⟨w.heap.size, 1, none⟩ = some (.int .i64 h.item) := by simp
  have p2 : (w.alloc (.cells #[.string h.owner, .int .i64 h.item, .int .i64 h.count] 33)).cell? ⟨w.heap.size, 2, none⟩ = some (.int .i64 h.count) := by simp
  have hsA : w.heap.size < (w.alloc (.cells #[.string h.owner, .int .i64 h.item, .int .i64 h.count] 33)).heap.size := by simp
  go_enter Tryd.func9, Tryd.ntmps9
  go_wp2_with fail
  generalize (w.alloc (.cells #[.string h.owner, .int .i64 h.item, .int .i64 h.count] 33)) = W at *
  refine (l19One_c _ _ hs).mono ?_
  rintro _ w1 ⟨rfl, hb1⟩
  have p0 := (hb1.cell (p := ⟨w.heap.size, 0, none⟩) hsA).trans p0
  have p1 := (hb1.cell (p := ⟨w.heap.size, 1, none⟩) hsA).trans p1
  have p2 := (hb1.cell (p := ⟨w.heap.size, 2, none⟩) hsA).trans p2
  have hs1 := Nat.lt_of_lt_of_le hsA hb1.size
  have hbg := below_via hbA hb1
  cases hO : h.ok with
  | false =>
    have HV := Lib.hid (htV_no hO)
    have HO := Lib.hid hO
    clear hO
    go_wp2_with fail
    go_returns
    exact ⟨ret_tb HV.out.symm HO.out.symm, hbg⟩
  | true =>
    have HV := Lib.hid (htV_yes hO)
    have HO := Lib.hid hO
    obtain ⟨hz, h1, h2, h3, h4⟩ := ok_bd hO
    clear hO
    have z1 := numB_sizeI (m := h.item) (by omega) (by omega)
    have z2 := numB_sizeI (m := h.count) (by omega) (by omega)
    have HC : Hid (∀ (m : Int) (_ : 0 ≤ m) (_ : m ≤ 1000) (x : World), Calls Tryd.prog 13 #[.int .i64 m] (over w1 x) (Ret (.string (numB m)) (over w1 x))) := Lib.hid (fun m k1 k2 x => l1NumI_c m k1 (by omega) _)
    have hov := over_cell w1
    go_wp2_with fail
    refine wp_region_over (by kernel_rfl) (by kernel_rfl) ?_
    repeat (go_big_quiet_step (((go_at_call 13; exact Calls.over_of (HC.out _ (by omega) (by omega) _)))))
    refine wpQuiet_nil ?_
    intro _ hwx1
    obtain ⟨x1, hwx1⟩ := hwx1
    subst hwx1
    have hbW := over_below w1 x1
    have hbg := below_via hbg hbW
    have p0 := (hbW.cell (p := ⟨w.heap.size, 0, none⟩) hs1).trans p0
    have p1 := (hbW.cell (p := ⟨w.heap.size, 1, none⟩) hs1).trans p1
    have p2 := (hbW.cell (p := ⟨w.heap.size, 2, none⟩) hs1).trans p2
    have hs1 := Nat.lt_of_lt_of_le hs1 hbW.size
    clear HC hov hbW
    generalize over w1 x1 = W1 at *
    by_cases hc : h.count > 1
    · have HS := Lib.hid (htS_more hc)
      go_wp2_with fail
      refine (l1NumI_c _ (by omega) (by omega) _).mono ?_
      rintro _ W2 ⟨rfl, hbW⟩
      go_wp2_with fail
      go_returns
      exact ⟨ret_tb ((HV.out.trans HS.out).trans rfl).symm HO.out.symm, below_via hbg hbW⟩
    · have HS := Lib.hid (htS_one hc)
      go_wp2_with fail
      go_returns
      exact ⟨ret_tb ((HV.out.trans HS.out).trans rfl).symm HO.out.symm, hbg⟩
set_option maxRecDepth 100000 in
set_option maxHeartbeats 1000000 in
theorem implHoldText_c (h : Hold) (w : World) (hs : h.owner.size ≤ 9223372036854775807) (ht : Pow w) : Calls Tryd.prog 11 #[.agg #[.string h.owner, .int .i64 h.item, .int .i64 h.count]] w (Ret (.tuple #[.string (htV h), .bool h.ok]) w) := by
  have HT := Lib.hid ht
  have hbA : Below w.heap.size w (w.alloc (.cells #[.string h.owner, .int .i64 h.item, .int .i64 h.count] 33)) := by go_grown
  have p0 : (w.alloc (.cells #[.string h.owner, .int .i64 h.item, .int .i64 h.count] 33)).cell? ⟨w.heap.size, 0, none⟩ = some (.string h.owner) := by simp
  have p1 : (w.alloc (.cells #[.string h.owner, .int .i64 h.item, .int .i64 h.count] 33)).cell? ⟨w.heap.size, 1, none⟩ = some (.int .i64 h.item) := by simp
  have p2 : (w.alloc (.cells #[.string h.owner, .int .i64 h.item, .int .i64 h.count] 33)).cell? ⟨w.heap.size, 2, none⟩ = some (.int .i64 h.count) := by simp
  have hsA : w.heap.size < (w.alloc (.cells #[.string h.owner, .int .i64 h.item, .int .i64 h.count] 33)).heap.size := by simp
  clear ht
  go_enter Tryd.func11, Tryd.ntmps11
  go_wp2_with fail
  generalize (w.alloc (.cells #[.string h.owner, .int .i64 h.item, .int .i64 h.count] 33)) = W at *
  refine (isHold_c _ _ hs).mono ?_
  rintro _ w1 ⟨rfl, hb1⟩
  have p0 := (hb1.cell (p := ⟨w.heap.size, 0, none⟩) hsA).trans p0
  have p1 := (hb1.cell (p := ⟨w.heap.size, 1, none⟩) hsA).trans p1
  have p2 := (hb1.cell (p := ⟨w.heap.size, 2, none⟩) hsA).trans p2
  have hs1 := Nat.lt_of_lt_of_le hsA hb1.size
  have hbg := below_via hbA hb1
  cases hO : h.ok with
  | false =>
    have HV := Lib.hid (htV_no hO)
    have HO := Lib.hid hO
    clear hO
    go_wp2_with fail
    go_returns
    exact ⟨ret_tb HV.out.symm HO.out.symm, hbg⟩
  | true =>
    have HV := Lib.hid (htV_yes hO)
    have HO := Lib.hid hO
    obtain ⟨hz, h1, h2, h3, h4⟩ := ok_bd hO
    clear hO
    have z1 := numB_sizeI (m := h.item) (by omega) (by omega)
    have z2 := numB_sizeI (m := h.count) (by omega) (by omega)
    have HC : Hid (∀ (m : Int) (_ : 0 ≤ m) (_ : m ≤ 1000) (x : World), Calls Tryd.prog 15 #[.int .i64 m] (over w1 x) (Ret (.string (numB m)) (over w1 x))) := Lib.hid (fun m k1 k2 x => itoa_c m _ ((HT.out.go hbg).go (over_below w1 x)) (by omega) (by omega))
    have hov := over_cell w1
    go_wp2_with fail
    refine wp_region_over (by kernel_rfl) (by kernel_rfl) ?_
    repeat (go_big_quiet_step (((go_at_call 15; exact Calls.over_of (HC.out _ (by omega) (by omega) _)))))
    refine wpQuiet_nil ?_
    intro _ hwx1
    obtain ⟨x1, hwx1⟩ := hwx1
    subst hwx1
    have hbW := over_below w1 x1
    have hbg := below_via hbg hbW
    have p0 := (hbW.cell (p := ⟨w.heap.size, 0, none⟩) hs1).trans p0
    have p1 := (hbW.cell (p := ⟨w.heap.size, 1, none⟩) hs1).trans p1
    have p2 := (hbW.cell (p := ⟨w.heap.size, 2, none⟩) hs1).trans p2
    have hs1 := Nat.lt_of_lt_of_le hs1 hbW.size
    clear HC hov hbW
    generalize over w1 x1 = W1 at *
    by_cases hc : h.count > 1
    · have HS := Lib.hid (htS_more' hc)
      go_wp2_with fail
      refine (itoa_c _ _ (HT.out.go hbg) (by omega) (by omega)).mono ?_
      rintro _ W2 ⟨rfl, hbW⟩
      go_wp2_with fail
      go_returns
      exact ⟨ret_tb ((HV.out.trans HS.out).trans rfl).symm HO.out.symm, below_via hbg hbW⟩
    · have HS := Lib.hid (htS_one hc)
      go_wp2_with fail
      go_returns
      exact ⟨ret_tb ((HV.out.trans HS.out).trans rfl).symm HO.out.symm, hbg⟩
theorem lawHoldText_c (t1 : Hold) (w : World) (hs : t1.owner.size ≤ 9223372036854775807) (ht : Pow w) : Calls Tryd.prog 4 #[.agg #[.string t1.owner, .int .i64 t1.item, .int .i64 t1.count]] w (Ret (.bool true) w) := by
  have HT := Lib.hid ht
  have hbA : Below w.heap.size w (w.alloc (.cells #[.string t1.owner, .int .i64 t1.item, .int .i64 t1.count] 30)) := by go_grown
  have p0 : (w.alloc (.cells #[.string t1.owner, .int .i64 t1.item, .int .i64 t1.count] 30)).cell? ⟨w.heap.size, 0, none⟩ = some (.string t1.owner) := by simp
  have p1 : (w.alloc (.cells #[.string t1.owner, .int .i64 t1.item, .int .i64 t1.count] 30)).cell? ⟨w.heap.size, 1, none⟩ = some (.int .i64 t1.item) := by simp
  have p2 : (w.alloc (.cells #[.string t1.owner, .int .i64 t1.item, .int .i64 t1.count] 30)).cell? ⟨w.heap.size, 2, none⟩ = some (.int .i64 t1.count) := by simp
  have hsA : w.heap.size < (w.alloc (.cells #[.string t1.owner, .int .i64 t1.item, .int .i64 t1.count] 30)).heap.size := by simp
  clear ht
  go_enter Tryd.func4, Tryd.ntmps4
  go_wp2_with fail
  generalize (w.alloc (.cells #[.string t1.owner, .int .i64 t1.item, .int .i64 t1.count] 30)) = W at *
  have hx := hbA
  refine (szHold_c t1 _ _ hs (by omega) (by omega)).mono ?_
  rintro _ w1 ⟨r, rfl, hb1, hr⟩
  have p0 := (hb1.cell (p := ⟨w.heap.size, 0, none⟩) hsA).trans p0
  have p1 := (hb1.cell (p := ⟨w.heap.size, 1, none⟩) hsA).trans p1
  have p2 := (hb1.cell (p := ⟨w.heap.size, 2, none⟩) hsA).trans p2
  have hsA := Nat.lt_of_lt_of_le hsA hb1.size
  have hx := below_via hx hb1
  by_cases hr0 : r < 0
  · go_wp2_with fail
    go_returns
    exact ⟨rfl, hx⟩
  have hs1 : t1.owner.size ≤ 1048576 := by omega
  go_wp2_with fail
  refine (toHold_c t1 _).mono ?_
  rintro _ w2 ⟨rfl, hb2⟩
  have p0 := (hb2.cell (p := ⟨w.heap.size, 0, none⟩) hsA).trans p0
  have p1 := (hb2.cell (p := ⟨w.heap.size, 1, none⟩) hsA).trans p1
  have p2 := (hb2.cell (p := ⟨w.heap.size, 2, none⟩) hsA).trans p2
  have hsA := Nat.lt_of_lt_of_le hsA hb2.size
  have hx := below_via hx hb2
  go_wp2_with fail
  refine (specHoldText_c t1 _ hs).mono ?_
  rintro _ w3 ⟨rfl, hb3⟩
  have p0 := (hb3.cell (p := ⟨w.heap.size, 0, none⟩) hsA).trans p0
  have p1 := (hb3.cell (p := ⟨w.heap.size, 1, none⟩) hsA).trans p1
  have p2 := (hb3.cell (p := ⟨w.heap.size, 2, none⟩) hsA).trans p2
  have hsA := Nat.lt_of_lt_of_le hsA hb3.size
  have hx := below_via hx hb3
  generalize hV : htV t1 = s at *
  generalize hK : t1.ok = b at *
  go_wp2_with fail
  refine (toHold_c t1 _).mono ?_
  rintro _ w4 ⟨rfl, hb4⟩
  have p0 := (hb4.cell (p := ⟨w.heap.size, 0, none⟩) hsA).trans p0
  have p1 := (hb4.cell (p := ⟨w.heap.size, 1, none⟩) hsA).trans p1
  have p2 := (hb4.cell (p := ⟨w.heap.size, 2, none⟩) hsA).trans p2
  have hsA := Nat.lt_of_lt_of_le hsA hb4.size
  have hx := below_via hx hb4
  go_wp2_with fail
  refine (implHoldText_c t1 _ hs (HT.out.go hx)).mono ?_
  rintro _ w5 ⟨rfl, hb5⟩
  have p0 := (hb5.cell (p := ⟨w.heap.size, 0, none⟩) hsA).trans p0
  have p1 := (hb5.cell (p := ⟨w.heap.size, 1, none⟩) hsA).trans p1
  have p2 := (hb5.cell (p := ⟨w.heap.size, 2, none⟩) hsA).trans p2
  have hsA := Nat.lt_of_lt_of_le hsA hb5.size
  have hx := below_via hx hb5
  rw [hV, hK]
  go_wp2_with fail
  go_returns
  exact ⟨rfl, hx⟩
end Go.Proofs.YtoafmigpppjnnaaDoor
