/- Contracts of the small functions by which the laws on albums compare what they got. No condition but the sizes. -/
import Derived.Test.YtpjnlcppjcnlgaaGreatDoorScal
import Derived.Test.YtpjnlcppjcnlgaaGreatDoorApp
import Derived.Test.YtpjnlcppjcnlgaaGreatDoorOver
import Derived.Test.YtpjnlcppjcnlgaaGreatDoorCvPage2
import Derived.Deep.CutBlock
import Derived.Deep.DeepCutAuto
namespace Go.Proofs.YtpjnlcppjcnlgaaGreatDoor
set_option linter.unusedVariables false
set_option linter.unusedSimpArgs false
open Go.RowKit
attribute [local irreducible] wpQuiet
set_option maxRecDepth 100000 in
set_option maxHeartbeats 800000 in
theorem rInts_c (xs : List Int) (A A' : Option Addr) (c c' : Nat) (w : World) (hr : Rd encI 1 w.heap.size w A xs) (hr' : Rd encI 1 w.heap.size w A' xs) (hn : xs.length ≤ 2097152) :
    Calls Tryz.prog 15 #[.slice A xs.length c, .slice A' xs.length c'] w (Ret (.bool true) w) := by
  go_enter Tryz.func15, Tryz.ntmps15
  go_wp2_with fail
  go_loopw [5] (fun i wr => ∃ k : Nat, k ≤ xs.length ∧ i = .int .i64 k ∧ Below w.heap.size w wr) (fun i _ => xs.length - (intOf i).toNat)
  case atStart => exact ⟨0, Nat.zero_le _, rfl, Below.refl _ _⟩
  case round =>
    obtain ⟨k, hk, rfl, hb⟩ := hrel
    by_cases hlt : k < xs.length
    · obtain ⟨b, off, rfl, hbs, d0⟩ := (hr.below hb).int hlt
      obtain ⟨b', off', rfl, hbs', g0⟩ := (hr'.below hb).int hlt
      go_wp2_with fail
      go_quiet (fail)
      go_wp2_with fail
      go_roundw
      case rel => exact ⟨k + 1, by omega, by go_num, below_drewN hb _⟩
      case measure => simp [intOf]; omega
    · go_wp2_with fail
      go_returns
      exact ⟨rfl, hb⟩
theorem rBig_c (n : Nat) (A : Option Addr) (c : Nat) (w : World) : Calls Tryz.prog 4 #[.slice A n c] w (Pure (.bool (decide (65536 < n))) w) := by
  go_enter Tryz.func4, Tryz.ntmps4
  go_wp2_with fail
  go_returns
  exact ⟨ret_bool (by simp; omega), rfl⟩
set_option maxRecDepth 100000 in
set_option maxHeartbeats 1600000 in
theorem rAlbum_c (xs : List Page) (A A' : Option Addr) (c c' : Nat) (w : World) (hr : RdP w.heap.size w A xs) (hr' : RdP w.heap.size w A' xs) (hn : xs.length ≤ 1048576) (hs : sumI xs ≤ 2097152) :
    Calls Tryz.prog 8 #[.slice A xs.length c, .slice A' xs.length c'] w (Ret (.bool true) w) := by
  have HI := Lib.hid (fun (k : Nat) (h : k < xs.length) => Nat.le_trans (sumI_mem (List.getElem_mem h)) hs)
  go_enter Tryz.func8, Tryz.ntmps8
  go_wp2_with fail
  go_loopw [5] (fun i wr => ∃ k : Nat, k ≤ xs.length ∧ i = .int .i64 k ∧ Below w.heap.size w wr) (fun i _ => xs.length - (intOf i).toNat)
  case atStart => exact ⟨0, Nat.zero_le _, rfl, Below.refl _ _⟩
  case round =>
    obtain ⟨k, hk, rfl, hb⟩ := hrel
    by_cases hlt : k < xs.length
    · obtain ⟨b, off, Ai, ci, rfl, hbs, d0, d1, d2, d3, _, hri⟩ := (hr.below hb).page hlt
      obtain ⟨b', off', Aj, cj, rfl, hbs', g0, g1, g2, g3, _, hrj⟩ := (hr'.below hb).page hlt
      have hil := HI.out k hlt
      have hbl : b < wr.heap.size := Nat.lt_of_lt_of_le hbs hb.size
      have hbl' : b' < wr.heap.size := Nat.lt_of_lt_of_le hbs' hb.size
      have HC : Hid (∀ x : World, Calls Tryz.prog 15 #[.slice Ai xs[k].items.length ci, .slice Aj xs[k].items.length cj] (over wr x) (Ret (.bool true) (over wr x))) := Lib.hid (fun x => rInts_c xs[k].items _ _ _ _ _ ((hri.more hb.size).go (over_below wr x)) ((hrj.more hb.size).go (over_below wr x)) hil)
      have hk0 : (0 : Int) ≤ (k : Int) := by omega
      have hk1 : (k : Int) < (xs.length : Int) := by omega
      clear hri hrj hil
      generalize xs[k].id = z0 at *
      generalize xs[k].title = z1 at *
      generalize xs[k].under = z2 at *
      generalize xs[k].items = z3 at *
      go_upto_region 6 with fail
      have hov := over_cell wr
      refine wp_region_over (by kernel_rfl) (by kernel_rfl) ?_
      repeat (go_big_quiet_step (((go_at_call 15; exact Calls.over_of (HC.out _)))))
      refine wpQuiet_nil ?_
      intro _ hwx1
      obtain ⟨x1, hwx1⟩ := hwx1
      subst hwx1
      go_wp2_with fail
      go_roundw
      case rel => exact ⟨k + 1, by omega, by go_num, hb.trans ((over_below wr x1).mono hb.size)⟩
      case measure => simp [intOf]; omega
    · obtain rfl : k = xs.length := by omega
      go_wp2_with fail
      go_returns
      exact ⟨rfl, hb⟩
set_option maxHeartbeats 800000 in
theorem rSum_c (xs : List Int) (A : Option Addr) (c : Nat) (w : World) (hr : Rd encI 1 w.heap.size w A xs) (hn : xs.length ≤ 100) (hv : ∀ v ∈ xs, 0 ≤ v ∧ v ≤ 1000) :
    Calls Tryz.prog 16 #[.slice A xs.length c] w (Ret (.int .i64 xs.sum) w) := by
  have HV := Lib.hid hv
  clear hv
  go_enter Tryz.func16, Tryz.ntmps16
  go_wp2_with fail
  go_loopw [3, 4] (fun s i wr => ∃ (k : Nat) (q : Int), k ≤ xs.length ∧ i = .int .i64 k ∧ s = .int .i64 q ∧ Hid (q = (xs.take k).sum) ∧ 0 ≤ q ∧ q ≤ 1000 * (k : Int) ∧ Below w.heap.size w wr) (fun _ i _ => xs.length - (intOf i).toNat)
  case atStart => exact ⟨0, 0, Nat.zero_le _, rfl, rfl, Lib.hid (by simp), by omega, by omega, Below.refl _ _⟩
  case round =>
    obtain ⟨k, q, hk, rfl, rfl, HQ, hq0, hq1, hb⟩ := hrel
    by_cases hlt : k < xs.length
    · obtain ⟨b, off, rfl, hbs, d0⟩ := (hr.below hb).int hlt
      have hx := HV.out _ (List.getElem_mem hlt)
      have HN := Lib.hid (show q + xs[k] = (xs.take (k + 1)).sum by rw [take_succ_get xs k hlt, List.sum_append, ← HQ.out]; simp)
      generalize xs[k] = x at *
      go_wp2_with fail
      go_roundw
      case rel => exact ⟨k + 1, q + x, by omega, by go_num, rfl, HN, by omega, by omega, hb⟩
      case measure => simp [intOf]; omega
    · have HV2 := Lib.hid (show q = xs.sum by rw [HQ.out, List.take_of_length_le (by omega)])
      go_wp2_with fail
      go_returns
      exact ⟨ret_int HV2.out, hb⟩
end Go.Proofs.YtpjnlcppjcnlgaaGreatDoor
