/- Contracts of the small functions by which the laws compare what they got. No condition but the sizes. -/
import Derived.Test.YtgjehnjpbekoeaaDoorOver
import Derived.Test.YtgjehnjpbekoeaaDoorScal
import Derived.Test.YtgjehnjpbekoeaaDoorApp
import Derived.Test.YtgjehnjpbekoeaaDoorRecSS
import Derived.Test.YtgjehnjpbekoeaaDoorCvSS
import Derived.Test.YtgjehnjpbekoeaaDoorCvFlaw
import Derived.Deep.RegionHeld3
namespace Go.Proofs.YtgjehnjpbekoeaaDoor
set_option linter.unusedVariables false
set_option linter.unusedSimpArgs false
open Go.RowKit
attribute [local irreducible] wpQuiet
set_option maxRecDepth 100000 in
set_option maxHeartbeats 800000 in
theorem vInts_c (xs : List Int) (A A' : Option Addr) (c c' : Nat) (w : World) (hr : Rd encI 1 w.heap.size w A xs) (hr' : Rd encI 1 w.heap.size w A' xs) (hn : xs.length ≤ 2097152) :
    Calls Tryd.prog 10 #[.slice A xs.length c, .slice A' xs.length c'] w (Ret (.bool true) w) := by
  go_enter Tryd.func10, Tryd.ntmps10
  go_wp2_with fail
  go_loopw [5] (fun i wr => ∃ k : Nat, k ≤ xs.length ∧ i = .int .i64 k ∧ Below w.heap.size w wr) (fun i _ => xs.length - (intOf i).toNat)
  case atStart => exact ⟨0, Nat.zero_le _, rfl, Below.refl _ _⟩
  case round =>
    obtain ⟨k, hk, rfl, hb⟩ := hrel
    by_cases hlt : k < xs.length
    · obtain ⟨b, off, rfl, hbs, d0⟩ := (hr.below hb).int hlt
      obtain ⟨b', off', rfl, hbs', g0⟩ := (hr'.below hb).int hlt
      go_wp2_with fail
      go_quiet (fail)
      go_wp2_with fail
      go_roundw
      case rel => exact ⟨k + 1, by omega, by go_num, below_drewN hb _⟩
      case measure => simp [intOf]; omega
    · go_wp2_with fail
      go_returns
      exact ⟨rfl, hb⟩
theorem vBig_c (n : Nat) (A : Option Addr) (c : Nat) (w : World) : Calls Tryd.prog 4 #[.slice A n c] w (Pure (.bool (decide (65536 < n))) w) := by
  go_enter Tryd.func4, Tryd.ntmps4
  go_wp2_with fail
  go_returns
  exact ⟨ret_bool (by simp; omega), rfl⟩
end Go.Proofs.YtgjehnjpbekoeaaDoor
namespace Go.Proofs.YtgjehnjpbekoeaaDoor
set_option linter.unusedVariables false
set_option linter.unusedSimpArgs false
open Go.RowKit
attribute [local irreducible] wpQuiet
set_option maxRecDepth 100000 in
set_option maxHeartbeats 1000000 in
theorem vGrid_c (xs : List (List Int)) (A A' : Option Addr) (c c' : Nat) (w : World) (hr : RdSS w.heap.size w A xs) (hr' : RdSS w.heap.size w A' xs) (hn : xs.length ≤ 2097152) (hl : ∀ x ∈ xs, x.length ≤ 2097152) :
    Calls Tryd.prog 8 #[.slice A xs.length c, .slice A' xs.length c'] w (Ret (.bool true) w) := by
  have HL := Lib.hid hl
  clear hl
  go_enter Tryd.func8, Tryd.ntmps8
  go_wp2_with fail
  go_loopw [5] (fun i wr => ∃ k : Nat, k ≤ xs.length ∧ i = .int .i64 k ∧ Below w.heap.size w wr) (fun i _ => xs.length - (intOf i).toNat)
  case atStart => exact ⟨0, Nat.zero_le _, rfl, Below.refl _ _⟩
  case round =>
    obtain ⟨k, hk, rfl, hb⟩ := hrel
    by_cases hlt : k < xs.length
    · obtain ⟨b, off, Ai, ci, rfl, hbs, d0, hci, hri⟩ := (hr.below hb).at_ hlt
      obtain ⟨b', off', Ai', ci', rfl, hbs', d0', hci', hri'⟩ := (hr'.below hb).at_ hlt
      have hx := HL.out _ (List.getElem_mem hlt)
      have HC := Lib.hid (fun (v : World) (h : Rd encI 1 v.heap.size v Ai xs[k]) (h' : Rd encI 1 v.heap.size v Ai' xs[k]) => vInts_c xs[k] Ai Ai' ci ci' v h h' hx)
      have hk0 : (0 : Int) ≤ (k : Int) := by omega
      have hk1 : (k : Int) < (xs.length : Int) := by omega
      have hbw : b < wr.heap.size := Nat.lt_of_lt_of_le hbs hb.size
      have hbw' : b' < wr.heap.size := Nat.lt_of_lt_of_le hbs' hb.size
      have hri := hri.more hb.size
      have hri' := hri'.more hb.size
      have hov := over_cell wr
      have HO : Hid (∀ x : World, Calls Tryd.prog 10 #[.slice Ai xs[k].length ci, .slice Ai' xs[k].length ci'] (over wr x) (Ret (.bool true) (over wr x))) := Lib.hid (fun x => HC.out _ (hri.go (over_below wr x)) (hri'.go (over_below wr x)))
      clear HC hri hri'
      go_wp2_with fail
      refine wp_region_over (by kernel_rfl) (by kernel_rfl) ?_
      repeat (go_big_quiet_step (((go_at_call 10; exact Calls.over_of (HO.out _)))))
      refine wpQuiet_nil ?_
      intro _ hwx1
      obtain ⟨x1, hwx1⟩ := hwx1
      subst hwx1
      go_wp2_with fail
      go_roundw
      case rel => exact ⟨k + 1, by omega, by go_num, below_via hb (over_below wr x1)⟩
      case measure => simp [intOf]; omega
    · have hke : k = xs.length := by omega
      go_wp2_with fail
      go_returns
      exact ⟨rfl, hb⟩
set_option maxRecDepth 100000 in
set_option maxHeartbeats 1000000 in
theorem vFlaws_c (xs : List Flaw) (A A' : Option Addr) (c c' : Nat) (w : World) (hr : Rd encFlaw 4 w.heap.size w A xs) (hr' : Rd encFlaw 4 w.heap.size w A' xs) (hn : xs.length ≤ 2097152) :
    Calls Tryd.prog 21 #[.slice A xs.length c, .slice A' xs.length c'] w (Ret (.bool true) w) := by
  go_enter Tryd.func21, Tryd.ntmps21
  go_wp2_with fail
  go_loopw [5] (fun i wr => ∃ k : Nat, k ≤ xs.length ∧ i = .int .i64 k ∧ Below w.heap.size w wr) (fun i _ => xs.length - (intOf i).toNat)
  case atStart => exact ⟨0, Nat.zero_le _, rfl, Below.refl _ _⟩
  case round =>
    obtain ⟨k, hk, rfl, hb⟩ := hrel
    by_cases hlt : k < xs.length
    · obtain ⟨b, off, rfl, hbs, d0, d1, d2, d3⟩ := (hr.below hb).atFlaw hlt
      obtain ⟨b', off', rfl, hbs', g0, g1, g2, g3⟩ := (hr'.below hb).atFlaw hlt
      go_wp2_with fail
      go_quiet (fail)
      go_wp2_with fail
      go_roundw
      case rel => exact ⟨k + 1, by omega, by go_num, below_drewN hb _⟩
      case measure => simp [intOf]; omega
    · have hke : k = xs.length := by omega
      go_wp2_with fail
      go_returns
      exact ⟨rfl, hb⟩
end Go.Proofs.YtgjehnjpbekoeaaDoor
