/- Contracts of the small functions by which the law FnViews compares what it got. No condition but the sizes. -/
import Derived.Test.YtpnkeaeikcobfaaGreatDoorScal
import Derived.Test.YtpnkeaeikcobfaaGreatDoorApp
namespace Go.Proofs.YtpnkeaeikcobfaaGreatDoor
set_option linter.unusedVariables false
set_option linter.unusedSimpArgs false
open Go.RowKit
attribute [local irreducible] wpQuiet
set_option maxHeartbeats 800000 in
theorem rHas_c (xs : List Int) (A : Option Addr) (c : Nat) (z : Int) (w : World) (hr : Rd encI 1 w.heap.size w A xs) (hn : xs.length ≤ 2097152) :
    Calls Tryz.prog 13 #[.slice A xs.length c, .int .i64 z] w (Ret (.bool (decide (z ∈ xs))) w) := by
  go_enter Tryz.func13, Tryz.ntmps13
  go_wp2_with fail
  go_loopw [5] (fun i wr => ∃ k : Nat, k ≤ xs.length ∧ i = .int .i64 k ∧ (∀ y ∈ xs.take k, y ≠ z) ∧ Below w.heap.size w wr) (fun i _ => xs.length - (intOf i).toNat)
  case atStart => exact ⟨0, Nat.zero_le _, rfl, by simp, Below.refl _ _⟩
  case round =>
    obtain ⟨k, hk, rfl, hall, hb⟩ := hrel
    have HA := Lib.hid hall
    clear hall
    by_cases hlt : k < xs.length
    · obtain ⟨b, off, rfl, hbs, d0⟩ := (hr.below hb).int hlt
      by_cases he : xs[k] = z
      · have HV := Lib.hid (show decide (z ∈ xs) = true from decide_eq_true (by rw [← he]; exact List.getElem_mem hlt))
        have he' : (xs[k] == z) = true := by simpa using he
        clear he
        go_wp2_with fail
        go_returns
        exact ⟨ret_bool HV.out.symm, hb⟩
      · have HN := Lib.hid (show ∀ y ∈ xs.take (k + 1), y ≠ z by
          rw [take_succ_get xs k hlt]
          intro y hy
          rcases List.mem_append.1 hy with h | h
          · exact HA.out y h
          · simp at h; subst h; exact he)
        have he' : (xs[k] == z) = false := by simpa using he
        clear he
        go_wp2_with fail
        go_roundw
        case rel => exact ⟨k + 1, by omega, by go_num, HN.out, hb⟩
        case measure => simp [intOf]; omega
    · have HV := Lib.hid (show decide (z ∈ xs) = false from decide_eq_false (fun h => by
        have := HA.out
        rw [List.take_of_length_le (by omega)] at this
        exact this z h rfl))
      go_wp2_with fail
      go_returns
      exact ⟨ret_bool HV.out.symm, hb⟩
set_option maxRecDepth 100000 in
set_option maxHeartbeats 800000 in
theorem rInts_c (xs : List Int) (A A' : Option Addr) (c c' : Nat) (w : World) (hr : Rd encI 1 w.heap.size w A xs) (hr' : Rd encI 1 w.heap.size w A' xs) (hn : xs.length ≤ 2097152) :
    Calls Tryz.prog 10 #[.slice A xs.length c, .slice A' xs.length c'] w (Ret (.bool true) w) := by
  go_enter Tryz.func10, Tryz.ntmps10
  go_wp2_with fail
  go_loopw [5] (fun i wr => ∃ k : Nat, k ≤ xs.length ∧ i = .int .i64 k ∧ Below w.heap.size w wr) (fun i _ => xs.length - (intOf i).toNat)
  case atStart => exact ⟨0, Nat.zero_le _, rfl, Below.refl _ _⟩
  case round =>
    obtain ⟨k, hk, rfl, hb⟩ := hrel
    by_cases hlt : k < xs.length
    · obtain ⟨b, off, rfl, hbs, d0⟩ := (hr.below hb).int hlt
      obtain ⟨b', off', rfl, hbs', g0⟩ := (hr'.below hb).int hlt
      go_wp2_with fail
      go_quiet (fail)
      go_wp2_with fail
      go_roundw
      case rel => exact ⟨k + 1, by omega, by go_num, below_drewN hb _⟩
      case measure => simp [intOf]; omega
    · go_wp2_with fail
      go_returns
      exact ⟨rfl, hb⟩
set_option maxRecDepth 100000 in
set_option maxHeartbeats 800000 in
theorem rTexts_c (xs : List ByteArray) (A A' : Option Addr) (c c' : Nat) (w : World) (hr : Rd encS 1 w.heap.size w A xs) (hr' : Rd encS 1 w.heap.size w A' xs) (hn : xs.length ≤ 2097152) :
    Calls Tryz.prog 24 #[.slice A xs.length c, .slice A' xs.length c'] w (Ret (.bool true) w) := by
  go_enter Tryz.func24, Tryz.ntmps24
  go_wp2_with fail
  go_loopw [5] (fun i wr => ∃ k : Nat, k ≤ xs.length ∧ i = .int .i64 k ∧ Below w.heap.size w wr) (fun i _ => xs.length - (intOf i).toNat)
  case atStart => exact ⟨0, Nat.zero_le _, rfl, Below.refl _ _⟩
  case round =>
    obtain ⟨k, hk, rfl, hb⟩ := hrel
    by_cases hlt : k < xs.length
    · obtain ⟨b, off, rfl, hbs, d0⟩ := (hr.below hb).str hlt
      obtain ⟨b', off', rfl, hbs', g0⟩ := (hr'.below hb).str hlt
      go_wp2_with fail
      go_quiet (fail)
      go_wp2_with fail
      go_roundw
      case rel => exact ⟨k + 1, by omega, by go_num, below_drewN hb _⟩
      case measure => simp [intOf]; omega
    · go_wp2_with fail
      go_returns
      exact ⟨rfl, hb⟩
theorem rBig_c (n : Nat) (A : Option Addr) (c : Nat) (w : World) : Calls Tryz.prog 4 #[.slice A n c] w (Pure (.bool (decide (65536 < n))) w) := by
  go_enter Tryz.func4, Tryz.ntmps4
  go_wp2_with fail
  go_returns
  exact ⟨ret_bool (by simp; omega), rfl⟩
end Go.Proofs.YtpnkeaeikcobfaaGreatDoor
