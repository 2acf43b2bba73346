/- Contracts of the small functions by which the laws on albums compare what they got. No condition but the sizes. -/
import Derived.Test.YthhdajmnidjhjaaScal
import Derived.Test.YthhdajmnidjhjaaApp
import Derived.Test.YthhdajmnidjhjaaOver
import Derived.Test.YthhdajmnidjhjaaCvPage2
import Derived.Deep.CutBlock
import Derived.Deep.DeepCutAuto
namespace Go.Proofs.Ythhdajmnidjhjaa
set_option linter.unusedVariables false
set_option linter.unusedSimpArgs false
open Go.RowKit
attribute [local irreducible] wpQuiet
set_option maxHeartbeats 800000 in
theorem rHas_c (xs : List Int) (A : Option Addr) (c : Nat) (z : Int) (w : World) (hr : Rd encI 1 w.heap.size w A xs) (hn : xs.length ≤ 2097152) :
    Calls Try.prog 21 #[.slice A xs.length c, .int .i64 z] w (Ret (.bool (decide (z ∈ xs))) w) := by
  go_enter Try.func21, Try.ntmps21
  go_wp2_with fail
  go_loopw [5] (fun i wr => ∃ k : Nat, k ≤ xs.length ∧ i = .int .i64 k ∧ (∀ y ∈ xs.take k, y ≠ z) ∧ Below w.heap.size w wr) (fun i _ => xs.length - (intOf i).toNat)
  case atStart => exact ⟨0, Nat.zero_le _, rfl, by simp, Below.refl _ _⟩
  case round =>
    obtain ⟨k, hk, rfl, hall, hb⟩ := hrel
    have HA := Lib.hid hall
    clear hall
    by_cases hlt : k < xs.length
    · obtain ⟨b, off, rfl, hbs, d0⟩ := (hr.below hb).int hlt
      by_cases he : xs[k] = z
      · have HV := Lib.hid (show decide (z ∈ xs) = true from decide_eq_true (by rw [← he]; exact List.getElem_mem hlt))
        have he' : (xs[k] == z) = true := by simpa using he
        clear he
        go_wp2_with fail
        go_returns
        exact ⟨ret_bool HV.out.symm, hb⟩
      · have HN := Lib.hid (show ∀ y ∈ xs.take (k + 1), y ≠ z by
          rw [take_succ_get xs k hlt]
          intro y hy
          rcases List.mem_append.1 hy with h | h
          · exact HA.out y h
          · simp at h; subst h; exact he)
        have he' : (xs[k] == z) = false := by simpa using he
        clear he
        go_wp2_with fail
        go_roundw
        case rel => exact ⟨k + 1, by omega, by go_num, HN.out, hb⟩
        case measure => simp [intOf]; omega
    · have HV := Lib.hid (show decide (z ∈ xs) = false from decide_eq_false (fun h => by
        have := HA.out
        rw [List.take_of_length_le (by omega)] at this
        exact this z h rfl))
      go_wp2_with fail
      go_returns
      exact ⟨ret_bool HV.out.symm, hb⟩
set_option maxRecDepth 100000 in
set_option maxHeartbeats 800000 in
theorem rInts_c (xs : List Int) (A A' : Option Addr) (c c' : Nat) (w : World) (hr : Rd encI 1 w.heap.size w A xs) (hr' : Rd encI 1 w.heap.size w A' xs) (hn : xs.length ≤ 2097152) :
    Calls Try.prog 26 #[.slice A xs.length c, .slice A' xs.length c'] w (Ret (.bool true) w) := by
  go_enter Try.func26, Try.ntmps26
  go_wp2_with fail
  go_loopw [5] (fun i wr => ∃ k : Nat, k ≤ xs.length ∧ i = .int .i64 k ∧ Below w.heap.size w wr) (fun i _ => xs.length - (intOf i).toNat)
  case atStart => exact ⟨0, Nat.zero_le _, rfl, Below.refl _ _⟩
  case round =>
    obtain ⟨k, hk, rfl, hb⟩ := hrel
    by_cases hlt : k < xs.length
    · obtain ⟨b, off, rfl, hbs, d0⟩ := (hr.below hb).int hlt
      obtain ⟨b', off', rfl, hbs', g0⟩ := (hr'.below hb).int hlt
      go_wp2_with fail
      go_quiet (fail)
      go_wp2_with fail
      go_roundw
      case rel => exact ⟨k + 1, by omega, by go_num, below_drewN hb _⟩
      case measure => simp [intOf]; omega
    · go_wp2_with fail
      go_returns
      exact ⟨rfl, hb⟩
theorem rBig_c (n : Nat) (A : Option Addr) (c : Nat) (w : World) : Calls Try.prog 12 #[.slice A n c] w (Pure (.bool (decide (65536 < n))) w) := by
  go_enter Try.func12, Try.ntmps12
  go_wp2_with fail
  go_returns
  exact ⟨ret_bool (by simp; omega), rfl⟩
set_option maxRecDepth 100000 in
set_option maxHeartbeats 1600000 in
theorem rAlbum_c (xs : List Page) (A A' : Option Addr) (c c' : Nat) (w : World) (hr : RdP w.heap.size w A xs) (hr' : RdP w.heap.size w A' xs) (hn : xs.length ≤ 1048576) (hs : sumI xs ≤ 2097152) :
    Calls Try.prog 16 #[.slice A xs.length c, .slice A' xs.length c'] w (Ret (.bool true) w) := by
  have HI := Lib.hid (fun (k : Nat) (h : k < xs.length) => Nat.le_trans (sumI_mem (List.getElem_mem h)) hs)
  go_enter Try.func16, Try.ntmps16
  go_wp2_with fail
  go_loopw [5] (fun i wr => ∃ k : Nat, k ≤ xs.length ∧ i = .int .i64 k ∧ Below w.heap.size w wr) (fun i _ => xs.length - (intOf i).toNat)
  case atStart => exact ⟨0, Nat.zero_le _, rfl, Below.refl _ _⟩
  case round =>
    obtain ⟨k, hk, rfl, hb⟩ := hrel
    by_cases hlt : k < xs.length
    · obtain ⟨b, off, Ai, ci, rfl, hbs, d0, d1, d2, d3, _, hri⟩ := (hr.below hb).page hlt
      obtain ⟨b', off', Aj, cj, rfl, hbs', g0, g1, g2, g3, _, hrj⟩ := (hr'.below hb).page hlt
      have hil := HI.out k hlt
      have hbl : b < wr.heap.size := Nat.lt_of_lt_of_le hbs hb.size
      have hbl' : b' < wr.heap.size := Nat.lt_of_lt_of_le hbs' hb.size
      have HC : Hid (∀ x : World, Calls Try.prog 26 #[.slice Ai xs[k].items.length ci, .slice Aj xs[k].items.length cj] (over wr x) (Ret (.bool true) (over wr x))) := Lib.hid (fun x => rInts_c xs[k].items _ _ _ _ _ ((hri.more hb.size).go (over_below wr x)) ((hrj.more hb.size).go (over_below wr x)) hil)
      have hk0 : (0 : Int) ≤ (k : Int) := by omega
      have hk1 : (k : Int) < (xs.length : Int) := by omega
      clear hri hrj hil
      generalize xs[k].id = z0 at *
      generalize xs[k].title = z1 at *
      generalize xs[k].under = z2 at *
      generalize xs[k].items = z3 at *
      go_upto_region 6 with fail
      have hov := over_cell wr
      refine wp_region_over (by kernel_rfl) (by kernel_rfl) ?_
      repeat (go_big_quiet_step (((go_at_call 26; exact Calls.over_of (HC.out _)))))
      refine wpQuiet_nil ?_
      intro _ hwx1
      obtain ⟨x1, hwx1⟩ := hwx1
      subst hwx1
      go_wp2_with fail
      go_roundw
      case rel => exact ⟨k + 1, by omega, by go_num, hb.trans ((over_below wr x1).mono hb.size)⟩
      case measure => simp [intOf]; omega
    · obtain rfl : k = xs.length := by omega
      go_wp2_with fail
      go_returns
      exact ⟨rfl, hb⟩
end Go.Proofs.Ythhdajmnidjhjaa
