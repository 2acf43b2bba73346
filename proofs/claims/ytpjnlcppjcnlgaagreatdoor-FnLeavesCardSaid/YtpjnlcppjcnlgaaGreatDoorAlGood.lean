/- Contracts of the small functions that ask whether a list of pages is an album. No condition but the sizes. -/
import Derived.Test.YtpjnlcppjcnlgaaGreatDoorAlPlain
import Derived.Test.YtpjnlcppjcnlgaaGreatDoorCvPage2
import Derived.Test.YtpjnlcppjcnlgaaGreatDoorNum
import Derived.Test.YtpjnlcppjcnlgaaGreatDoorWord
import Derived.Deep.DeepCutAuto
namespace Go.Proofs.YtpjnlcppjcnlgaaGreatDoor
set_option linter.unusedVariables false
set_option linter.unusedSimpArgs false
open Go.RowKit
attribute [local irreducible] wpQuiet
theorem addr_eq {b off b' off' : Nat} (h : (some ⟨b, off, none⟩ : Option Addr) = some ⟨b', off', none⟩) : b = b' ∧ off = off' := by injection h with h; injection h with h1 h2; exact ⟨h1, h2⟩
theorem isItem_c (z : Int) (w : World) : Calls Tryz.prog 45 #[.int .i64 z] w (Pure (.bool (inR z 1 999)) w) := by
  go_enter Tryz.func45, Tryz.ntmps45
  go_wp2_with (go_at_call 54; refine (inRange_c _ _ _ _).mono ?_; rintro e w' ⟨rfl, rfl⟩)
  go_returns
  exact ⟨rfl, rfl⟩
set_option maxRecDepth 100000 in
set_option maxHeartbeats 1000000 in
theorem ascending_c (xs : List Int) (A : Option Addr) (c : Nat) (w : World) (hr : Rd encI 1 w.heap.size w A xs) (hn : xs.length ≤ 2097152) :
    Calls Tryz.prog 56 #[.slice A xs.length c] w (Ret (.bool (ascL xs)) w) := by
  go_enter Tryz.func56, Tryz.ntmps56
  go_wp2_with fail
  go_loopw [3] (fun i wr => ∃ k : Nat, 1 ≤ k ∧ i = .int .i64 k ∧ (k ≤ xs.length ∨ k = 1) ∧ (List.range k).all (ascO xs) = true ∧ Below w.heap.size w wr) (fun i _ => xs.length - (intOf i).toNat)
  case atStart => exact ⟨1, by omega, rfl, .inr rfl, by simp [ascO_0], Below.refl _ _⟩
  case round =>
    obtain ⟨k, hk1, rfl, hk, hall, hb⟩ := hrel
    have HA := Lib.hid hall
    clear hall
    by_cases hlt : k < xs.length
    · obtain ⟨j, rfl⟩ : ∃ j, k = j + 1 := ⟨k - 1, by omega⟩
      have hj : j < xs.length := by omega
      obtain ⟨b, off, rfl, hbs, d0⟩ := (hr.below hb).int hlt
      obtain ⟨b', off', hA, hbs', g0⟩ := (hr.below hb).int hj
      obtain ⟨rfl, rfl⟩ := addr_eq hA
      have hsub : ((j + 1 : Nat) : Int) - 1 = (j : Int) := by omega
      have hj0 : (0 : Int) ≤ j := by omega
      have hj1 : (j : Int) ≤ xs.length := by omega
      have hj2 : (j : Int) < xs.length := by omega
      by_cases hd : xs[j] < xs[j + 1]
      · have hd' : decide (xs[j + 1] ≤ xs[j]) = false := decide_eq_false (by omega)
        have HN := Lib.hid (range_next HA.out (by rw [ascO_s hlt]; exact decide_eq_true hd))
        clear hd
        go_wp2_with fail
        go_quiet (fail)
        go_wp2_with fail
        go_roundw
        case rel => exact ⟨j + 1 + 1, by omega, by go_num, .inl (by omega), HN.out, below_drewN hb _⟩
        case measure => simp [intOf]; omega
      · have hd' : decide (xs[j + 1] ≤ xs[j]) = true := decide_eq_true (by omega)
        have HV := Lib.hid (ascL_no hlt (by rw [ascO_s hlt]; exact decide_eq_false hd))
        clear hd
        go_wp2_with fail
        go_quiet (fail)
        go_wp2_with fail
        go_returns
        exact ⟨ret_bool HV.out.symm, below_drewN hb _⟩
    · have HV := Lib.hid (show ascL xs = true from List.all_eq_true.2 fun i hi => by
        have hi := List.mem_range.1 hi
        have h2 := HA.out
        exact List.all_eq_true.1 h2 i (List.mem_range.2 (by omega)))
      go_wp2_with fail
      go_returns
      exact ⟨ret_bool HV.out.symm, hb⟩
set_option maxRecDepth 100000 in
set_option maxHeartbeats 1000000 in
theorem l18Find_c (xs : List Page) (A : Option Addr) (c : Nat) (z : Int) (w : World) (hr : RdP w.heap.size w A xs) (hn : xs.length ≤ 1048576) :
    Calls Tryz.prog 40 #[.slice A xs.length c, .int .i64 z] w (Ret (.int .i64 (idxI (idP z) xs)) w) := by
  go_enter Tryz.func40, Tryz.ntmps40
  go_wp2_with fail
  go_loopw [5] (fun i wr => ∃ k : Nat, k ≤ xs.length ∧ i = .int .i64 k ∧ (∀ x ∈ xs.take k, idP z x = false) ∧ Below w.heap.size w wr) (fun i _ => xs.length - (intOf i).toNat)
  case atStart => exact ⟨0, Nat.zero_le _, rfl, by simp, Below.refl _ _⟩
  case round =>
    obtain ⟨k, hk, rfl, hall, hb⟩ := hrel
    have HA := Lib.hid hall
    clear hall
    by_cases hlt : k < xs.length
    · obtain ⟨b, off, Ai, ci, rfl, hbs, d0, d1, d2, d3, hci, hri⟩ := (hr.below hb).page hlt
      by_cases he : xs[k].id = z
      · have HV := Lib.hid (idxI_hit (idP z) xs k hlt HA.out (by simp [idP, he]))
        have he' : (xs[k].id == z) = true := by simpa using he
        clear he
        go_wp2_with fail
        go_returns
        exact ⟨ret_int HV.out.symm, hb⟩
      · have HN := Lib.hid (take_no hlt HA.out (show idP z xs[k] = false by simp [idP, he]))
        have he' : (xs[k].id == z) = false := by simpa using he
        clear he
        go_wp2_with fail
        go_roundw
        case rel => exact ⟨k + 1, by omega, by go_num, HN.out, hb⟩
        case measure => simp [intOf]; omega
    · have HV := Lib.hid (idxI_miss (idP z) xs (by have := HA.out; rwa [List.take_of_length_le (by omega)] at this))
      go_wp2_with fail
      go_returns
      exact ⟨ret_int HV.out.symm, hb⟩
theorem l1Has_c (ys : List Int) (A : Option Addr) (c : Nat) (n : Int) (w : World) (hr : Rd encI 1 w.heap.size w A ys) (hn : ys.length ≤ 2097152) :
    Calls Tryz.prog 66 #[.slice A ys.length c, .int .i64 n] w (Pure (.bool (decide (n ∈ ys))) w) := by
  go_enter Tryz.func66, Tryz.ntmps66
  go_wp2_with fail
  go_loop [5] (fun i => ∃ k : Nat, k ≤ ys.length ∧ i = .int .i64 k ∧ (∀ y ∈ ys.take k, y ≠ n)) (fun i => ys.length - (intOf i).toNat)
  case atStart => exact ⟨0, Nat.zero_le _, rfl, by simp⟩
  case round =>
    obtain ⟨k, hk, rfl, hall⟩ := hrel
    have HA := Lib.hid hall
    clear hall
    by_cases hlt : k < ys.length
    · obtain ⟨b, off, rfl, hbs, d0⟩ := hr.int hlt
      by_cases h1 : ys[k] = n
      · have h1' : (ys[k] == n) = true := by simpa using h1
        have HV := Lib.hid (show decide (n ∈ ys) = true from decide_eq_true (h1 ▸ List.getElem_mem hlt))
        clear h1
        go_wp2_with fail
        go_returns
        exact ⟨ret_bool HV.out.symm, rfl⟩
      · have h1' : (ys[k] == n) = false := by simpa using h1
        have HV := Lib.hid (show ∀ y ∈ ys.take (k + 1), y ≠ n by
          rw [take_succ_get ys k hlt]; intro x hx; rcases List.mem_append.1 hx with h | h
          · exact HA.out x h
          · simp at h; subst h; exact h1)
        clear h1
        go_wp2_with fail
        go_round
        case rel => exact ⟨k + 1, by omega, by go_num, HV.out⟩
        case measure => simp [intOf]; omega
    · have hke : ys.take k = ys := List.take_of_length_le (by omega)
      have HV := Lib.hid (show decide (n ∈ ys) = false from decide_eq_false (fun h => HA.out n (by rw [hke]; exact h) rfl))
      clear hke
      go_wp2_with fail
      go_returns
      exact ⟨ret_bool HV.out.symm, rfl⟩
set_option maxRecDepth 100000 in
set_option maxHeartbeats 1000000 in
theorem l18With_c (xs : List Page) (A : Option Addr) (c : Nat) (z : Int) (w : World) (hr : RdP w.heap.size w A xs) (hn : xs.length ≤ 1048576) (hs : sumI xs ≤ 2097152) :
    Calls Tryz.prog 48 #[.slice A xs.length c, .int .i64 z] w (Ret (.int .i64 (idxI (hasP z) xs)) w) := by
  have HI := Lib.hid (fun (k : Nat) (h : k < xs.length) => Nat.le_trans (sumI_mem (List.getElem_mem h)) hs)
  go_enter Tryz.func48, Tryz.ntmps48
  go_wp2_with fail
  go_loopw [5] (fun i wr => ∃ k : Nat, k ≤ xs.length ∧ i = .int .i64 k ∧ (∀ x ∈ xs.take k, hasP z x = false) ∧ Below w.heap.size w wr) (fun i _ => xs.length - (intOf i).toNat)
  case atStart => exact ⟨0, Nat.zero_le _, rfl, by simp, Below.refl _ _⟩
  case round =>
    obtain ⟨k, hk, rfl, hall, hb⟩ := hrel
    have HA := Lib.hid hall
    clear hall
    by_cases hlt : k < xs.length
    · obtain ⟨b, off, Ai, ci, rfl, hbs, d0, d1, d2, d3, hci, hri⟩ := (hr.below hb).page hlt
      have hil := HI.out k hlt
      by_cases he : z ∈ xs[k].items
      · have HV := Lib.hid (idxI_hit (hasP z) xs k hlt HA.out (by simp [hasP, he]))
        have HD := Lib.hid (decide_eq_true he)
        clear he
        go_wp2_with fail
        refine (l1Has_c _ _ _ _ _ (hri.more hb.size) hil).mono ?_
        rw [HD.out]
        rintro _ _ ⟨rfl, rfl⟩
        go_wp2_with fail
        go_returns
        exact ⟨ret_int HV.out.symm, hb⟩
      · have HN := Lib.hid (take_no hlt HA.out (show hasP z xs[k] = false by simp [hasP, he]))
        have HD := Lib.hid (decide_eq_false he)
        clear he
        go_wp2_with fail
        refine (l1Has_c _ _ _ _ _ (hri.more hb.size) hil).mono ?_
        rw [HD.out]
        rintro _ _ ⟨rfl, rfl⟩
        go_wp2_with fail
        go_roundw
        case rel => exact ⟨k + 1, by omega, by go_num, HN.out, hb⟩
        case measure => simp [intOf]; omega
    · have HV := Lib.hid (idxI_miss (hasP z) xs (by have := HA.out; rwa [List.take_of_length_le (by omega)] at this))
      go_wp2_with fail
      go_returns
      exact ⟨ret_int HV.out.symm, hb⟩
end Go.Proofs.YtpjnlcppjcnlgaaGreatDoor
