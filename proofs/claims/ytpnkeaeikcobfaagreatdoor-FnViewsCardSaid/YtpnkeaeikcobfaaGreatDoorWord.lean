/- Contracts of isWord and l2Word: 1 to 10 small letters. No condition but that the text is one that can be. -/
import Derived.Test.YtpnkeaeikcobfaaGreatDoorNum
namespace Go.Proofs.YtpnkeaeikcobfaaGreatDoor
set_option linter.unusedVariables false
set_option linter.unusedSimpArgs false
open Go.RowKit
/-- A byte that is a small letter. -/
def lowB (c : UInt8) : Bool := decide (97 ≤ (c.toNat : Int)) && decide ((c.toNat : Int) ≤ 122)
def isW (s : ByteArray) : Bool := s.data.toList.all lowB && decide (1 ≤ s.size) && decide (s.size ≤ 10)
theorem take_bytes (s : ByteArray) (k : Nat) (h : k < s.size) : s.data.toList.take (k + 1) = s.data.toList.take k ++ [s[k]] := by
  rw [List.take_succ_eq_append_getElem (by simpa using h)]; rfl
theorem isW_no {s : ByteArray} {k : Nat} (h : k < s.size) (hc : lowB s[k] = false) : isW s = false := by
  have : s.data.toList.all lowB = false := List.all_eq_false.2 ⟨s[k], by
    have h' : k < s.data.toList.length := by simpa using h
    have := List.getElem_mem h'
    exact this, by simp [hc]⟩
  simp [isW, this]
theorem isW_end {s : ByteArray} (h : s.data.toList.all lowB = true) : inR (s.size : Int) 1 10 = isW s := by
  simp only [isW, h, Bool.true_and, inR]
  congr 1 <;> (simp; try omega)
set_option maxHeartbeats 400000 in
theorem isWord_c (s : ByteArray) (w : World) (hs : s.size ≤ 9223372036854775807) : Calls Tryz.prog 42 #[.string s] w (Pure (.bool (isW s)) w) := by
  go_enter Tryz.func42, Tryz.ntmps42
  go_wp2_with fail
  go_loop [6] (fun i => ∃ k : Nat, k ≤ s.size ∧ i = .int .i64 k ∧ (s.data.toList.take k).all lowB = true) (fun i => s.size - (intOf i).toNat)
  case atStart => exact ⟨0, Nat.zero_le _, rfl, by simp⟩
  case round =>
    obtain ⟨k, hk, rfl, hall⟩ := hrel
    have HA := Lib.hid hall
    clear hall
    by_cases hlt : k < s.size
    · have HT := Lib.hid (take_bytes s k hlt)
      have HN := Lib.hid (fun h => isW_no (s := s) (k := k) hlt h)
      go_wp2_with fail
      · have hlo : ((s[k].toNat : Nat) : Int) < 97 := by assumption
        have hl : lowB s[k] = false := by unfold lowB; rw [decide_eq_false (by omega)]; rfl
        go_returns
        exact ⟨ret_bool (HN.out hl).symm, rfl⟩
      · have hlo : 122 < ((s[k].toNat : Nat) : Int) := by assumption
        have hl : lowB s[k] = false := by unfold lowB; rw [decide_eq_false (p := ((s[k].toNat : Nat) : Int) ≤ 122) (by omega), Bool.and_false]
        go_returns
        exact ⟨ret_bool (HN.out hl).symm, rfl⟩
      · have h1 : 97 ≤ ((s[k].toNat : Nat) : Int) := by omega
        have h2 : ((s[k].toNat : Nat) : Int) ≤ 122 := by omega
        have hl : lowB s[k] = true := by unfold lowB; rw [decide_eq_true h1, decide_eq_true h2]; rfl
        go_round
        case rel => exact ⟨k + 1, by omega, by go_num, by rw [HT.out, List.all_append, HA.out]; simp [hl]⟩
        case measure => simp [intOf]; omega
    · have hke : s.size ≤ k := by omega
      have HV := Lib.hid (isW_end (s := s) (by have := HA.out; rwa [List.take_of_length_le (by simpa using hke)] at this))
      go_wp2_with fail
      refine (inRange_c _ _ _ _).mono ?_
      rintro e w' ⟨rfl, rfl⟩
      go_wp2_with fail
      go_returns
      exact ⟨ret_bool HV.out, rfl⟩
set_option maxHeartbeats 400000 in
theorem l2Word_c (s : ByteArray) (w : World) (hs : s.size ≤ 9223372036854775807) : Calls Tryz.prog 43 #[.string s] w (Pure (.bool (isW s)) w) := by
  go_enter Tryz.func43, Tryz.ntmps43
  go_wp2_with fail
  go_loop [3] (fun i => ∃ k : Nat, k ≤ s.size ∧ i = .int .i64 k ∧ (s.data.toList.take k).all lowB = true) (fun i => s.size - (intOf i).toNat)
  case atStart => exact ⟨0, Nat.zero_le _, rfl, by simp⟩
  case round =>
    obtain ⟨k, hk, rfl, hall⟩ := hrel
    have HA := Lib.hid hall
    clear hall
    by_cases hlt : k < s.size
    · have HT := Lib.hid (take_bytes s k hlt)
      have HN := Lib.hid (fun h => isW_no (s := s) (k := k) hlt h)
      go_wp2_with fail
      · have hlo : ((s[k].toNat : Nat) : Int) < 97 := by assumption
        have hl : lowB s[k] = false := by unfold lowB; rw [decide_eq_false (by omega)]; rfl
        go_returns
        exact ⟨ret_bool (HN.out hl).symm, rfl⟩
      · have hlo : 122 < ((s[k].toNat : Nat) : Int) := by assumption
        have hl : lowB s[k] = false := by unfold lowB; rw [decide_eq_false (p := ((s[k].toNat : Nat) : Int) ≤ 122) (by omega), Bool.and_false]
        go_returns
        exact ⟨ret_bool (HN.out hl).symm, rfl⟩
      · have h1 : 97 ≤ ((s[k].toNat : Nat) : Int) := by omega
        have h2 : ((s[k].toNat : Nat) : Int) ≤ 122 := by omega
        have hl : lowB s[k] = true := by unfold lowB; rw [decide_eq_true h1, decide_eq_true h2]; rfl
        go_round
        case rel => exact ⟨k + 1, by omega, by go_num, by rw [HT.out, List.all_append, HA.out]; simp [hl]⟩
        case measure => simp [intOf]; omega
    · have hke : s.size ≤ k := by omega
      have HV := Lib.hid (isW_end (s := s) (by have := HA.out; rwa [List.take_of_length_le (by simpa using hke)] at this))
      go_wp2_with fail
      refine (l1In_c _ _ _ _).mono ?_
      rintro e w' ⟨rfl, rfl⟩
      go_wp2_with fail
      go_returns
      exact ⟨ret_bool HV.out, rfl⟩
end Go.Proofs.YtpnkeaeikcobfaaGreatDoor
