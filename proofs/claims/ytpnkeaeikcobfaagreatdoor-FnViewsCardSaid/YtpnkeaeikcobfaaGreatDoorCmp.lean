/- Contracts of cmp.Compare, cmp.Or at int. No condition of its own. -/
import Derived.Test.YtpnkeaeikcobfaaGreatDoorMark
namespace Go.Proofs.YtpnkeaeikcobfaaGreatDoor
set_option linter.unusedVariables false
set_option linter.unusedSimpArgs false
open Go.RowKit
def cmpI (x y : Int) : Int := if x < y then -1 else if y < x then 1 else 0
/-- The first that is not 0, or 0. -/
def orI : List Int → Int
  | [] => 0
  | x :: r => if x = 0 then orI r else x
theorem orI_append (a b : List Int) (h : ∀ x ∈ a, x = 0) : orI (a ++ b) = orI b := by
  induction a with
  | nil => rfl
  | cons x a ih => simp [orI, h x (by simp), ih (fun y hy => h y (by simp [hy]))]
theorem orI_zero (a : List Int) (h : ∀ x ∈ a, x = 0) : orI a = 0 := by
  have := orI_append a [] h
  simpa [orI] using this
theorem isNaN_c (x : Int) (w : World) : Calls Tryz.prog 72 #[.int .i64 x] w (Pure (.bool false) w) := by
  have h : (x != x) = false := by simp
  go_enter Tryz.func72, Tryz.ntmps72
  go_wp2_with fail
  go_returns
  exact ⟨rfl, rfl⟩
theorem compare_c (x y : Int) (w : World) : Calls Tryz.prog 55 #[.int .i64 x, .int .i64 y] w (Pure (.int .i64 (cmpI x y)) w) := by
  by_cases h1 : x < y
  · have HV := Lib.hid (show cmpI x y = -1 by simp [cmpI, h1])
    go_enter Tryz.func55, Tryz.ntmps55
    go_wp2_with (go_at_call 72; refine (isNaN_c _ _).mono ?_; rintro e w' ⟨rfl, rfl⟩)
    go_returns
    exact ⟨ret_int HV.out.symm, rfl⟩
  · by_cases h2 : y < x
    · have HV := Lib.hid (show cmpI x y = 1 by simp [cmpI, h1, h2])
      go_enter Tryz.func55, Tryz.ntmps55
      go_wp2_with (go_at_call 72; refine (isNaN_c _ _).mono ?_; rintro e w' ⟨rfl, rfl⟩)
      go_returns
      exact ⟨ret_int HV.out.symm, rfl⟩
    · have HV := Lib.hid (show cmpI x y = 0 by simp [cmpI, h1, h2])
      go_enter Tryz.func55, Tryz.ntmps55
      go_wp2_with (go_at_call 72; refine (isNaN_c _ _).mono ?_; rintro e w' ⟨rfl, rfl⟩)
      go_returns
      exact ⟨ret_int HV.out.symm, rfl⟩
set_option maxHeartbeats 400000 in
theorem or_c (xs : List Int) (A : Option Addr) (c : Nat) (w : World) (hr : Rd encI 1 w.heap.size w A xs) (hn : xs.length ≤ 1048576) :
    Calls Tryz.prog 54 #[.slice A xs.length c] w (Pure (.int .i64 (orI xs)) w) := by
  go_enter Tryz.func54, Tryz.ntmps54
  go_wp2_with fail
  go_loop [8] (fun i => ∃ k : Nat, k ≤ xs.length ∧ i = .int .i64 k ∧ (∀ x ∈ xs.take k, x = 0)) (fun i => xs.length - (intOf i).toNat)
  case atStart => exact ⟨0, Nat.zero_le _, rfl, by simp⟩
  case round =>
    obtain ⟨k, hk, rfl, hall⟩ := hrel
    have HA := Lib.hid hall
    clear hall
    by_cases hlt : k < xs.length
    · obtain ⟨b, off, rfl, hbs, d0⟩ := hr.int hlt
      by_cases hz : xs[k] = 0
      · have hz' : (xs[k] != 0) = false := by simp [hz]
        have HZ := Lib.hid hz
        clear hz
        go_wp2_with fail
        go_round
        case rel => exact ⟨k + 1, by omega, by go_num, by rw [take_succ_get xs k hlt]; intro x hx; rcases List.mem_append.1 hx with h | h; exact HA.out x h; simp at h; subst h; exact HZ.out⟩
        case measure => simp [intOf]; omega
      · have hz' : (xs[k] != 0) = true := by simp [hz]
        have HV := Lib.hid (show orI xs = xs[k] by
          conv => lhs; rw [← List.take_append_drop k xs]
          rw [orI_append _ _ HA.out, List.drop_eq_getElem_cons hlt]
          simp [orI, hz])
        clear hz
        go_wp2_with fail
        go_returns
        exact ⟨ret_int HV.out.symm, rfl⟩
    · have hke : xs.length ≤ k := by omega
      go_wp2_with fail
      go_returns
      exact ⟨ret_int (by rw [orI_zero xs (by have := HA.out; rwa [List.take_of_length_le hke] at this)]), rfl⟩
theorem or2_c (p q : Int) (b c : Nat) (w : World) (h0 : w.cell? ⟨b, 0, none⟩ = some (.int .i64 p)) (h1 : w.cell? ⟨b, 1, none⟩ = some (.int .i64 q)) :
    Calls Tryz.prog 54 #[.slice (some ⟨b, 0, none⟩) 2 c] w (Pure (.int .i64 (orI [p, q])) w) :=
  or_c [p, q] (some ⟨b, 0, none⟩) c w (fun _ => ⟨b, 0, rfl, cell_lt h0, fun i x hx j v hv => by
    have hj : j = 0 := by have := (List.getElem?_eq_some_iff.1 hv).1; simp [encI] at this; omega
    subst hj
    match i, hx with
    | 0, hx => simp at hx; subst hx; simp [encI] at hv; subst hv; simpa using h0
    | 1, hx => simp at hx; subst hx; simp [encI] at hv; subst hv; simpa using h1⟩) (by simp)
theorem or3_c (p q r : Int) (b c : Nat) (w : World) (h0 : w.cell? ⟨b, 0, none⟩ = some (.int .i64 p)) (h1 : w.cell? ⟨b, 1, none⟩ = some (.int .i64 q)) (h2 : w.cell? ⟨b, 2, none⟩ = some (.int .i64 r)) :
    Calls Tryz.prog 54 #[.slice (some ⟨b, 0, none⟩) 3 c] w (Pure (.int .i64 (orI [p, q, r])) w) :=
  or_c [p, q, r] (some ⟨b, 0, none⟩) c w (fun _ => ⟨b, 0, rfl, cell_lt h0, fun i x hx j v hv => by
    have hj : j = 0 := by have := (List.getElem?_eq_some_iff.1 hv).1; simp [encI] at this; omega
    subst hj
    match i, hx with
    | 0, hx => simp at hx; subst hx; simp [encI] at hv; subst hv; simpa using h0
    | 1, hx => simp at hx; subst hx; simp [encI] at hv; subst hv; simpa using h1
    | 2, hx => simp at hx; subst hx; simp [encI] at hv; subst hv; simpa using h2⟩) (by simp)
end Go.Proofs.YtpnkeaeikcobfaaGreatDoor
