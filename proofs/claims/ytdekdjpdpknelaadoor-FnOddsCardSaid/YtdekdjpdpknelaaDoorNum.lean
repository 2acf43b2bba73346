/- Contracts of the functions that only compute with numbers: ranges, the greatest common divisor, fractions. No condition but that the numbers are not too large. -/
import Derived.Test.YtdekdjpdpknelaaDoorProg
import Derived.Test.YtdekdjpdpknelaaDoorLib
namespace Go.Proofs.YtdekdjpdpknelaaDoor
set_option linter.unusedVariables false
set_option linter.unusedSimpArgs false
open Go.RowKit
def inR (n a b : Int) : Bool := decide (a ≤ n) && decide (n ≤ b)
theorem inR_iff {n a b : Int} : inR n a b = true ↔ a ≤ n ∧ n ≤ b := by simp [inR]
theorem inRange_c (n a b : Int) (w : World) : Calls Tryd.prog 45 #[.int .i64 n, .int .i64 a, .int .i64 b] w (Pure (.bool (inR n a b)) w) := by
  by_cases h : a ≤ n
  all_goals
    go_enter Tryd.func45, Tryd.ntmps45
    go_wp2
    go_ret
    exact ⟨ret_bool (by simp [inR]; try omega), rfl⟩
theorem l1In_c (n a b : Int) (w : World) : Calls Tryd.prog 47 #[.int .i64 n, .int .i64 a, .int .i64 b] w (Pure (.bool (inR n a b)) w) := by
  by_cases h : a ≤ n
  all_goals
    go_enter Tryd.func47, Tryd.ntmps47
    go_wp2
    go_ret
    exact ⟨ret_bool (by simp [inR]; try omega), rfl⟩
/-- The greatest common divisor, as a number. -/
def gc (a b : Int) : Int := (Int.gcd a b : Nat)
theorem gc_zero (a : Int) (h : 0 ≤ a) : gc a 0 = a := by simp [gc]; omega
theorem gc_step (a b : Int) (ha : 0 ≤ a) (hb : 0 < b) : gc b (a % b) = gc a b := by
  obtain ⟨m, rfl⟩ := Int.eq_ofNat_of_zero_le ha
  obtain ⟨n, rfl⟩ := Int.eq_ofNat_of_zero_le (Int.le_of_lt hb)
  unfold gc
  rw [show ((m : Int) % (n : Int)) = ((m % n : Nat) : Int) from by omega]
  simp only [Int.gcd, Int.natAbs_natCast]
  rw [Nat.gcd_comm n, ← Nat.gcd_rec, Nat.gcd_comm]
theorem gc_pos (a b : Int) (hb : 0 < b) : 0 < gc a b := by
  unfold gc
  have : 0 < Int.gcd a b := Int.gcd_pos_of_ne_zero_right _ (by omega)
  omega
theorem gc_le (a b : Int) (ha : 0 ≤ a) (hb : 0 ≤ b) : gc a b ≤ a + b := by
  unfold gc
  by_cases h : b = 0
  · subst h; simp; omega
  · have := Int.gcd_le_right (a := a) (b := b) (by omega)
    omega
set_option maxHeartbeats 400000 in
theorem gcd_c (a b : Int) (w : World) (ha : 0 ≤ a) (hb : 0 ≤ b) (ha' : a ≤ 1000000000000000) (hb' : b ≤ 1000000000000000) :
    Calls Tryd.prog 46 #[.int .i64 a, .int .i64 b] w (Ret (.int .i64 (gc a b)) w) := by
  go_enter Tryd.func46, Tryd.ntmps46
  go_wp2
  go_loopw [0, 1] (fun u v wr => ∃ x y : Int, u = .int .i64 x ∧ v = .int .i64 y ∧ 0 ≤ x ∧ 0 ≤ y ∧ x ≤ 1000000000000000 ∧ y ≤ 1000000000000000 ∧ gc x y = gc a b ∧ Below w.heap.size w wr) (fun _ v _ => (intOf v).toNat)
  case atStart => exact ⟨a, b, rfl, rfl, ha, hb, ha', hb', rfl, Below.refl _ _⟩
  case round =>
    obtain ⟨x, y, rfl, rfl, hx, hy, hx', hy', hg, hbl⟩ := hrel
    have HG := Lib.hid hg
    clear hg
    by_cases h0 : y = 0
    · subst h0
      go_wp2
      go_ret
      exact ⟨ret_int (by rw [← HG.out, gc_zero x hx]), hbl⟩
    · have hne : (y != 0) = true := by simpa using h0
      have hy1 : 1 ≤ y := by omega
      have hm1 := Int.emod_nonneg x h0
      have hm2 := Int.emod_lt_of_pos x (show 0 < y by omega)
      go_wp2
      go_quiet (fail)
      go_wp2
      go_roundw
      case rel => exact ⟨y, x % y, rfl, rfl, hy, hm1, hy', by omega, by rw [← HG.out, gc_step x y hx (by omega)], below_drewN hbl _⟩
      case measure => simp [intOf]; omega
theorem l1Most_c (a b : Int) (w : World) : Calls Tryd.prog 48 #[.int .i64 a, .int .i64 b] w (Pure (.int .i64 (max a b)) w) := by
  by_cases h : b < a
  all_goals
    go_enter Tryd.func48, Tryd.ntmps48
    go_wp2
    go_ret
    exact ⟨ret_int (by omega), rfl⟩
set_option maxHeartbeats 400000 in
theorem fraction_c (a b : Int) (w : World) (ha : 0 ≤ a) (hb : 0 < b) (ha' : a ≤ 1000000000000000) (hb' : b ≤ 1000000000000000) :
    Calls Tryd.prog 32 #[.int .i64 a, .int .i64 b] w (Ret (.tuple #[.int .i64 (a / gc a b), .int .i64 (b / gc a b)]) w) := by
  have hg := gc_pos a b hb
  have hm : max a (-a) = a := by omega
  have HM := Lib.hid hm
  clear hm
  have hle := gc_le a b ha (by omega)
  go_enter Tryd.func32, Tryd.ntmps32
  go_wp2_with fail
  refine (gcd_c _ _ _ ha (by omega) ha' hb').mono ?_
  rintro e w1 ⟨rfl, hb1⟩
  go_wp2_with fail
  go_quiet (fail)
  go_wp2
  go_returns
  exact ⟨rfl, below_drewN hb1 _⟩
set_option maxHeartbeats 400000 in
theorem l2Reduce_c (a b : Int) (w : World) (ha : 0 ≤ a) (hb : 0 < b) (ha' : a ≤ 1000000000000000) (hb' : b ≤ 1000000000000000) :
    Calls Tryd.prog 33 #[.int .i64 a, .int .i64 b] w (Ret (.tuple #[.int .i64 (a / gc a b), .int .i64 (b / gc a b)]) w) := by
  have hm : max a (-a) = a := by omega
  go_enter Tryd.func33, Tryd.ntmps33
  go_wp2_with (go_at_call 48; refine (l1Most_c _ _ _).mono ?_; rintro e w' ⟨rfl, rfl⟩)
  go_loop [6, 7] (fun u v => ∃ x y : Int, u = .int .i64 x ∧ v = .int .i64 y ∧ 0 ≤ x ∧ 0 ≤ y ∧ x ≤ 1000000000000000 ∧ y ≤ 1000000000000000 ∧ gc x y = gc a b) (fun _ v => (intOf v).toNat)
  case atStart => exact ⟨a, b, rfl, rfl, ha, by omega, ha', hb', rfl⟩
  case round =>
    obtain ⟨x, y, rfl, rfl, hx, hy, hx', hy', hg⟩ := hrel
    have HG := Lib.hid hg
    clear hg
    by_cases h0 : y = 0
    · subst h0
      have hx0 : gc a b = x := by rw [← HG.out, gc_zero x hx]
      have hxp : 1 ≤ x := by rw [← hx0]; exact gc_pos a b hb
      have HX := Lib.hid hx0
      clear hx0
      go_wp2
      go_quiet (fail)
      go_wp2
      go_returns
      exact ⟨ret2 (vi (by rw [HX.out])) (vi (by rw [HX.out])), below_drewN (Below.refl _ _) _⟩
    · have hne : (y != 0) = true := by simpa using h0
      have hy1 : 1 ≤ y := by omega
      have hm1 := Int.emod_nonneg x h0
      have hm2 := Int.emod_lt_of_pos x (show 0 < y by omega)
      go_wp2
      go_round
      case rel => exact ⟨y, x % y, rfl, rfl, hy, hm1, hy', by omega, by rw [← HG.out, gc_step x y hx (by omega)]⟩
      case measure => simp [intOf]; omega
end Go.Proofs.YtdekdjpdpknelaaDoor
