/- Contract of the function by which the laws ask whether marks on holds are held. No condition but the size. -/
import Derived.Test.YtbkdapnnpmahkaaMkHold
import Derived.Test.YtbkdapnnpmahkaaOver
import Derived.Test.YtbkdapnnpmahkaaCmpS
namespace Go.Proofs.Ytbkdapnnpmahkaa
set_option linter.unusedVariables false
set_option linter.unusedSimpArgs false
open Go.RowKit
attribute [local irreducible] wpQuiet
set_option maxRecDepth 100000 in
set_option maxHeartbeats 4000000 in
theorem heldHoldS_c (n : Nat) (A : Option Addr) (c : Nat) (k0 : Int) (w : World) (hr : Rd encHold 3 w.heap.size w A (marksHold k0 n)) (hn : n ≤ 2097152) (h0 : 0 ≤ k0) (h1 : k0 ≤ 1099511627776) :
    Calls Try.prog 11 #[.slice A n c, .int .i64 k0] w (Ret (.int .i64 (k0 + 3 * n)) w) := by
  go_enter Try.func11, Try.ntmps11
  go_wp2_with fail
  go_loopw [1, 5] (fun u v wr => ∃ (i : Nat) (kk : Int), i ≤ n ∧ Hid (kk = k0 + 3 * (i : Int)) ∧ k0 ≤ kk ∧ kk ≤ 1109511627776 ∧ u = .int .i64 kk ∧ v = .int .i64 i ∧ Below w.heap.size w wr) (fun _ v _ => n - (intOf v).toNat)
  case atStart => exact ⟨0, k0, Nat.zero_le _, Lib.hid (by simp), by omega, by omega, rfl, rfl, Below.refl _ _⟩
  case round =>
    obtain ⟨i, kk, hi', hkk, hk0, hk1, rfl, rfl, hb⟩ := hrel
    by_cases hlt : i < n
    · obtain ⟨b, off, rfl, hbs, d0, d1, d2⟩ := (hr.below hb).atHold (i := i) (by rw [marksHold_len]; exact hlt)
      rw [marksHold_get, ← hkk.out] at d0 d1 d2
      unfold mkHold at d0 d1 d2
      simp only at d0 d1 d2
      have hbw : b < wr.heap.size := Nat.lt_of_lt_of_le hbs hb.size
      have hov := over_cell wr
      have HC : Hid (∀ x : World, Calls Try.prog 27 #[.int .i64 kk] (over wr x) (Ret (.string (mtext kk)) (over wr x))) := Lib.hid (fun x => markText_c _ _ (by omega) (by omega))
      go_wp2_with fail
      refine wp_region_over (by kernel_rfl) (by kernel_rfl) ?_
      repeat (go_big_quiet_step (((go_at_call 27; exact Calls.over_of (HC.out _)))))
      refine wpQuiet_nil ?_
      intro _ hwx1
      obtain ⟨x1, hwx1⟩ := hwx1
      subst hwx1
      obtain ⟨W1, hW1⟩ : ∃ W1, over wr x1 = W1 := ⟨_, rfl⟩
      have hbW := over_below wr x1
      rw [hW1] at hbW ⊢
      clear hW1 hov
      have d1 := (hbW.cell (p := ⟨b, _, none⟩) hbw).trans d1
      have d2 := (hbW.cell (p := ⟨b, _, none⟩) hbw).trans d2
      go_wp2_with fail
      go_roundw
      case rel => exact ⟨i + 1, kk + 3, by omega, Lib.hid (by have := hkk.out; omega), by omega, by have := hkk.out; omega, vi (by omega), by go_num, below_via hb hbW⟩
      case measure => simp [intOf]; omega
    · have hie : i = n := by omega
      subst hie
      go_wp2_with fail
      go_returns
      exact ⟨ret_int (by have := hkk.out; omega), hb⟩
end Go.Proofs.Ytbkdapnnpmahkaa
