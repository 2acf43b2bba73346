/- Contract of l1Rising. No condition but the sizes. -/
import Derived.Test.YtpjnlcppjcnlgaaGreatDoorAlIdx
namespace Go.Proofs.YtpjnlcppjcnlgaaGreatDoor
set_option linter.unusedVariables false
set_option linter.unusedSimpArgs false
open Go.RowKit
attribute [local irreducible] wpQuiet
theorem risL_asc {l : List Int} {k : Nat} {lo hi : Int} (h : k < l.length) (hc : ascO l k = false) : risL l lo hi = false := by unfold risL; rw [ascL_no h hc, Bool.false_and]
theorem risL_rng {l : List Int} {k : Nat} {lo hi : Int} (h : k < l.length) (hc : inR l[k] lo hi = false) : risL l lo hi = false := by unfold risL; rw [all_no (p := fun z => inR z lo hi) h hc, Bool.and_false]
set_option maxRecDepth 100000 in
set_option maxHeartbeats 2000000 in
theorem l1Rising_c (xs : List Int) (A : Option Addr) (c : Nat) (lo hi : Int) (w : World) (hr : Rd encI 1 w.heap.size w A xs) (hn : xs.length ≤ 2097152) :
    Calls Tryz.prog 59 #[.slice A xs.length c, .int .i64 lo, .int .i64 hi] w (Ret (.bool (risL xs lo hi)) w) := by
  go_enter Tryz.func59, Tryz.ntmps59
  go_wp2_with fail
  go_loopw [7] (fun i wr => ∃ k : Nat, k ≤ xs.length ∧ i = .int .i64 k ∧ (List.range k).all (ascO xs) = true ∧ (xs.take k).all (fun z => inR z lo hi) = true ∧ Below w.heap.size w wr) (fun i _ => xs.length - (intOf i).toNat)
  case atStart => exact ⟨0, Nat.zero_le _, rfl, rfl, rfl, Below.refl _ _⟩
  case round =>
    obtain ⟨k, hk, rfl, hall, hrng, hb⟩ := hrel
    have HA := Lib.hid hall
    have HR := Lib.hid hrng
    clear hall hrng
    by_cases hlt : k < xs.length
    · obtain ⟨b, off, rfl, hbs, d0⟩ := (hr.below hb).int hlt
      have hbw : b < wr.heap.size := Nat.lt_of_lt_of_le hbs hb.size
      have hov := over_cell wr
      have hk0' : (0 : Int) ≤ k := by omega
      have hk1' : (k : Int) ≤ xs.length := by omega
      have hk2' : (k : Int) < xs.length := by omega
      have H1 : Hid (∀ x : World, Calls Tryz.prog 47 #[.int .i64 xs[k], .int .i64 lo, .int .i64 hi] (over wr x) (Pure (.bool (inR xs[k] lo hi)) (over wr x))) := Lib.hid (fun x => l1In_c _ _ _ _)
      cases hz : inR xs[k] lo hi with
      | false =>
        have HV := Lib.hid (risL_rng hlt hz)
        rw [hz] at H1
        clear hz
        go_wp2_with fail
        refine wp_region_over (by kernel_rfl) (by kernel_rfl) ?_
        repeat (go_big_quiet_step (((go_at_call 47; exact Calls.over_pure (H1.out _)))))
        refine wpQuiet_nil ?_
        intro _ hwx1
        obtain ⟨x1, hwx1⟩ := hwx1
        subst hwx1
        go_wp2_with fail
        go_returns
        exact ⟨ret_bool HV.out.symm, below_via hb (over_below wr x1)⟩
      | true =>
        have HRN := Lib.hid (take_all (p := fun z => inR z lo hi) hlt HR.out hz)
        rw [hz] at H1
        clear hz
        by_cases hk0 : k = 0
        · have hkz : decide (0 < (k : Int)) = false := decide_eq_false (by omega)
          have hkz1 : decide (0 < k) = false := decide_eq_false (by omega)
          have HN := Lib.hid (range_next HA.out (show ascO xs k = true by subst hk0; exact ascO_0 _))
          clear hk0
          go_wp2_with fail
          refine wp_region_over (by kernel_rfl) (by kernel_rfl) ?_
          repeat (go_big_quiet_step (((go_at_call 47; exact Calls.over_pure (H1.out _)))))
          refine wpQuiet_nil ?_
          intro _ hwx1
          obtain ⟨x1, hwx1⟩ := hwx1
          subst hwx1
          go_wp2_with fail
          go_roundw
          case rel => exact ⟨k + 1, by omega, by go_num, HN.out, HRN.out, below_via hb (over_below wr x1)⟩
          case measure => simp [intOf]; omega
        · obtain ⟨j, hj⟩ : ∃ j, k = j + 1 := ⟨k - 1, by omega⟩
          have hjl : j < xs.length := by omega
          obtain ⟨b', off', hA, _, g0⟩ := (hr.below hb).int hjl
          obtain ⟨rfl, rfl⟩ := addr_eq hA
          have hkz : decide (0 < (k : Int)) = true := decide_eq_true (by omega)
          have hkz1 : decide (0 < k) = true := decide_eq_true (by omega)
          have hkz2 : 0 < k := by omega
          have hsub : IntKind.i64.wrap ((k : Int) - 1) = (j : Int) := by
            rw [IntWalk.i64_in _ (by omega)]; omega
          have hj0 : (0 : Int) ≤ j := by omega
          have hj1 : (j : Int) ≤ xs.length := by omega
          have hj2 : (j : Int) < xs.length := by omega
          have HP := Lib.hid (show ascO xs k = decide (xs[j] < xs[k]) by subst hj; exact ascO_s hlt)
          clear hk0 hj hA
          by_cases hd : xs[j] < xs[k]
          · have hd' : decide (xs[k] ≤ xs[j]) = false := decide_eq_false (by omega)
            have HN := Lib.hid (range_next HA.out (show ascO xs k = true by rw [HP.out]; exact decide_eq_true hd))
            clear hd
            go_wp2_with fail
            refine wp_region_over (by kernel_rfl) (by kernel_rfl) ?_
            repeat (go_big_quiet_step (((go_at_call 47; exact Calls.over_pure (H1.out _)))))
            refine wpQuiet_nil ?_
            intro _ hwx1
            obtain ⟨x1, hwx1⟩ := hwx1
            subst hwx1
            go_wp2_with fail
            go_roundw
            case rel => exact ⟨k + 1, by omega, by go_num, HN.out, HRN.out, below_via hb (over_below wr x1)⟩
            case measure => simp [intOf]; omega
          · have hd' : decide (xs[k] ≤ xs[j]) = true := decide_eq_true (by omega)
            have HV := Lib.hid (risL_asc (lo := lo) (hi := hi) hlt (show ascO xs k = false by rw [HP.out]; exact decide_eq_false hd))
            clear hd
            go_wp2_with fail
            refine wp_region_over (by kernel_rfl) (by kernel_rfl) ?_
            repeat (go_big_quiet_step (((go_at_call 47; exact Calls.over_pure (H1.out _)))))
            refine wpQuiet_nil ?_
            intro _ hwx1
            obtain ⟨x1, hwx1⟩ := hwx1
            subst hwx1
            go_wp2_with fail
            go_returns
            exact ⟨ret_bool HV.out.symm, below_via hb (over_below wr x1)⟩
    · have hke : k = xs.length := by omega
      have HV := Lib.hid (show risL xs lo hi = true by
        unfold risL ascL
        have h1 := HA.out
        have h2 := HR.out
        rw [hke] at h1 h2
        rw [List.take_length] at h2
        rw [h1, h2]; rfl)
      go_wp2_with fail
      go_returns
      exact ⟨ret_bool HV.out.symm, hb⟩
end Go.Proofs.YtpjnlcppjcnlgaaGreatDoor
