/- Contracts of the functions that ask whether a list are flaws: the program's loop. No condition but the size. -/
import Derived.Test.YtgjehnjpbekoeaaDoorFlGood2
namespace Go.Proofs.YtgjehnjpbekoeaaDoor
set_option linter.unusedVariables false
set_option linter.unusedSimpArgs false
open Go.RowKit
attribute [local irreducible] wpQuiet
set_option maxRecDepth 100000 in
set_option maxHeartbeats 4000000 in
theorem areFlaws_c (xs : List Flaw) (A : Option Addr) (c : Nat) (w : World) (hr : Rd encFlaw 4 w.heap.size w A xs) (hn : xs.length ≤ 1048576) :
    Calls Tryd.prog 26 #[.slice A xs.length c] w (Ret (.bool (goodFl xs)) w) := by
  go_enter Tryd.func26, Tryd.ntmps26
  go_wp2_with fail
  go_loopw [7] (fun i wr => ∃ k : Nat, k ≤ xs.length ∧ i = .int .i64 k ∧ (List.range k).all (okAtF xs) = true ∧ Below w.heap.size w wr) (fun i _ => xs.length - (intOf i).toNat)
  case atStart => exact ⟨0, Nat.zero_le _, rfl, rfl, Below.refl _ _⟩
  case round =>
    obtain ⟨k, hk, rfl, hall, hb⟩ := hrel
    have HA := Lib.hid hall
    clear hall
    by_cases hlt : k < xs.length
    · obtain ⟨b, off, rfl, hbs, d0, d1, d2, d3⟩ := (hr.below hb).atFlaw hlt
      have HN := Lib.hid (fun h => goodFl_no hlt h)
      go_wp2_with fail
      clear d0 d1 d2 d3
      have hW := New.of wr (encFlaw xs[k]) 43
      unfold encFlaw at hW
      generalize wr.alloc (.cells #[.int .i64 xs[k].row, .int .i64 xs[k].col, .int .i64 xs[k].code, .int .i64 xs[k].since] 43) = W at *
      obtain ⟨hWb, hWl, hWc⟩ := hW
      have e0 := hWc 0 _ rfl
      have e1 := hWc 1 _ rfl
      have e2 := hWc 2 _ rfl
      have e3 := hWc 3 _ rfl
      clear hWc
      have hbW := hb.trans (hWb.mono hb.size)
      obtain ⟨b', off', hA, hbs', d0, d1, d2, d3⟩ := (hr.below hbW).atFlaw hlt
      injection hA with hA; injection hA with hA1 hA2
      subst hA1 hA2
      have hbw : b < W.heap.size := Nat.lt_of_lt_of_le hbs hbW.size
      have hov := over_cell W
      have HC : Hid (∀ x : World, Calls Tryd.prog 50 #[.agg #[.int .i64 xs[k].row, .int .i64 xs[k].col, .int .i64 xs[k].code, .int .i64 xs[k].since]] (over W x) (Ret (.bool xs[k].ok) (over W x))) := Lib.hid (fun x => isFlaw_c _ _)
      by_cases hok : xs[k].ok = true
      · rw [hok] at HC
        by_cases hk0 : k = 0
        · have HK := Lib.hid (show okAtF xs k = true by subst hk0; exact (okAtF_0 hlt).trans hok)
          have hkz : decide (0 < (k : Int)) = false := decide_eq_false (by omega)
          have hkz1 : decide (0 < k) = false := decide_eq_false (by omega)
          clear hk0 hok
          refine wp_region_over (by kernel_rfl) (by kernel_rfl) ?_
          repeat (go_big_quiet_step (((go_at_call 50; exact Calls.over_of (HC.out _)))))
          refine wpQuiet_nil ?_
          intro _ hwx1
          obtain ⟨x1, hwx1⟩ := hwx1
          subst hwx1
          go_wp2_with fail
          go_roundw
          case rel => exact ⟨k + 1, by omega, by go_num, range_next HA.out HK.out, below_via hbW (over_below W x1)⟩
          case measure => simp [intOf]; omega
        · obtain ⟨j, hj⟩ : ∃ j, k = j + 1 := ⟨k - 1, by omega⟩
          have hj' : j < xs.length := by omega
          obtain ⟨b', off', hA, hbs'', g0, g1, g2, g3⟩ := (hr.below hbW).atFlaw hj'
          injection hA with hA; injection hA with hA1 hA2
          subst hA1 hA2
          clear hbs'' hbs'
          have hkz : decide (0 < (k : Int)) = true := decide_eq_true (by omega)
          have hkz1 : decide (0 < k) = true := decide_eq_true (by omega)
          have hkz2 : 0 < k := by omega
          have hsub : IntKind.i64.wrap ((k : Int) - 1) = (j : Int) := by
            rw [IntWalk.i64_in _ (by omega)]; omega
          have hj0 : (0 : Int) ≤ j := by omega
          have hj1 : (j : Int) ≤ xs.length := by omega
          have hj2 : (j : Int) < xs.length := by omega
          have HE := Lib.hid (show okAtF xs k = (xs[k].ok && xs[j].bef xs[k]) by subst hj; exact okAtF_s hlt)
          have HD : Hid (∀ x : World, Calls Tryd.prog 52 #[.agg #[.int .i64 xs[j].row, .int .i64 xs[j].col, .int .i64 xs[j].code, .int .i64 xs[j].since], .agg #[.int .i64 xs[k].row, .int .i64 xs[k].col, .int .i64 xs[k].code, .int .i64 xs[k].since]] (over W x) (Ret (.int .i64 (cmpFl xs[j] xs[k])) (over W x))) := Lib.hid (fun x => compareFlaws_c _ _ _)
          have HF := Lib.hid (show xs[j].bef xs[k] = decide (cmpFl xs[j] xs[k] < 0) from decide_eq_decide.2 (Iff.of_eq (cmpFl_lt (okAtF_ok hj' (all_at HA.out (by omega))) hok).symm))
          generalize cmpFl xs[j] xs[k] = q at HD HF
          by_cases hbf : q < 0
          · have HK := Lib.hid (show okAtF xs k = true by rw [HE.out, hok, HF.out, decide_eq_true hbf]; rfl)
            have hq : decide (0 ≤ q) = false := decide_eq_false (by omega)
            clear hk0 hok hj HF HE
            refine wp_region_over (by kernel_rfl) (by kernel_rfl) ?_
            repeat (go_big_quiet_step (first | (go_at_call 50; exact Calls.over_of (HC.out _)) | (go_at_call 52; exact Calls.over_of (HD.out _))))
            refine wpQuiet_nil ?_
            intro _ hwx1
            obtain ⟨x1, hwx1⟩ := hwx1
            subst hwx1
            go_wp2_with fail
            go_roundw
            case rel => exact ⟨k + 1, by omega, by go_num, range_next HA.out HK.out, below_via hbW (over_below W x1)⟩
            case measure => simp [intOf]; omega
          · have HK := Lib.hid (show okAtF xs k = false by rw [HE.out, hok, HF.out, decide_eq_false hbf]; rfl)
            have hq : decide (0 ≤ q) = true := decide_eq_true (by omega)
            clear hk0 hok hj HF HE
            refine wp_region_over (by kernel_rfl) (by kernel_rfl) ?_
            repeat (go_big_quiet_step (first | (go_at_call 50; exact Calls.over_of (HC.out _)) | (go_at_call 52; exact Calls.over_of (HD.out _))))
            refine wpQuiet_nil ?_
            intro _ hwx1
            obtain ⟨x1, hwx1⟩ := hwx1
            subst hwx1
            go_wp2_with fail
            go_returns
            exact ⟨ret_bool (HN.out HK.out).symm, below_via hbW (over_below W x1)⟩
      · have hok' : xs[k].ok = false := by simpa using hok
        rw [hok'] at HC
        have HK := Lib.hid (okAtF_no hlt hok')
        clear hok hok'
        refine wp_region_over (by kernel_rfl) (by kernel_rfl) ?_
        repeat (go_big_quiet_step (((go_at_call 50; exact Calls.over_of (HC.out _)))))
        refine wpQuiet_nil ?_
        intro _ hwx1
        obtain ⟨x1, hwx1⟩ := hwx1
        subst hwx1
        go_wp2_with fail
        go_returns
        exact ⟨ret_bool (HN.out HK.out).symm, below_via hbW (over_below W x1)⟩
    · have hke : xs.length ≤ k := by omega
      have HV := Lib.hid (goodFl_all (xs := xs) (by rw [← (show k = xs.length by omega)]; exact HA.out))
      go_wp2_with fail
      go_returns
      exact ⟨ret_bool HV.out, hb⟩
end Go.Proofs.YtgjehnjpbekoeaaDoor
