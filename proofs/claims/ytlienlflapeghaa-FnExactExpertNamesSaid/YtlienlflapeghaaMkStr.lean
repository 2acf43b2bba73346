/- Contracts of the functions by which the laws mark slices of strings, and ask whether the marks are held. -/
import Derived.Test.YtlienlflapeghaaScal
import Derived.Test.YtlienlflapeghaaMarkText
import Derived.Test.YtlienlflapeghaaCmpS
import Derived.Test.YtlienlflapeghaaOver
namespace Go.Proofs.Ytlienlflapeghaa
set_option linter.unusedVariables false
set_option linter.unusedSimpArgs false
open Go.RowKit
def marksS (k : Int) (n : Nat) : List ByteArray := (List.range n).map fun i : Nat => mtext (k + (i : Int))
theorem marksS_len (k : Int) (n : Nat) : (marksS k n).length = n := by simp [marksS]
theorem marksS_get (k : Int) (n i : Nat) (h : i < (marksS k n).length) : (marksS k n)[i] = mtext (k + (i : Int)) := by simp [marksS]
set_option maxHeartbeats 400000 in
theorem markStringS_c (xs : List ByteArray) (A : Option Addr) (c : Nat) (k0 : Int) (w : World) (lo hi : Nat) (o : Own encS 1 lo hi w A xs) (hn : xs.length ≤ 2097152) (h0 : 0 ≤ k0) (h1 : k0 ≤ 1099511627776) :
    Calls Try.prog 11 #[.slice A xs.length c, .int .i64 k0] w fun e w' => e = .returned (.int .i64 (k0 + xs.length)) ∧ Fr lo hi w w' ∧ Own encS 1 lo hi w' A (marksS k0 xs.length) := by
  by_cases hz : xs.length = 0
  · have hz' : (xs.length : Int) ≤ 0 := by omega
    go_enter Try.func11, Try.ntmps11
    go_wp2_with fail
    refine wp_loop_rounds 1 ?_
    rw [rounds_succ]
    go_wp2_with fail
    go_returns
    exact ⟨ret_int (by omega), Fr.refl _ _ _, by rw [hz]; exact Own.nil o.1⟩
  · obtain ⟨b, off, rfl, hlo, hhi, hM⟩ := Mk.begin_ (f := fun i : Nat => mtext (k0 + (i : Int))) o (by omega) encS_len
    have hsz := o.1
    clear o
    go_enter Try.func11, Try.ntmps11
    go_wp2_with fail
    go_loopw [1, 5] (fun u v wr => ∃ i : Nat, i ≤ xs.length ∧ u = .int .i64 (k0 + (i : Int)) ∧ v = .int .i64 i ∧ Mk encS (fun i : Nat => mtext (k0 + (i : Int))) 1 b off xs.length i [] wr ∧ Fr lo hi w wr) (fun _ v _ => xs.length - (intOf v).toNat)
    case atStart => exact ⟨0, Nat.zero_le _, by simp, rfl, hM, Fr.refl _ _ _⟩
    case round =>
      obtain ⟨i, hi', rfl, rfl, hm, hfr⟩ := hrel
      clear hM
      by_cases hlt : i < xs.length
      · obtain ⟨v0, e0⟩ := hm.at_ hlt (j := 0) (by omega)
        have hff := hm.free
        simp only [Nat.mul_one, Nat.add_zero] at e0
        go_wp2_with fail
        refine (markText_c _ _ (by omega) (by omega)).mono ?_
        rintro e wt ⟨rfl, hbt⟩
        have hm2 := hm.below hbt
        have hfr2 := hfr.then_ hbt
        have hff2 := hm2.free
        obtain ⟨v1, e1⟩ := hm2.at_ hlt (j := 0) (by omega)
        have hs1 := hm2.set_ hlt (by decide) encS_len (.string (mtext (k0 + (i : Int))))
        simp only [Nat.mul_one, Nat.add_zero, List.length_nil, List.nil_append] at e1 hs1
        have hd1 := hs1.done
        go_wp2_with fail
        go_roundw
        case rel => exact ⟨i + 1, by omega, vi (by omega), by go_num, hd1, hfr2.setCell (p := ⟨b, off + i, none⟩) hlo hhi _⟩
        case measure => simp [intOf]; omega
      · have hie : i = xs.length := by omega
        subst hie
        go_wp2_with fail
        go_returns
        exact ⟨rfl, hfr, hm.own hlo hhi (Nat.le_trans hsz hfr.size)⟩
set_option maxHeartbeats 400000 in
theorem heldStringS_c (n : Nat) (A : Option Addr) (c : Nat) (k0 : Int) (w : World) (hr : Rd encS 1 w.heap.size w A (marksS k0 n)) (hn : n ≤ 2097152) (h0 : 0 ≤ k0) (h1 : k0 ≤ 1099511627776) :
    Calls Try.prog 12 #[.slice A n c, .int .i64 k0] w (Ret (.int .i64 (k0 + n)) w) := by
  go_enter Try.func12, Try.ntmps12
  go_wp2_with fail
  go_loopw [1, 5] (fun u v wr => ∃ i : Nat, i ≤ n ∧ u = .int .i64 (k0 + (i : Int)) ∧ v = .int .i64 i ∧ Below w.heap.size w wr) (fun _ v _ => n - (intOf v).toNat)
  case atStart => exact ⟨0, Nat.zero_le _, by simp, rfl, Below.refl _ _⟩
  case round =>
    obtain ⟨i, hi', rfl, rfl, hb⟩ := hrel
    by_cases hlt : i < n
    · obtain ⟨b, off, rfl, hbs, d0⟩ := (hr.below hb).str (i := i) (by rw [marksS_len]; exact hlt)
      rw [marksS_get] at d0
      have hbw : b < wr.heap.size := Nat.lt_of_lt_of_le hbs hb.size
      have hov := over_cell wr
      have HC : Hid (∀ x : World, Calls Try.prog 25 #[.int .i64 (k0 + (i : Int))] (over wr x) (Ret (.string (mtext (k0 + (i : Int)))) (over wr x))) := Lib.hid (fun x => markText_c _ _ (by omega) (by omega))
      go_wp2_with fail
      refine wp_region_over (by kernel_rfl) (by kernel_rfl) ?_
      repeat (go_big_quiet_step (((go_at_call 25; exact Calls.over_of (HC.out _)))))
      refine wpQuiet_nil ?_
      intro _ hwx1
      obtain ⟨x1, hwx1⟩ := hwx1
      subst hwx1
      go_wp2_with fail
      go_roundw
      case rel => exact ⟨i + 1, by omega, vi (by omega), by go_num, below_via hb (over_below wr x1)⟩
      case measure => simp [intOf]; omega
    · have hie : i = n := by omega
      subst hie
      go_wp2_with fail
      go_returns
      exact ⟨rfl, hb⟩
end Go.Proofs.Ytlienlflapeghaa
