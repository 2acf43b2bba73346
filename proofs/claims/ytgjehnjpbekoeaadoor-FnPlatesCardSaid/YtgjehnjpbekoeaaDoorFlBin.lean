/- Contract of slices.BinarySearchFunc at flaws. No condition but the sizes. -/
import Derived.Test.YtgjehnjpbekoeaaDoorFlPlain
import Derived.Laws.Shifts
namespace Go.Proofs.YtgjehnjpbekoeaaDoor
set_option linter.unusedVariables false
set_option linter.unusedSimpArgs false
open Go.RowKit
attribute [local irreducible] wpQuiet
set_option maxRecDepth 100000 in
set_option maxHeartbeats 2000000 in
theorem binFl_c (xs : List Flaw) (A : Option Addr) (c : Nat) (x : Flaw) (w : World) (hr : Rd encFlaw 4 w.heap.size w A xs) (hg : goodFl xs = true) (hx : x.ok = true) (hn : xs.length ≤ 1048576) :
    Calls Tryd.prog 51 #[.slice A xs.length c, .agg #[.int .i64 x.row, .int .i64 x.col, .int .i64 x.code, .int .i64 x.since], .func (.func 52) #[] #[]] w
      (Ret (.tuple #[.int .i64 (posFl xs x), .bool (hasFl xs x)]) w) := by
  have HG := Lib.hid hg
  have HXO := Lib.hid hx
  clear hg hx
  have hce := enters (P := Tryd.prog) Tryd.func52 (by kernel_rfl) rfl
  go_enter Tryd.func51, Tryd.ntmps51
  go_wp2_with fail
  have hW := New.of w [.int .i64 x.row, .int .i64 x.col, .int .i64 x.code, .int .i64 x.since] 43
  generalize w.alloc (.cells [.int .i64 x.row, .int .i64 x.col, .int .i64 x.code, .int .i64 x.since].toArray 43) = W at *
  obtain ⟨hWb, hWl, hWc⟩ := hW
  have e0 := hWc 0 _ rfl
  have e1 := hWc 1 _ rfl
  have e2 := hWc 2 _ rfl
  have e3 := hWc 3 _ rfl
  clear hWc
  go_loopw [9, 10] (fun u v wr => ∃ i j : Nat, i ≤ j ∧ j ≤ xs.length ∧ u = .int .i64 i ∧ v = .int .i64 j ∧ (∀ m (hm : m < xs.length), m < i → xs[m].pre' x = true) ∧ (∀ m (hm : m < xs.length), j ≤ m → xs[m].pre' x = false) ∧ Below W.heap.size W wr) (fun u v _ => (intOf v).toNat - (intOf u).toNat)
  case atStart => exact ⟨0, xs.length, by omega, by omega, rfl, rfl, fun m hm h => absurd h (by omega), fun m hm h => absurd hm (by omega), Below.refl _ _⟩
  case round =>
    obtain ⟨i, j, hij, hj, rfl, rfl, hlo, hhi, hb⟩ := hrel
    have HLO := Lib.hid hlo
    have HHI := Lib.hid hhi
    clear hlo hhi
    by_cases hlt : i < j
    · obtain ⟨h, hh⟩ : ∃ h : Nat, ((i : Int) + (j : Int)) / 2 = (h : Int) := ⟨(i + j) / 2, by omega⟩
      have hih : i ≤ h := by omega
      have hhj : h < j := by omega
      have hhn : h < xs.length := by omega
      have HH := Lib.hid hh
      clear hh
      go_wp2_with fail
      rw [HH.out]
      clear HH
      obtain ⟨b, off, rfl, hbs, d0, d1, d2, d3⟩ := ((hr.below hWb).below (hb.mono hWb.size)).atFlaw hhn
      have hbw : b < wr.heap.size := Nat.lt_of_lt_of_le hbs (Nat.le_trans hWb.size hb.size)
      have hwl : w.heap.size < wr.heap.size := Nat.lt_of_lt_of_le hWl hb.size
      have f0 := (hb.cell (p := ⟨w.heap.size, 0, none⟩) hWl).trans e0
      have f1 := (hb.cell (p := ⟨w.heap.size, 1, none⟩) hWl).trans e1
      have f2 := (hb.cell (p := ⟨w.heap.size, 2, none⟩) hWl).trans e2
      have f3 := (hb.cell (p := ⟨w.heap.size, 3, none⟩) hWl).trans e3
      have hov := over_cell wr
      have HD : Hid (∀ yw : World, Calls Tryd.prog 52 #[.agg #[.int .i64 xs[h].row, .int .i64 xs[h].col, .int .i64 xs[h].code, .int .i64 xs[h].since], .agg #[.int .i64 x.row, .int .i64 x.col, .int .i64 x.code, .int .i64 x.since]] (over wr yw) (Ret (.int .i64 (cmpFl xs[h] x)) (over wr yw))) := Lib.hid (fun yw => compareFlaws_c xs[h] x _)
      have HF := Lib.hid (show xs[h].pre' x = decide (cmpFl xs[h] x < 0) from decide_eq_decide.2 (Iff.of_eq (cmpFl_lt (goodFl_ok HG.out (by omega)) HXO.out).symm))
      generalize cmpFl xs[h] x = q at HD HF
      have hi0 : (0 : Int) ≤ (h : Int) := by omega
      have hi1 : (h : Int) < (xs.length : Int) := by omega
      by_cases hq0 : q < 0
      · have hq : decide (q < 0) = true := decide_eq_true hq0
        have HP := Lib.hid (show xs[h].pre' x = true by rw [HF.out, hq])
        clear hq0 HF
        refine wp_region_over (by kernel_rfl) (by kernel_rfl) ?_
        repeat (go_big_quiet_step (((go_at_call 52; exact Calls.over_of (HD.out _)))))
        refine wpQuiet_nil ?_
        intro _ hwx1
        obtain ⟨x1, hwx1⟩ := hwx1
        subst hwx1
        go_wp2_with fail
        go_roundw
        case rel => exact ⟨h + 1, j, by omega, hj, by go_num, rfl, fun m hm hmi => pre_downF HG.out (by omega) hhn HP.out, HHI.out, below_via hb (over_below wr x1)⟩
        case measure => simp [intOf]; omega
      · have hq : decide (q < 0) = false := decide_eq_false hq0
        have HP := Lib.hid (show xs[h].pre' x = false by rw [HF.out, hq])
        clear hq0 HF
        refine wp_region_over (by kernel_rfl) (by kernel_rfl) ?_
        repeat (go_big_quiet_step (((go_at_call 52; exact Calls.over_of (HD.out _)))))
        refine wpQuiet_nil ?_
        intro _ hwx1
        obtain ⟨x1, hwx1⟩ := hwx1
        subst hwx1
        go_wp2_with fail
        go_roundw
        case rel => exact ⟨i, h, hih, by omega, rfl, rfl, HLO.out, fun m hm hmi => pre_upF HG.out hmi hm HP.out, below_via hb (over_below wr x1)⟩
        case measure => simp [intOf]; omega
    · have hij' : i = j := by omega
      subst hij'
      have hpos : posFl xs x = i := posFl_eq (takeF_mem HLO.out) hj (fun h => HHI.out i h (Nat.le_refl _))
      have hbl : Below w.heap.size w wr := hWb.trans (hb.mono hWb.size)
      by_cases hin : i < xs.length
      · obtain ⟨b, off, rfl, hbs, d0, d1, d2, d3⟩ := ((hr.below hWb).below (hb.mono hWb.size)).atFlaw hin
        have hbw : b < wr.heap.size := Nat.lt_of_lt_of_le hbs (Nat.le_trans hWb.size hb.size)
        have hwl : w.heap.size < wr.heap.size := Nat.lt_of_lt_of_le hWl hb.size
        have f0 := (hb.cell (p := ⟨w.heap.size, 0, none⟩) hWl).trans e0
        have f1 := (hb.cell (p := ⟨w.heap.size, 1, none⟩) hWl).trans e1
        have f2 := (hb.cell (p := ⟨w.heap.size, 2, none⟩) hWl).trans e2
        have f3 := (hb.cell (p := ⟨w.heap.size, 3, none⟩) hWl).trans e3
        have hov := over_cell wr
        have HD : Hid (∀ yw : World, Calls Tryd.prog 52 #[.agg #[.int .i64 xs[i].row, .int .i64 xs[i].col, .int .i64 xs[i].code, .int .i64 xs[i].since], .agg #[.int .i64 x.row, .int .i64 x.col, .int .i64 x.code, .int .i64 x.since]] (over wr yw) (Ret (.int .i64 (cmpFl xs[i] x)) (over wr yw))) := Lib.hid (fun yw => compareFlaws_c xs[i] x _)
        have HF := Lib.hid (show hasFl xs x = decide (cmpFl xs[i] x = 0) by
          unfold hasFl
          rw [hpos, List.getElem?_eq_getElem hin]
          exact decide_eq_decide.2 (Iff.of_eq (cmpFl_zero (goodFl_ok HG.out hin) HXO.out).symm))
        have HPO := Lib.hid hpos
        clear hpos
        generalize cmpFl xs[i] x = q at HD HF
        have hl1 : decide ((i : Int) < (xs.length : Int)) = true := decide_eq_true (by omega)
        have hl2 : decide (i < xs.length) = true := decide_eq_true hin
        by_cases hq0 : q = 0
        · subst hq0
          have HE := Lib.hid (show hasFl xs x = true by rw [HF.out]; rfl)
          clear HF
          go_wp2_with fail
          refine wp_region_over (by kernel_rfl) (by kernel_rfl) ?_
          repeat (go_big_quiet_step (((go_at_call 52; exact Calls.over_of (HD.out _)))))
          refine wpQuiet_nil ?_
          intro _ hwx1
          obtain ⟨x1, hwx1⟩ := hwx1
          subst hwx1
          go_wp2_with fail
          go_returns
          exact ⟨ret2 (vi (by rw [HPO.out])) (vb (by rw [HE.out])), below_via hbl (over_below wr x1)⟩
        · have hq : (q == 0) = false := by simpa using hq0
          have HE := Lib.hid (show hasFl xs x = false by rw [HF.out]; simpa using hq0)
          clear HF
          go_wp2_with fail
          refine wp_region_over (by kernel_rfl) (by kernel_rfl) ?_
          repeat (go_big_quiet_step (((go_at_call 52; exact Calls.over_of (HD.out _)))))
          refine wpQuiet_nil ?_
          intro _ hwx1
          obtain ⟨x1, hwx1⟩ := hwx1
          subst hwx1
          go_wp2_with fail
          go_returns
          exact ⟨ret2 (vi (by rw [HPO.out])) (vb (by rw [HE.out])), below_via hbl (over_below wr x1)⟩
      · have hl1 : decide ((i : Int) < (xs.length : Int)) = false := decide_eq_false (by omega)
        have hl2 : decide (i < xs.length) = false := decide_eq_false hin
        have HE := Lib.hid (show hasFl xs x = false by
          unfold hasFl
          rw [hpos, List.getElem?_eq_none (by omega)])
        have HPO := Lib.hid hpos
        clear hpos
        go_wp2_with fail
        refine wp_region_over (by kernel_rfl) (by kernel_rfl) ?_
        repeat (go_big_quiet_step (fail))
        refine wpQuiet_nil ?_
        intro _ hwx1
        obtain ⟨x1, hwx1⟩ := hwx1
        subst hwx1
        go_wp2_with fail
        go_returns
        exact ⟨ret2 (vi (by rw [HPO.out])) (vb (by rw [HE.out])), below_via hbl (over_below wr x1)⟩
end Go.Proofs.YtgjehnjpbekoeaaDoor
