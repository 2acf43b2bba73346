/- Contract of slices.BinarySearchFunc at holds; how often an owner has an item. No condition but the sizes. -/
import Derived.Test.YtebkfcdijjcefaaDoorHoPlain
import Derived.Test.YtebkfcdijjcefaaDoorHoGood3
import Derived.Laws.Shifts
namespace Go.Proofs.YtebkfcdijjcefaaDoor
set_option linter.unusedVariables false
set_option linter.unusedSimpArgs false
open Go.RowKit
attribute [local irreducible] wpQuiet
theorem takeH_mem {xs : List Hold} {p : Hold → Bool} {i : Nat} (h : ∀ m (hm : m < xs.length), m < i → p xs[m] = true) : ∀ x ∈ xs.take i, p x = true := by
  intro x hx
  obtain ⟨m, hm, rfl⟩ := List.mem_take_iff_getElem.1 hx
  exact h m (by omega) (by omega)
theorem pre_up {xs : List Hold} (h : goodH xs = true) {o : ByteArray} {z : Int} {i j : Nat} (hij : i ≤ j) (hj : j < xs.length) (hp : (xs[i]'(by omega)).pre o z = false) : xs[j].pre o z = false := by
  cases hq : xs[j].pre o z with
  | false => rfl
  | true => rw [pre_down h hij hj hq] at hp; cases hp
set_option maxRecDepth 100000 in
set_option maxHeartbeats 2000000 in
theorem binH_c (xs : List Hold) (A : Option Addr) (c : Nat) (o : ByteArray) (z : Int) (w : World) (hr : Rd encHold 3 w.heap.size w A xs) (hg : goodH xs = true) :
    Calls Tryd.prog 57 #[.slice A xs.length c, .agg #[.string o, .int .i64 z, .int .i64 0], .func (.func 50) #[] #[]] w
      (Ret (.tuple #[.int .i64 (posH xs o z), .bool (hasH xs o z)]) w) := by
  have hn := goodH_len hg
  have HG := Lib.hid hg
  clear hg
  have hce := enters (P := Tryd.prog) Tryd.func50 (by kernel_rfl) rfl
  go_enter Tryd.func57, Tryd.ntmps57
  go_wp2_with fail
  have hW := New.of w [.string o, .int .i64 z, .int .i64 0] 30
  generalize w.alloc (.cells [.string o, .int .i64 z, .int .i64 0].toArray 30) = W at *
  obtain ⟨hWb, hWl, hWc⟩ := hW
  have e0 := hWc 0 _ rfl
  have e1 := hWc 1 _ rfl
  have e2 := hWc 2 _ rfl
  clear hWc
  go_loopw [9, 10] (fun u v wr => ∃ i j : Nat, i ≤ j ∧ j ≤ xs.length ∧ u = .int .i64 i ∧ v = .int .i64 j ∧ (∀ m (hm : m < xs.length), m < i → xs[m].pre o z = true) ∧ (∀ m (hm : m < xs.length), j ≤ m → xs[m].pre o z = false) ∧ Below W.heap.size W wr) (fun u v _ => (intOf v).toNat - (intOf u).toNat)
  case atStart => exact ⟨0, xs.length, by omega, by omega, rfl, rfl, fun m hm h => absurd h (by omega), fun m hm h => absurd hm (by omega), Below.refl _ _⟩
  case round =>
    obtain ⟨i, j, hij, hj, rfl, rfl, hlo, hhi, hb⟩ := hrel
    have HLO := Lib.hid hlo
    have HHI := Lib.hid hhi
    clear hlo hhi
    by_cases hlt : i < j
    · obtain ⟨h, hh⟩ : ∃ h : Nat, ((i : Int) + (j : Int)) / 2 = (h : Int) := ⟨(i + j) / 2, by omega⟩
      have hih : i ≤ h := by omega
      have hhj : h < j := by omega
      have hhn : h < xs.length := by omega
      have HH := Lib.hid hh
      clear hh
      go_wp2_with fail
      rw [HH.out]
      clear HH
      obtain ⟨b, off, rfl, hbs, d0, d1, d2⟩ := ((hr.below hWb).below (hb.mono hWb.size)).atHold hhn
      have hbw : b < wr.heap.size := Nat.lt_of_lt_of_le hbs (Nat.le_trans hWb.size hb.size)
      have hwl : w.heap.size < wr.heap.size := Nat.lt_of_lt_of_le hWl hb.size
      have f0 := (hb.cell (p := ⟨w.heap.size, 0, none⟩) hWl).trans e0
      have f1 := (hb.cell (p := ⟨w.heap.size, 1, none⟩) hWl).trans e1
      have f2 := (hb.cell (p := ⟨w.heap.size, 2, none⟩) hWl).trans e2
      have hov := over_cell wr
      have HD : Hid (∀ x : World, Calls Tryd.prog 50 #[.agg #[.string xs[h].owner, .int .i64 xs[h].item, .int .i64 xs[h].count], .agg #[.string o, .int .i64 z, .int .i64 0]] (over wr x) (Ret (.int .i64 (befI xs[h].owner o xs[h].item z)) (over wr x))) := Lib.hid (fun x => compareHolds_c xs[h] ⟨o, z, 0⟩ _)
      have HF := Lib.hid (show xs[h].pre o z = decide (befI xs[h].owner o xs[h].item z < 0) from rfl)
      generalize befI xs[h].owner o xs[h].item z = q at HD HF
      have hi0 : (0 : Int) ≤ (h : Int) := by omega
      have hi1 : (h : Int) < (xs.length : Int) := by omega
      by_cases hq0 : q < 0
      · have hq : decide (q < 0) = true := decide_eq_true hq0
        have HP := Lib.hid (show xs[h].pre o z = true by rw [HF.out, hq])
        clear hq0 HF
        refine wp_region_over (by kernel_rfl) (by kernel_rfl) ?_
        repeat (go_big_quiet_step (((go_at_call 50; exact Calls.over_of (HD.out _)))))
        refine wpQuiet_nil ?_
        intro _ hwx1
        obtain ⟨x1, hwx1⟩ := hwx1
        subst hwx1
        go_wp2_with fail
        go_roundw
        case rel => exact ⟨h + 1, j, by omega, hj, by go_num, rfl, fun m hm hmi => pre_down HG.out (by omega) hhn HP.out, HHI.out, below_via hb (over_below wr x1)⟩
        case measure => simp [intOf]; omega
      · have hq : decide (q < 0) = false := decide_eq_false hq0
        have HP := Lib.hid (show xs[h].pre o z = false by rw [HF.out, hq])
        clear hq0 HF
        refine wp_region_over (by kernel_rfl) (by kernel_rfl) ?_
        repeat (go_big_quiet_step (((go_at_call 50; exact Calls.over_of (HD.out _)))))
        refine wpQuiet_nil ?_
        intro _ hwx1
        obtain ⟨x1, hwx1⟩ := hwx1
        subst hwx1
        go_wp2_with fail
        go_roundw
        case rel => exact ⟨i, h, hih, by omega, rfl, rfl, HLO.out, fun m hm hmi => pre_up HG.out hmi hm HP.out, below_via hb (over_below wr x1)⟩
        case measure => simp [intOf]; omega
    · have hij' : i = j := by omega
      subst hij'
      have hpos : posH xs o z = i := posH_eq (takeH_mem HLO.out) hj (fun h => HHI.out i h (Nat.le_refl _))
      have hbl : Below w.heap.size w wr := hWb.trans (hb.mono hWb.size)
      by_cases hin : i < xs.length
      · obtain ⟨b, off, rfl, hbs, d0, d1, d2⟩ := ((hr.below hWb).below (hb.mono hWb.size)).atHold hin
        have hbw : b < wr.heap.size := Nat.lt_of_lt_of_le hbs (Nat.le_trans hWb.size hb.size)
        have hwl : w.heap.size < wr.heap.size := Nat.lt_of_lt_of_le hWl hb.size
        have f0 := (hb.cell (p := ⟨w.heap.size, 0, none⟩) hWl).trans e0
        have f1 := (hb.cell (p := ⟨w.heap.size, 1, none⟩) hWl).trans e1
        have f2 := (hb.cell (p := ⟨w.heap.size, 2, none⟩) hWl).trans e2
        have hov := over_cell wr
        have HD : Hid (∀ x : World, Calls Tryd.prog 50 #[.agg #[.string xs[i].owner, .int .i64 xs[i].item, .int .i64 xs[i].count], .agg #[.string o, .int .i64 z, .int .i64 0]] (over wr x) (Ret (.int .i64 (befI xs[i].owner o xs[i].item z)) (over wr x))) := Lib.hid (fun x => compareHolds_c xs[i] ⟨o, z, 0⟩ _)
        have HF := Lib.hid (show hasH xs o z = decide (befI xs[i].owner o xs[i].item z = 0) by
          unfold hasH
          rw [hpos, List.getElem?_eq_getElem hin]
          simp only [befI_zero, Hold.at_]
          simp)
        have HPO := Lib.hid hpos
        clear hpos
        generalize befI xs[i].owner o xs[i].item z = q at HD HF
        have hl1 : decide ((i : Int) < (xs.length : Int)) = true := decide_eq_true (by omega)
        have hl2 : decide (i < xs.length) = true := decide_eq_true hin
        by_cases hq0 : q = 0
        · subst hq0
          have HE := Lib.hid (show hasH xs o z = true by rw [HF.out]; rfl)
          clear HF
          go_wp2_with fail
          refine wp_region_over (by kernel_rfl) (by kernel_rfl) ?_
          repeat (go_big_quiet_step (((go_at_call 50; exact Calls.over_of (HD.out _)))))
          refine wpQuiet_nil ?_
          intro _ hwx1
          obtain ⟨x1, hwx1⟩ := hwx1
          subst hwx1
          go_wp2_with fail
          go_returns
          exact ⟨ret2 (vi (by rw [HPO.out])) (vb (by rw [HE.out])), below_via hbl (over_below wr x1)⟩
        · have hq : (q == 0) = false := by simpa using hq0
          have HE := Lib.hid (show hasH xs o z = false by rw [HF.out]; simpa using hq0)
          clear HF
          go_wp2_with fail
          refine wp_region_over (by kernel_rfl) (by kernel_rfl) ?_
          repeat (go_big_quiet_step (((go_at_call 50; exact Calls.over_of (HD.out _)))))
          refine wpQuiet_nil ?_
          intro _ hwx1
          obtain ⟨x1, hwx1⟩ := hwx1
          subst hwx1
          go_wp2_with fail
          go_returns
          exact ⟨ret2 (vi (by rw [HPO.out])) (vb (by rw [HE.out])), below_via hbl (over_below wr x1)⟩
      · have hl1 : decide ((i : Int) < (xs.length : Int)) = false := decide_eq_false (by omega)
        have hl2 : decide (i < xs.length) = false := decide_eq_false hin
        have HE := Lib.hid (show hasH xs o z = false by
          unfold hasH
          rw [hpos, List.getElem?_eq_none (by omega)])
        have HPO := Lib.hid hpos
        clear hpos
        go_wp2_with fail
        refine wp_region_over (by kernel_rfl) (by kernel_rfl) ?_
        repeat (go_big_quiet_step (fail))
        refine wpQuiet_nil ?_
        intro _ hwx1
        obtain ⟨x1, hwx1⟩ := hwx1
        subst hwx1
        go_wp2_with fail
        go_returns
        exact ⟨ret2 (vi (by rw [HPO.out])) (vb (by rw [HE.out])), below_via hbl (over_below wr x1)⟩
end Go.Proofs.YtebkfcdijjcefaaDoor
