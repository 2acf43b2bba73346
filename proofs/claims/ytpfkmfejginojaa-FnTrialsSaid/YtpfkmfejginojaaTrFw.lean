/- FewestTrials: the contracts of the program and the reference. No condition but the sizes. -/
import Derived.Test.YtpfkmfejginojaaTrSb
namespace Go.Proofs.Ytpfkmfejginojaa
set_option linter.unusedVariables false
set_option linter.unusedSimpArgs false
open Go.RowKit
attribute [local irreducible] wpQuiet
theorem ask_parts {xs : List Trial} {o : Odds} {num den : Int} (h : askB xs o num den = true) : goodT xs = true ∧ isOd o.real o.fake = true ∧ 1 ≤ num ∧ num ≤ den ∧ den ≤ 1000 := by
  unfold askB at h
  simp only [Bool.and_eq_true, inR_iff] at h
  exact ⟨h.1.1.1, h.1.1.2, h.2.1, h.2.2, h.1.2.2⟩
def fwV (xs : List Trial) (o : Odds) (num den : Int) : List Int := if askB xs o num den = true then (bestG xs o num den beforeL (2 ^ xs.length)).1 else []
def fwB (xs : List Trial) (o : Odds) (num den : Int) : Bool := askB xs o num den && (bestG xs o num den beforeL (2 ^ xs.length)).2
section
variable {xs : List Trial} {o : Odds} {num den : Int}
theorem fwV_no (h : askB xs o num den = false) : fwV xs o num den = [] := by simp [fwV, h]
theorem fwB_no (h : askB xs o num den = false) : fwB xs o num den = false := by simp [fwB, h]
theorem fwV_yes (h : askB xs o num den = true) : fwV xs o num den = (bestG xs o num den beforeL (2 ^ xs.length)).1 := by simp [fwV, h]
theorem fwB_yes (h : askB xs o num den = true) : fwB xs o num den = (bestG xs o num den beforeL (2 ^ xs.length)).2 := by simp [fwB, h]
theorem fwV_len (xs : List Trial) (o : Odds) (num den : Int) : (fwV xs o num den).length ≤ 2097152 := by
  cases h : askB xs o num den with
  | false => rw [fwV_no h]; simp
  | true =>
    rw [fwV_yes h]
    have h1 := good_len (ask_parts h).1
    have h2 := bestG_len (xs := xs) (o := o) (num := num) (den := den) (lt := beforeL) (2 ^ xs.length)
    omega
theorem ask_num (h1 : goodT xs = true) (h2 : isOd o.real o.fake = true) (h3 : inR num 1 den = true) : askB xs o num den = decide (den ≤ 1000) := by
  have h4 := inR_iff.1 h3
  unfold askB
  rw [h1, h2, h3, Bool.and_true, Bool.true_and, Bool.true_and]
  by_cases h : den ≤ 1000
  · rw [decide_eq_true h]; rw [inR_iff]; omega
  · rw [decide_eq_false h]
    cases hq : inR den 1 1000 with
    | false => rfl
    | true => have := inR_iff.1 hq; omega
end
set_option maxRecDepth 100000 in
set_option maxHeartbeats 1000000 in
theorem specFewestTrials_c (xs : List Trial) (A : Option Addr) (c : Nat) (o : Odds) (num den : Int) (w : World) (hr : Rd encTrial 3 w.heap.size w A xs) (hn : xs.length ≤ 1048576) (hz2 : -9223372036854775808 ≤ num ∧ num ≤ 9223372036854775807) (hz3 : -9223372036854775808 ≤ den ∧ den ≤ 9223372036854775807) :
    Calls Try.prog 7 #[.slice A xs.length c, .agg #[.int .i64 o.real, .int .i64 o.fake], .int .i64 num, .int .i64 den] w (RetL encI 1 (fwV xs o num den) (fwB xs o num den) w) := by
  have hbA : Below w.heap.size w (w.alloc (.cells #[.int .i64 o.real, .int .i64 o.fake] 31)) := by go_grown
  have p0 : (w.alloc (.cells #[.int .i64 o.real, .int .i64 o.fake] 31)).cell? ⟨w.heap.size, 0, none⟩ = some (.int .i64 o.real) := by simp
  have p1 : (w.alloc (.cells #[.int .i64 o.real, .int .i64 o.fake] 31)).cell? ⟨w.heap.size, 1, none⟩ = some (.int .i64 o.fake) := by simp
  have hsA : w.heap.size < (w.alloc (.cells #[.int .i64 o.real, .int .i64 o.fake] 31)).heap.size := by simp
  go_enter Try.func7, Try.ntmps7
  go_wp2_with fail
  generalize w.alloc (.cells #[.int .i64 o.real, .int .i64 o.fake] 31) = W at *
  refine (l16Asked_c xs _ _ o num den _ (hr.go hbA) hn).mono ?_
  rintro _ w1 ⟨rfl, hb1⟩
  have p0 := (hb1.cell (p := ⟨w.heap.size, 0, none⟩) hsA).trans p0
  have p1 := (hb1.cell (p := ⟨w.heap.size, 1, none⟩) hsA).trans p1
  have hbg := below_via hbA hb1
  cases hK : askB xs o num den with
  | false =>
    have HV := Lib.hid (fwV_no hK)
    have HB := Lib.hid (fwB_no hK)
    clear hK
    go_wp2_with fail
    go_returns
    exact ⟨_, _, ret_list (by rw [HV.out]; rfl) HB.out.symm, below_via hbg (by go_grown), Own.none_ HV.out (Nat.le_refl _)⟩
  | true =>
    have HV := Lib.hid (fwV_yes hK)
    have HB := Lib.hid (fwB_yes hK)
    have HP := Lib.hid (ask_parts hK)
    clear hK
    go_wp2_with fail
    refine (l16BestF_c xs _ _ o num den _ (hr.go hbg) HP.out.1 HP.out.2.1 HP.out.2.2.1 HP.out.2.2.2.1 HP.out.2.2.2.2).mono ?_
    rintro _ w2 ⟨B, c2, rfl, hb2, ho2⟩
    have hbl := below_via hbg hb2
    generalize bestG xs o num den beforeL (2 ^ xs.length) = BF at *
    go_wp2_with fail
    go_returns
    exact ⟨_, _, ret_list (by rw [HV.out]) HB.out.symm, hbl, (ho2.wide hbg.size (Nat.le_refl _) (Nat.le_refl _)).cast HV.out.symm⟩
set_option maxRecDepth 100000 in
set_option maxHeartbeats 1000000 in
theorem implFewestTrials_c (xs : List Trial) (A : Option Addr) (c : Nat) (o : Odds) (num den : Int) (w : World) (hr : Rd encTrial 3 w.heap.size w A xs) (hn : xs.length ≤ 1048576) (hz2 : -9223372036854775808 ≤ num ∧ num ≤ 9223372036854775807) (hz3 : -9223372036854775808 ≤ den ∧ den ≤ 9223372036854775807) :
    Calls Try.prog 10 #[.slice A xs.length c, .agg #[.int .i64 o.real, .int .i64 o.fake], .int .i64 num, .int .i64 den] w (RetL encI 1 (fwV xs o num den) (fwB xs o num den) w) := by
  have hbA : Below w.heap.size w (w.alloc (.cells #[.int .i64 o.real, .int .i64 o.fake] 31)) := by go_grown
  have p0 : (w.alloc (.cells #[.int .i64 o.real, .int .i64 o.fake] 31)).cell? ⟨w.heap.size, 0, none⟩ = some (.int .i64 o.real) := by simp
  have p1 : (w.alloc (.cells #[.int .i64 o.real, .int .i64 o.fake] 31)).cell? ⟨w.heap.size, 1, none⟩ = some (.int .i64 o.fake) := by simp
  have hsA : w.heap.size < (w.alloc (.cells #[.int .i64 o.real, .int .i64 o.fake] 31)).heap.size := by simp
  go_enter Try.func10, Try.ntmps10
  go_wp2_with fail
  generalize w.alloc (.cells #[.int .i64 o.real, .int .i64 o.fake] 31) = W at *
  refine (areTrials_c xs _ _ _ (hr.go hbA) hn).mono ?_
  rintro _ w1 ⟨rfl, hb1⟩
  have p0 := (hb1.cell (p := ⟨w.heap.size, 0, none⟩) hsA).trans p0
  have p1 := (hb1.cell (p := ⟨w.heap.size, 1, none⟩) hsA).trans p1
  have hbg := below_via hbA hb1
  have hs1 := Nat.lt_of_lt_of_le hsA hb1.size
  cases hG : goodT xs with
  | false =>
    have hK : askB xs o num den = false := by simp [askB, hG]
    have HV := Lib.hid (fwV_no hK)
    have HB := Lib.hid (fwB_no hK)
    clear hK hG
    go_wp2_with fail
    go_returns
    exact ⟨_, _, ret_list (by rw [HV.out]; rfl) HB.out.symm, hbg, Own.none_ HV.out (Nat.le_refl _)⟩
  | true =>
    have HG := Lib.hid hG
    clear hG
    go_wp2_with fail
    refine (areOdds_c _ _ _).mono ?_
    rintro _ w2 ⟨rfl, hb2⟩
    have p0 := (hb2.cell (p := ⟨w.heap.size, 0, none⟩) hs1).trans p0
    have p1 := (hb2.cell (p := ⟨w.heap.size, 1, none⟩) hs1).trans p1
    have hbg := below_via hbg hb2
    cases hO : isOd o.real o.fake with
    | false =>
      have hK : askB xs o num den = false := by simp [askB, hO]
      have HV := Lib.hid (fwV_no hK)
      have HB := Lib.hid (fwB_no hK)
      clear hK hO
      go_wp2_with fail
      go_returns
      exact ⟨_, _, ret_list (by rw [HV.out]; rfl) HB.out.symm, hbg, Own.none_ HV.out (Nat.le_refl _)⟩
    | true =>
      have HO := Lib.hid hO
      clear hO
      go_wp2_with fail
      refine (inRange_c _ _ _ _).mono ?_
      rintro _ _ ⟨rfl, rfl⟩
      cases hR : inR num 1 den with
      | false =>
        have hK : askB xs o num den = false := by simp [askB, hR]
        have HV := Lib.hid (fwV_no hK)
        have HB := Lib.hid (fwB_no hK)
        clear hK hR
        go_wp2_with fail
        go_returns
        exact ⟨_, _, ret_list (by rw [HV.out]; rfl) HB.out.symm, hbg, Own.none_ HV.out (Nat.le_refl _)⟩
      | true =>
        have hK := ask_num HG.out HO.out hR
        clear hR
        by_cases hD : den ≤ 1000
        · rw [decide_eq_true hD] at hK
          have hD' : ¬ (1000 : Int) < den := by omega
          have HV := Lib.hid (fwV_yes hK)
          have HB := Lib.hid (fwB_yes hK)
          have HP := Lib.hid (ask_parts hK)
          clear hK
          go_wp2_with fail
          refine (bestTrialsF_c xs _ _ o num den _ (hr.go hbg) HG.out HO.out HP.out.2.2.1 HP.out.2.2.2.1 hD).mono ?_
          rintro _ w3 ⟨B, c2, rfl, hb3, ho3⟩
          have hbl := below_via hbg hb3
          generalize bestG xs o num den beforeL (2 ^ xs.length) = BF at *
          go_wp2_with fail
          go_returns
          exact ⟨_, _, ret_list (by rw [HV.out]) HB.out.symm, hbl, (ho3.wide hbg.size (Nat.le_refl _) (Nat.le_refl _)).cast HV.out.symm⟩
        · rw [decide_eq_false hD] at hK
          have hD' : (1000 : Int) < den := by omega
          have HV := Lib.hid (fwV_no hK)
          have HB := Lib.hid (fwB_no hK)
          clear hK
          go_wp2_with fail
          go_returns
          exact ⟨_, _, ret_list (by rw [HV.out]; rfl) HB.out.symm, hbg, Own.none_ HV.out (Nat.le_refl _)⟩
end Go.Proofs.Ytpfkmfejginojaa
