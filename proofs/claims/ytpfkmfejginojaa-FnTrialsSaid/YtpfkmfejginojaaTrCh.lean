/- CheapestTrials: the contracts of the program and the reference. No condition but the sizes. -/
import Derived.Test.YtpfkmfejginojaaTrFw
import Derived.Test.YtpfkmfejginojaaTrCp
namespace Go.Proofs.Ytpfkmfejginojaa
set_option linter.unusedVariables false
set_option linter.unusedSimpArgs false
open Go.RowKit
attribute [local irreducible] wpQuiet
def cpV (xs : List Trial) (o : Odds) (num den : Int) : List Int := if askB xs o num den = true then (bestG xs o num den (cheapL xs) (2 ^ xs.length)).1 else []
def cpB (xs : List Trial) (o : Odds) (num den : Int) : Bool := askB xs o num den && (bestG xs o num den (cheapL xs) (2 ^ xs.length)).2
def cpN (xs : List Trial) (o : Odds) (num den : Int) : Int := if askB xs o num den = true then priceL xs (bestG xs o num den (cheapL xs) (2 ^ xs.length)).1 else 0
section
variable {xs : List Trial} {o : Odds} {num den : Int}
theorem cpV_no (h : askB xs o num den = false) : cpV xs o num den = [] := by simp [cpV, h]
theorem cpB_no (h : askB xs o num den = false) : cpB xs o num den = false := by simp [cpB, h]
theorem cpN_no (h : askB xs o num den = false) : cpN xs o num den = 0 := by simp [cpN, h]
theorem cpV_yes (h : askB xs o num den = true) : cpV xs o num den = (bestG xs o num den (cheapL xs) (2 ^ xs.length)).1 := by simp [cpV, h]
theorem cpB_yes (h : askB xs o num den = true) : cpB xs o num den = (bestG xs o num den (cheapL xs) (2 ^ xs.length)).2 := by simp [cpB, h]
theorem cpN_yes (h : askB xs o num den = true) : cpN xs o num den = priceL xs (bestG xs o num den (cheapL xs) (2 ^ xs.length)).1 := by simp [cpN, h]
theorem cpV_len (xs : List Trial) (o : Odds) (num den : Int) : (cpV xs o num den).length ≤ 2097152 := by
  cases h : askB xs o num den with
  | false => rw [cpV_no h]; simp
  | true =>
    rw [cpV_yes h]
    have h1 := good_len (ask_parts h).1
    have h2 := bestG_len (xs := xs) (o := o) (num := num) (den := den) (lt := cheapL xs) (2 ^ xs.length)
    omega
end
/-- The call returns a slice of its own that reads as ys, a number, and b. -/
def RetL3 (ys : List Int) (n : Int) (b : Bool) (w : World) (e : Ending) (w' : World) : Prop := ∃ B c', e = .returned (.tuple #[.slice B ys.length c', .int .i64 n, .bool b]) ∧ Below w.heap.size w w' ∧ Own encI 1 w.heap.size w'.heap.size w' B ys
theorem ret_l3 {b b' : Bool} {A : Option Addr} {n m c : Nat} {x y : Int} (hn : n = m) (hx : x = y) (hb : b = b') : Ending.returned (.tuple #[.slice A n c, .int .i64 x, .bool b]) = .returned (.tuple #[.slice A m c, .int .i64 y, .bool b']) := by rw [hn, hb, hx]
set_option maxRecDepth 100000 in
set_option maxHeartbeats 1000000 in
theorem specCheapestTrials_c (xs : List Trial) (A : Option Addr) (c : Nat) (o : Odds) (num den : Int) (w : World) (hr : Rd encTrial 3 w.heap.size w A xs) (hn : xs.length ≤ 1048576) (hz2 : -9223372036854775808 ≤ num ∧ num ≤ 9223372036854775807) (hz3 : -9223372036854775808 ≤ den ∧ den ≤ 9223372036854775807) :
    Calls Try.prog 16 #[.slice A xs.length c, .agg #[.int .i64 o.real, .int .i64 o.fake], .int .i64 num, .int .i64 den] w (RetL3 (cpV xs o num den) (cpN xs o num den) (cpB xs o num den) w) := by
  have hbA : Below w.heap.size w (w.alloc (.cells #[.int .i64 o.real, .int .i64 o.fake] 31)) := by go_grown
  have p0 : (w.alloc (.cells #[.int .i64 o.real, .int .i64 o.fake] 31)).cell? ⟨w.heap.size, 0, none⟩ = some (.int .i64 o.real) := by simp
  have p1 : (w.alloc (.cells #[.int .i64 o.real, .int .i64 o.fake] 31)).cell? ⟨w.heap.size, 1, none⟩ = some (.int .i64 o.fake) := by simp
  have hsA : w.heap.size < (w.alloc (.cells #[.int .i64 o.real, .int .i64 o.fake] 31)).heap.size := by simp
  go_enter Try.func16, Try.ntmps16
  go_wp2_with fail
  generalize w.alloc (.cells #[.int .i64 o.real, .int .i64 o.fake] 31) = W at *
  refine (l16Asked_c xs _ _ o num den _ (hr.go hbA) hn).mono ?_
  rintro _ w1 ⟨rfl, hb1⟩
  have p0 := (hb1.cell (p := ⟨w.heap.size, 0, none⟩) hsA).trans p0
  have p1 := (hb1.cell (p := ⟨w.heap.size, 1, none⟩) hsA).trans p1
  have hbg := below_via hbA hb1
  cases hK : askB xs o num den with
  | false =>
    have HV := Lib.hid (cpV_no hK)
    have HB := Lib.hid (cpB_no hK)
    have HN := Lib.hid (cpN_no hK)
    clear hK
    go_wp2_with fail
    go_returns
    exact ⟨_, _, ret_l3 (by rw [HV.out]; rfl) HN.out.symm HB.out.symm, below_via hbg (by go_grown), Own.none_ HV.out (Nat.le_refl _)⟩
  | true =>
    have HV := Lib.hid (cpV_yes hK)
    have HB := Lib.hid (cpB_yes hK)
    have HN := Lib.hid (cpN_yes hK)
    have HP := Lib.hid (ask_parts hK)
    clear hK
    go_wp2_with fail
    refine (l16BestC_c xs _ _ o num den _ (hr.go hbg) HP.out.1 HP.out.2.1 HP.out.2.2.1 HP.out.2.2.2.1 HP.out.2.2.2.2).mono ?_
    rintro _ w2 ⟨B, c2, rfl, hb2, ho2⟩
    have hbl := below_via hbg hb2
    generalize bestG xs o num den (cheapL xs) (2 ^ xs.length) = BF at *
    go_wp2_with fail
    go_returns
    exact ⟨_, _, ret_l3 (by rw [HV.out]) HN.out.symm HB.out.symm, hbl, (ho2.wide hbg.size (Nat.le_refl _) (Nat.le_refl _)).cast HV.out.symm⟩
set_option maxRecDepth 100000 in
set_option maxHeartbeats 1000000 in
theorem implCheapestTrials_c (xs : List Trial) (A : Option Addr) (c : Nat) (o : Odds) (num den : Int) (w : World) (hr : Rd encTrial 3 w.heap.size w A xs) (hn : xs.length ≤ 1048576) (hz2 : -9223372036854775808 ≤ num ∧ num ≤ 9223372036854775807) (hz3 : -9223372036854775808 ≤ den ∧ den ≤ 9223372036854775807) :
    Calls Try.prog 17 #[.slice A xs.length c, .agg #[.int .i64 o.real, .int .i64 o.fake], .int .i64 num, .int .i64 den] w (RetL3 (cpV xs o num den) (cpN xs o num den) (cpB xs o num den) w) := by
  have hbA : Below w.heap.size w ((w.alloc (.cells #[.slice A xs.length c] 29)).alloc (.cells #[.int .i64 o.real, .int .i64 o.fake] 31)) := by go_grown
  have pz : ((w.alloc (.cells #[.slice A xs.length c] 29)).alloc (.cells #[.int .i64 o.real, .int .i64 o.fake] 31)).cell? ⟨w.heap.size, 0, none⟩ = some (.slice A xs.length c) := by simp [go_sem]
  have p0 : ((w.alloc (.cells #[.slice A xs.length c] 29)).alloc (.cells #[.int .i64 o.real, .int .i64 o.fake] 31)).cell? ⟨w.heap.size + 1, 0, none⟩ = some (.int .i64 o.real) := by simp [go_sem]
  have p1 : ((w.alloc (.cells #[.slice A xs.length c] 29)).alloc (.cells #[.int .i64 o.real, .int .i64 o.fake] 31)).cell? ⟨w.heap.size + 1, 1, none⟩ = some (.int .i64 o.fake) := by simp [go_sem]
  have hsA : w.heap.size + 1 < ((w.alloc (.cells #[.slice A xs.length c] 29)).alloc (.cells #[.int .i64 o.real, .int .i64 o.fake] 31)).heap.size := by simp
  go_enter Try.func17, Try.ntmps17
  go_wp2_with fail
  generalize (w.alloc (.cells #[.slice A xs.length c] 29)).alloc (.cells #[.int .i64 o.real, .int .i64 o.fake] 31) = W at *
  refine (areTrials_c xs _ _ _ (hr.go hbA) hn).mono ?_
  rintro _ w1 ⟨rfl, hb1⟩
  have pz := (hb1.cell (p := ⟨w.heap.size, 0, none⟩) (Nat.lt_of_succ_lt hsA)).trans pz
  have p0 := (hb1.cell (p := ⟨w.heap.size + 1, 0, none⟩) hsA).trans p0
  have p1 := (hb1.cell (p := ⟨w.heap.size + 1, 1, none⟩) hsA).trans p1
  have hbg := below_via hbA hb1
  have hs1 := Nat.lt_of_lt_of_le hsA hb1.size
  cases hG : goodT xs with
  | false =>
    have hK : askB xs o num den = false := by simp [askB, hG]
    have HV := Lib.hid (cpV_no hK)
    have HB := Lib.hid (cpB_no hK)
    have HN := Lib.hid (cpN_no hK)
    clear hK hG
    go_wp2_with fail
    go_returns
    exact ⟨_, _, ret_l3 (by rw [HV.out]; rfl) HN.out.symm HB.out.symm, hbg, Own.none_ HV.out (Nat.le_refl _)⟩
  | true =>
    have HG := Lib.hid hG
    clear hG
    go_wp2_with fail
    refine (areOdds_c _ _ _).mono ?_
    rintro _ w2 ⟨rfl, hb2⟩
    have pz := (hb2.cell (p := ⟨w.heap.size, 0, none⟩) (Nat.lt_of_succ_lt hs1)).trans pz
    have p0 := (hb2.cell (p := ⟨w.heap.size + 1, 0, none⟩) hs1).trans p0
    have p1 := (hb2.cell (p := ⟨w.heap.size + 1, 1, none⟩) hs1).trans p1
    have hs2 := Nat.lt_of_lt_of_le hs1 hb2.size
    have hbg := below_via hbg hb2
    cases hO : isOd o.real o.fake with
    | false =>
      have hK : askB xs o num den = false := by simp [askB, hO]
      have HV := Lib.hid (cpV_no hK)
      have HB := Lib.hid (cpB_no hK)
      have HN := Lib.hid (cpN_no hK)
      clear hK hO
      go_wp2_with fail
      go_returns
      exact ⟨_, _, ret_l3 (by rw [HV.out]; rfl) HN.out.symm HB.out.symm, hbg, Own.none_ HV.out (Nat.le_refl _)⟩
    | true =>
      have HO := Lib.hid hO
      clear hO
      go_wp2_with fail
      refine (inRange_c _ _ _ _).mono ?_
      rintro _ _ ⟨rfl, rfl⟩
      cases hR : inR num 1 den with
      | false =>
        have hK : askB xs o num den = false := by simp [askB, hR]
        have HV := Lib.hid (cpV_no hK)
        have HB := Lib.hid (cpB_no hK)
        have HN := Lib.hid (cpN_no hK)
        clear hK hR
        go_wp2_with fail
        go_returns
        exact ⟨_, _, ret_l3 (by rw [HV.out]; rfl) HN.out.symm HB.out.symm, hbg, Own.none_ HV.out (Nat.le_refl _)⟩
      | true =>
        have hK := ask_num HG.out HO.out hR
        clear hR
        by_cases hD : den ≤ 1000
        · rw [decide_eq_true hD] at hK
          have hD' : ¬ (1000 : Int) < den := by omega
          have HV := Lib.hid (cpV_yes hK)
          have HB := Lib.hid (cpB_yes hK)
          have HN := Lib.hid (cpN_yes hK)
          have HP := Lib.hid (ask_parts hK)
          clear hK
          go_wp2_with fail
          refine (bestTrialsC_c xs _ _ o num den _ (hr.go hbg) HG.out HO.out HP.out.2.2.1 HP.out.2.2.2.1 hD w.heap.size pz).mono ?_
          rintro _ w3 ⟨B, c2, rfl, hb3, ho3⟩
          have hbl := below_via hbg hb3
          have pz := (hb3.cell (p := ⟨w.heap.size, 0, none⟩) (Nat.lt_of_succ_lt hs2)).trans pz
          have hbl6 := bestG_len (xs := xs) (o := o) (num := num) (den := den) (lt := cheapL xs) (2 ^ xs.length)
          have hbm := bestG_mem (xs := xs) (o := o) (num := num) (den := den) (lt := cheapL xs) (2 ^ xs.length)
          have HBM := Lib.hid hbm
          have hlen := good_len HG.out
          clear hbm
          generalize bestG xs o num den (cheapL xs) (2 ^ xs.length) = BF at *
          obtain ⟨BL, f⟩ := BF
          simp only at ho3 hbl6 HBM HV HB HN ⊢
          go_wp2_with fail
          refine (pricesOf_c xs _ _ BL _ _ _ (hr.go hbl) ho3.rd HG.out (by omega) HBM.out).mono ?_
          rintro _ _ ⟨rfl, rfl⟩
          go_wp2_with fail
          go_returns
          exact ⟨_, _, ret_l3 (by rw [HV.out]) HN.out.symm HB.out.symm, hbl, (ho3.wide hbg.size (Nat.le_refl _) (Nat.le_refl _)).cast HV.out.symm⟩
        · rw [decide_eq_false hD] at hK
          have hD' : (1000 : Int) < den := by omega
          have HV := Lib.hid (cpV_no hK)
          have HB := Lib.hid (cpB_no hK)
          have HN := Lib.hid (cpN_no hK)
          clear hK
          go_wp2_with fail
          go_returns
          exact ⟨_, _, ret_l3 (by rw [HV.out]; rfl) HN.out.symm HB.out.symm, hbg, Own.none_ HV.out (Nat.le_refl _)⟩
end Go.Proofs.Ytpfkmfejginojaa
