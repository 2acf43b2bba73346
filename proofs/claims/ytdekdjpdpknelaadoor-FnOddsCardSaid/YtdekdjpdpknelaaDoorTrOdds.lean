/- Contracts of OddsAfter: the odds after a trial, after all trials. No condition but the list's size. -/
import Derived.Test.YtdekdjpdpknelaaDoorTrMore
namespace Go.Proofs.YtdekdjpdpknelaaDoor
set_option linter.unusedVariables false
set_option linter.unusedSimpArgs false
open Go.RowKit
/-- The odds after one trial. -/
def chance (x : Int) (well : Bool) : Int := if well then x else 100 - x
def Odds.after (o : Odds) (t : Trial) (well : Bool) : Odds :=
  ⟨(o.real * chance t.real well) / gc (o.real * chance t.real well) (o.fake * chance t.fake well), (o.fake * chance t.fake well) / gc (o.real * chance t.real well) (o.fake * chance t.fake well)⟩
/-- Odds that some trials may have changed: so many. -/
def Odds.upto (o : Odds) (n : Nat) : Prop := 1 ≤ o.real ∧ o.real ≤ 1000 * 100 ^ n ∧ 1 ≤ o.fake ∧ o.fake ≤ 1000 * 100 ^ n
theorem chance_bd {x : Int} (h1 : 1 ≤ x) (h2 : x ≤ 99) (b : Bool) : 1 ≤ chance x b ∧ chance x b ≤ 99 := by
  unfold chance; split <;> omega
theorem mul_bd {a b M : Int} (h1 : 1 ≤ a) (h2 : a ≤ M) (h3 : 1 ≤ b) (h4 : b ≤ 99) : 1 ≤ a * b ∧ a * b ≤ M * 100 := by
  constructor
  · have := Int.mul_le_mul h1 h3 (by omega) (by omega)
    simpa using this
  · have h5 : a * b ≤ a * 99 := Int.mul_le_mul_of_nonneg_left h4 (by omega)
    omega
theorem div_bd {a g : Int} (h1 : 1 ≤ a) (hg : 0 < g) (hd : g ∣ a) : 1 ≤ a / g ∧ a / g ≤ a := by
  obtain ⟨c, rfl⟩ := hd
  rw [Int.mul_ediv_cancel_left _ (by omega)]
  have hc : 0 < c := by
    rcases Int.lt_or_le 0 c with h | h
    · exact h
    · have := Int.mul_nonneg (show 0 ≤ g by omega) (show 0 ≤ -c by omega)
      rw [Int.mul_neg] at this; omega
  refine ⟨by omega, ?_⟩
  have := Int.mul_le_mul (show 1 ≤ g by omega) (Int.le_refl c) (by omega) (by omega)
  simpa using this
theorem gc_dvd_left (a b : Int) : gc a b ∣ a := by unfold gc; exact Int.gcd_dvd_left ..
theorem gc_dvd_right (a b : Int) : gc a b ∣ b := by unfold gc; exact Int.gcd_dvd_right ..
theorem after_upto {o : Odds} {t : Trial} {n : Nat} (h : o.upto n) (ht : t.ok = true) (b : Bool) : (o.after t b).upto (n + 1) := by
  obtain ⟨h1, h2, h3, h4⟩ := h
  obtain ⟨t1, t2, t3, t4, _, _⟩ := ok_bd ht
  have c1 := chance_bd t1 t2 b
  have c2 := chance_bd t3 t4 b
  have m1 := mul_bd h1 h2 c1.1 c1.2
  have m2 := mul_bd h3 h4 c2.1 c2.2
  have hg := gc_pos (o.real * chance t.real b) (o.fake * chance t.fake b) (by omega)
  have d1 := div_bd m1.1 hg (gc_dvd_left _ _)
  have d2 := div_bd m2.1 hg (gc_dvd_right _ _)
  have hp : (1000 : Int) * 100 ^ (n + 1) = 1000 * 100 ^ n * 100 := by rw [Int.pow_succ, Int.mul_assoc]
  unfold Odds.after Odds.upto
  simp only []
  rw [hp]
  omega
theorem upto_bd {o : Odds} {n : Nat} (h : o.upto n) (hn : n ≤ 5) : 1 ≤ o.real ∧ o.real ≤ 10000000000000 ∧ 1 ≤ o.fake ∧ o.fake ≤ 10000000000000 := by
  obtain ⟨h1, h2, h3, h4⟩ := h
  have : (1000 : Int) * 100 ^ n ≤ 10000000000000 := by
    match n, hn with
    | 0, _ => decide
    | 1, _ => decide
    | 2, _ => decide
    | 3, _ => decide
    | 4, _ => decide
    | 5, _ => decide
  omega
set_option maxHeartbeats 1000000 in
theorem change_c (o : Odds) (t : Trial) (b : Bool) (n : Nat) (w : World) (h : o.upto n) (hn : n ≤ 5) (ht : t.ok = true) :
    Calls Tryd.prog 31 #[.agg #[.int .i64 o.real, .int .i64 o.fake], .agg #[.int .i64 t.real, .int .i64 t.fake, .int .i64 t.price], .bool b] w (Ret (.agg #[.int .i64 (o.after t b).real, .int .i64 (o.after t b).fake]) w) := by
  obtain ⟨o1, o2, o3, o4⟩ := upto_bd h hn
  obtain ⟨t1, t2, t3, t4, _, _⟩ := ok_bd ht
  have c1 := chance_bd t1 t2 b
  have c2 := chance_bd t3 t4 b
  have m1 := mul_bd o1 o2 c1.1 c1.2
  have m2 := mul_bd o3 o4 c2.1 c2.2
  clear h hn ht
  cases b
  · simp only [chance, Bool.false_eq_true, if_false, if_true] at c1 c2 m1 m2
    go_enter Tryd.func31, Tryd.ntmps31
    go_wp2_with fail
    go_quiet (fail)
    go_wp2_with fail
    refine (l2Reduce_c _ _ _ (by omega) (by omega) (by omega) (by omega)).mono ?_
    rintro e w1 ⟨rfl, hb1⟩
    obtain ⟨hc, hf⟩ := bcell hb1
    have e0 : w1.cell? ⟨w.heap.size + 1 + 1, 0, none⟩ = some (.int .i64 0) := by rw [hc _ _ (by simp)]; simp [go_sem]
    have e1 : w1.cell? ⟨w.heap.size + 1 + 1, 1, none⟩ = some (.int .i64 0) := by rw [hc _ _ (by simp)]; simp [go_sem]
    go_wp2_with fail
    obtain ⟨q0, q1⟩ := set2_cells (a := .int .i64 (o.real * (100 - t.real) / gc (o.real * (100 - t.real)) (o.fake * (100 - t.fake)))) (b := .int .i64 (o.fake * (100 - t.fake) / gc (o.real * (100 - t.real)) (o.fake * (100 - t.fake)))) e0 e1
    refine bodyPost_ret (v := .agg #[.int .i64 (o.real * (100 - t.real) / gc (o.real * (100 - t.real)) (o.fake * (100 - t.fake))), .int .i64 (o.fake * (100 - t.fake) / gc (o.real * (100 - t.real)) (o.fake * (100 - t.fake)))]) (by simp [results, Tryd.results31, go_sem, q0, q1]) rfl ⟨by simp [Odds.after, chance], ?_⟩
    refine Below.setCell (Below.setCell (below_via ?_ hb1) ?_ _) ?_ _
    · (try with_reducible refine below_drewN ?_ _); go_grown
    · show w.heap.size ≤ w.heap.size + 1 + 1; omega
    · show w.heap.size ≤ w.heap.size + 1 + 1; omega
  · simp only [chance, Bool.false_eq_true, if_false, if_true] at c1 c2 m1 m2
    go_enter Tryd.func31, Tryd.ntmps31
    go_wp2_with fail
    go_quiet (fail)
    go_wp2_with fail
    refine (l2Reduce_c _ _ _ (by omega) (by omega) (by omega) (by omega)).mono ?_
    rintro e w1 ⟨rfl, hb1⟩
    obtain ⟨hc, hf⟩ := bcell hb1
    have e0 : w1.cell? ⟨w.heap.size + 1 + 1, 0, none⟩ = some (.int .i64 0) := by rw [hc _ _ (by simp)]; simp [go_sem]
    have e1 : w1.cell? ⟨w.heap.size + 1 + 1, 1, none⟩ = some (.int .i64 0) := by rw [hc _ _ (by simp)]; simp [go_sem]
    go_wp2_with fail
    obtain ⟨q0, q1⟩ := set2_cells (a := .int .i64 (o.real * t.real / gc (o.real * t.real) (o.fake * t.fake))) (b := .int .i64 (o.fake * t.fake / gc (o.real * t.real) (o.fake * t.fake))) e0 e1
    refine bodyPost_ret (v := .agg #[.int .i64 (o.real * t.real / gc (o.real * t.real) (o.fake * t.fake)), .int .i64 (o.fake * t.fake / gc (o.real * t.real) (o.fake * t.fake))]) (by simp [results, Tryd.results31, go_sem, q0, q1]) rfl ⟨by simp [Odds.after, chance], ?_⟩
    refine Below.setCell (Below.setCell (below_via ?_ hb1) ?_ _) ?_ _
    · (try with_reducible refine below_drewN ?_ _); go_grown
    · show w.heap.size ≤ w.heap.size + 1 + 1; omega
    · show w.heap.size ≤ w.heap.size + 1 + 1; omega
set_option maxHeartbeats 1000000 in
theorem after_c (o : Odds) (t : Trial) (b : Bool) (n : Nat) (w : World) (h : o.upto n) (hn : n ≤ 5) (ht : t.ok = true) :
    Calls Tryd.prog 28 #[.agg #[.int .i64 o.real, .int .i64 o.fake], .agg #[.int .i64 t.real, .int .i64 t.fake, .int .i64 t.price], .bool b] w (Ret (.agg #[.int .i64 (o.after t b).real, .int .i64 (o.after t b).fake]) w) := by
  obtain ⟨o1, o2, o3, o4⟩ := upto_bd h hn
  obtain ⟨t1, t2, t3, t4, _, _⟩ := ok_bd ht
  have c1 := chance_bd t1 t2 b
  have c2 := chance_bd t3 t4 b
  have m1 := mul_bd o1 o2 c1.1 c1.2
  have m2 := mul_bd o3 o4 c2.1 c2.2
  clear h hn ht
  cases b
  · simp only [chance, Bool.false_eq_true, if_false, if_true] at c1 c2 m1 m2
    go_enter Tryd.func28, Tryd.ntmps28
    go_wp2_with fail
    refine (fraction_c _ _ _ (by omega) (by omega) (by omega) (by omega)).mono ?_
    rintro e w1 ⟨rfl, hb1⟩
    obtain ⟨hc, hf⟩ := bcell hb1
    have e0 : w1.cell? ⟨w.heap.size + 1 + 1, 0, none⟩ = some (.int .i64 0) := by rw [hc _ _ (by simp)]; simp [go_sem]
    have e1 : w1.cell? ⟨w.heap.size + 1 + 1, 1, none⟩ = some (.int .i64 0) := by rw [hc _ _ (by simp)]; simp [go_sem]
    go_wp2_with fail
    obtain ⟨q0, q1⟩ := set2_cells (a := .int .i64 (o.real * (100 - t.real) / gc (o.real * (100 - t.real)) (o.fake * (100 - t.fake)))) (b := .int .i64 (o.fake * (100 - t.fake) / gc (o.real * (100 - t.real)) (o.fake * (100 - t.fake)))) e0 e1
    refine bodyPost_ret (v := .agg #[.int .i64 (o.real * (100 - t.real) / gc (o.real * (100 - t.real)) (o.fake * (100 - t.fake))), .int .i64 (o.fake * (100 - t.fake) / gc (o.real * (100 - t.real)) (o.fake * (100 - t.fake)))]) (by simp [results, Tryd.results28, go_sem, q0, q1]) rfl ⟨by simp [Odds.after, chance], ?_⟩
    refine Below.setCell (Below.setCell (below_via ?_ hb1) ?_ _) ?_ _
    · (try with_reducible refine below_drewN ?_ _); go_grown
    · show w.heap.size ≤ w.heap.size + 1 + 1; omega
    · show w.heap.size ≤ w.heap.size + 1 + 1; omega
  · simp only [chance, Bool.false_eq_true, if_false, if_true] at c1 c2 m1 m2
    go_enter Tryd.func28, Tryd.ntmps28
    go_wp2_with fail
    refine (fraction_c _ _ _ (by omega) (by omega) (by omega) (by omega)).mono ?_
    rintro e w1 ⟨rfl, hb1⟩
    obtain ⟨hc, hf⟩ := bcell hb1
    have e0 : w1.cell? ⟨w.heap.size + 1 + 1, 0, none⟩ = some (.int .i64 0) := by rw [hc _ _ (by simp)]; simp [go_sem]
    have e1 : w1.cell? ⟨w.heap.size + 1 + 1, 1, none⟩ = some (.int .i64 0) := by rw [hc _ _ (by simp)]; simp [go_sem]
    go_wp2_with fail
    obtain ⟨q0, q1⟩ := set2_cells (a := .int .i64 (o.real * t.real / gc (o.real * t.real) (o.fake * t.fake))) (b := .int .i64 (o.fake * t.fake / gc (o.real * t.real) (o.fake * t.fake))) e0 e1
    refine bodyPost_ret (v := .agg #[.int .i64 (o.real * t.real / gc (o.real * t.real) (o.fake * t.fake)), .int .i64 (o.fake * t.fake / gc (o.real * t.real) (o.fake * t.fake))]) (by simp [results, Tryd.results28, go_sem, q0, q1]) rfl ⟨by simp [Odds.after, chance], ?_⟩
    refine Below.setCell (Below.setCell (below_via ?_ hb1) ?_ _) ?_ _
    · (try with_reducible refine below_drewN ?_ _); go_grown
    · show w.heap.size ≤ w.heap.size + 1 + 1; omega
    · show w.heap.size ≤ w.heap.size + 1 + 1; omega
end Go.Proofs.YtdekdjpdpknelaaDoor
