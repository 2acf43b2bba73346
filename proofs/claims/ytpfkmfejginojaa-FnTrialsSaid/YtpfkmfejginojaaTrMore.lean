/- Contracts of BestTrial, OddsAfter and ResultChance, in the reference and in the program. No condition but the list's size. -/
import Derived.Test.YtpfkmfejginojaaTrGood
import Derived.Test.YtpfkmfejginojaaCvOdds
import Derived.Test.YtpfkmfejginojaaOver
namespace Go.Proofs.Ytpfkmfejginojaa
set_option linter.unusedVariables false
set_option linter.unusedSimpArgs false
open Go.RowKit
def Trial.apart (t : Trial) : Int := max (t.real - t.fake) (t.fake - t.real)
theorem ok_bd {t : Trial} (h : t.ok = true) : 1 ≤ t.real ∧ t.real ≤ 99 ∧ 1 ≤ t.fake ∧ t.fake ≤ 99 ∧ 0 ≤ t.price ∧ t.price ≤ 1000 := by
  simp [Trial.ok, isTr, inR] at h; omega
theorem good_all {xs : List Trial} (h : goodT xs = true) {i : Nat} (hi : i < xs.length) : xs[i].ok = true := by
  simp only [goodT, Bool.and_eq_true] at h
  exact List.all_eq_true.1 h.1 _ (List.getElem_mem hi)
theorem good_len {xs : List Trial} (h : goodT xs = true) : xs.length ≤ 6 := by
  simp [goodT] at h; exact h.2
theorem apart_c (t : Trial) (w : World) (h : t.ok = true) : Calls Try.prog 48 #[.agg #[.int .i64 t.real, .int .i64 t.fake, .int .i64 t.price]] w (Ret (.int .i64 t.apart) w) := by
  obtain ⟨h1, h2, h3, h4, h5, h6⟩ := ok_bd h
  clear h
  go_enter Try.func48, Try.ntmps48
  go_wp2_with fail
  refine (l1Most_c _ _ _).mono ?_
  rintro e w1 ⟨rfl, rfl⟩
  go_wp2_with fail
  go_returns
  exact ⟨rfl, by go_grown⟩
theorem difference_c (t : Trial) (w : World) (h : t.ok = true) : Calls Try.prog 46 #[.agg #[.int .i64 t.real, .int .i64 t.fake, .int .i64 t.price]] w (Ret (.int .i64 t.apart) w) := by
  obtain ⟨h1, h2, h3, h4, h5, h6⟩ := ok_bd h
  clear h
  go_enter Try.func46, Try.ntmps46
  go_wp2_with fail
  all_goals
    go_returns
    exact ⟨ret_int (by unfold Trial.apart; omega), by go_grown⟩
/-- The index of the best trial among the first k. -/
def bestStep (xs : List Trial) (b i : Nat) : Nat :=
  match xs[i]?, xs[b]? with
  | some x, some y => if y.apart < x.apart ∨ (x.apart = y.apart ∧ x.price < y.price) then i else b
  | _, _ => b
def bestT (xs : List Trial) (k : Nat) : Nat := (List.range k).foldl (bestStep xs) 0
theorem bestT_lt (xs : List Trial) (k : Nat) (hk : k ≤ xs.length) (h0 : 0 < xs.length) : bestT xs k < xs.length := by
  induction k with
  | zero => exact h0
  | succ k ih =>
    have := ih (by omega)
    unfold bestT at this ⊢
    rw [List.range_succ, List.foldl_append]
    simp only [List.foldl_cons, List.foldl_nil, bestStep]
    split <;> (try split) <;> omega
theorem bestT_succ (xs : List Trial) (k : Nat) : bestT xs (k + 1) = bestStep xs (bestT xs k) k := by
  unfold bestT; rw [List.range_succ, List.foldl_append]; rfl
theorem bestStep_eq (xs : List Trial) {m k : Nat} (hm : m < xs.length) (hk : k < xs.length) : bestStep xs m k = if xs[m].apart < xs[k].apart ∨ (xs[k].apart = xs[m].apart ∧ xs[k].price < xs[m].price) then k else m := by
  simp [bestStep, hk, hm]
def bestV (xs : List Trial) : Value := if goodT xs && !xs.isEmpty then .tuple #[.int .i64 (bestT xs xs.length : Int), .bool true] else .tuple #[.int .i64 0, .bool false]
theorem bestV_bad {xs : List Trial} (h : goodT xs = false) : bestV xs = .tuple #[.int .i64 0, .bool false] := by simp [bestV, h]
theorem bestV_nil {xs : List Trial} (h : xs.length = 0) : bestV xs = .tuple #[.int .i64 0, .bool false] := by
  have : xs = [] := List.eq_nil_of_length_eq_zero h
  simp [bestV, this]
theorem bestV_yes {xs : List Trial} (h : goodT xs = true) (h0 : ¬ xs.length = 0) : bestV xs = .tuple #[.int .i64 (bestT xs xs.length : Int), .bool true] := by
  have : xs ≠ [] := fun h => h0 (by rw [h]; rfl)
  simp [bestV, h, this]
theorem best1 (xs : List Trial) : bestT xs 1 = 0 := by unfold bestT; simp [List.range_succ, bestStep]; split <;> simp
set_option maxRecDepth 100000 in
set_option maxHeartbeats 1000000 in
theorem specBestTrial_c (xs : List Trial) (A : Option Addr) (c : Nat) (w : World) (hr : Rd encTrial 3 w.heap.size w A xs) (hn : xs.length ≤ 1048576) :
    Calls Try.prog 24 #[.slice A xs.length c] w (Ret (bestV xs) w) := by
  have Hbad := @bestV_bad xs
  by_cases hg : goodT xs = true
  · by_cases h0 : xs.length = 0
    · have HV := Lib.hid (bestV_nil h0)
      have h0' : ((xs.length : Int) == 0) = true := by rw [beq_iff_eq]; omega
      clear h0 Hbad
      go_enter Try.func24, Try.ntmps24
      go_wp2_with fail
      refine (l16Good_c xs _ _ _ hr hn).mono ?_
      rintro e w1 ⟨rfl, hb1⟩
      go_wp2_with fail
      go_returns
      exact ⟨by rw [HV.out]; rfl, hb1⟩
    · have HV := Lib.hid (bestV_yes hg h0)
      have h0' : ((xs.length : Int) == 0) = false := by rw [beq_eq_false_iff_ne]; omega
      have hlen := good_len hg
      have hpos : 1 ≤ xs.length := by omega
      have HG := Lib.hid (fun (i : Nat) (h : i < xs.length) => good_all hg h)
      clear h0 Hbad
      go_enter Try.func24, Try.ntmps24
      go_wp2_with fail
      refine (l16Good_c xs _ _ _ hr hn).mono ?_
      rintro e w1 ⟨rfl, hb1⟩
      go_wp2_with fail
      clear hg h0'
      go_loopw [4, 5] (fun u v wr => ∃ k : Nat, 1 ≤ k ∧ k ≤ xs.length ∧ v = .int .i64 k ∧ u = .int .i64 (bestT xs k) ∧ Below w.heap.size w wr) (fun _ v _ => xs.length - (intOf v).toNat)
      case atStart => exact ⟨1, by omega, by omega, rfl, vi (by rw [best1]; rfl), hb1⟩
      case round =>
        obtain ⟨k, hk1, hk, rfl, rfl, hb⟩ := hrel
        by_cases hlt : k < xs.length
        · obtain ⟨b, off, rfl, hbs, d0, d1, d2⟩ := (hr.below hb).atTrial hlt
          have hbt := bestT_lt xs k hk (by omega)
          obtain ⟨b', off', hA, hbs', g0, g1, g2⟩ := (hr.below hb).atTrial hbt
          have hst := bestT_succ xs k
          generalize bestT xs k = m at *
          injection hA with hA; injection hA with hA1 hA2
          subst hA1 hA2
          have hbw : b < wr.heap.size := Nat.lt_of_lt_of_le hbs hb.size
          have hov := over_cell wr
          have hst' := Lib.hid hst
          clear hst hbs'
          go_wp2_with fail
          refine wp_region_over (by kernel_rfl) (by kernel_rfl) ?_
          repeat (quiet_step ((go_at_call 48; exact Calls.over_of (apart_c _ _ (HG.out _ _)))))
          refine wpQuiet_nil ?_
          intro _ hw1
          obtain ⟨x1, hw1⟩ := hw1
          subst hw1
          have hb2 := below_via hb (over_below wr x1)
          have e2 := (over_cell wr x1 b (off + k * 3 + 2) hbw).trans d2
          have f2 := (over_cell wr x1 b (off + m * 3 + 2) hbw).trans g2
          have hst := hst'.out
          rw [bestStep_eq xs hbt hlt] at hst
          clear hst'
          have HS := Lib.hid hst
          clear d0 d1 d2 g0 g1 g2 hov hbw hst
          generalize over wr x1 = wv at *
          generalize xs[k].apart = p at *
          generalize xs[m].apart = q at *
          generalize xs[k].price = pp at *
          generalize xs[m].price = pq at *
          by_cases hgt : q < p
          · go_wp2_with fail
            go_quiet (fail)
            go_wp2_with fail
            go_roundw
            case rel => exact ⟨k + 1, by omega, by omega, by go_num, vi (by rw [HS.out, if_pos (.inl hgt)]), below_drewN hb2 _⟩
            case measure => simp [intOf]; omega
          · by_cases heq : p = q
            · have heq' : (p == q) = true := by rw [beq_iff_eq]; exact heq
              have HE := Lib.hid heq
              clear heq
              by_cases hpr : pp < pq
              · go_wp2_with fail
                go_quiet (fail)
                go_wp2_with fail
                go_roundw
                case rel => exact ⟨k + 1, by omega, by omega, by go_num, vi (by rw [HS.out, if_pos (.inr ⟨HE.out, hpr⟩)]), below_drewN hb2 _⟩
                case measure => simp [intOf]; omega
              · go_wp2_with fail
                go_quiet (fail)
                go_wp2_with fail
                go_roundw
                case rel => exact ⟨k + 1, by omega, by omega, by go_num, vi (by rw [HS.out, if_neg (by omega)]), below_drewN hb2 _⟩
                case measure => simp [intOf]; omega
            · have heq' : (p == q) = false := by rw [beq_eq_false_iff_ne]; exact heq
              have hneg : ¬ (q < p ∨ (p = q ∧ pp < pq)) := by omega
              have HN := Lib.hid hneg
              clear hneg
              have hd1 : decide (q < p) = false := by simp; omega
              have hd2 : decide (p = q) = false := by simpa using heq
              go_wp2_with fail
              go_quiet (fail)
              go_wp2_with fail
              go_roundw
              case rel => exact ⟨k + 1, by omega, by omega, by go_num, vi (by rw [HS.out, if_neg HN.out]), below_drewN hb2 _⟩
              case measure => simp [intOf]; omega
        · have hke : k = xs.length := by omega
          subst hke
          go_wp2_with fail
          go_returns
          exact ⟨by rw [HV.out]; rfl, hb⟩
  · have hg' : goodT xs = false := by simpa using hg
    have HV := Lib.hid (Hbad hg')
    clear hg Hbad
    go_enter Try.func24, Try.ntmps24
    go_wp2_with fail
    refine (l16Good_c xs _ _ _ hr hn).mono ?_
    rintro e w1 ⟨rfl, hb1⟩
    go_wp2_with fail
    go_returns
    exact ⟨by rw [HV.out]; rfl, hb1⟩
end Go.Proofs.Ytpfkmfejginojaa
