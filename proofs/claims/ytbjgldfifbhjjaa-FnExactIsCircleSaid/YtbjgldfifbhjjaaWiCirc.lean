/- Contracts of IsCircle: the program's and the reference's. No condition but the sizes. -/
import Derived.Test.YtbjgldfifbhjjaaWiRing2
namespace Go.Proofs.Ytbjgldfifbhjjaa
set_option linter.unusedVariables false
set_option linter.unusedSimpArgs false
open Go.RowKit
attribute [local irreducible] wpQuiet
def getI (ys : List Int) (i : Nat) : Int := match ys[i]? with | some y => y | none => 0
theorem getI_at {ys : List Int} {i : Nat} (h : i < ys.length) : getI ys i = ys[i] := by simp [getI, h]
/-- The gain of the wish from place i to the next one. -/
def gainAt (xs : List Wish) (ys : List Int) (i : Nat) : Int := gainW xs (getI ys i) (getI ys ((i + 1) % ys.length))
def circB (n : Int) (xs : List Wish) (ys : List Int) : Bool := ringB n ys && (List.range ys.length).all fun i => decide (gainAt xs ys i ≠ 0)
theorem circB_no {n : Int} {xs : List Wish} {ys : List Int} {k : Nat} (h : k < ys.length) (ho : gainAt xs ys k = 0) : circB n xs ys = false := by
  have : ((List.range ys.length).all fun i => decide (gainAt xs ys i ≠ 0)) = false := List.all_eq_false.2 ⟨k, List.mem_range.2 h, by simp [ho]⟩
  unfold circB; rw [this, Bool.and_false]
theorem gain_next {xs : List Wish} {ys : List Int} {k : Nat} (h : (List.range k).all (fun i => decide (gainAt xs ys i ≠ 0)) = true) (hk : gainAt xs ys k ≠ 0) : (List.range (k + 1)).all (fun i => decide (gainAt xs ys i ≠ 0)) = true := by
  rw [List.range_succ, List.all_append, h]; simp [hk]
theorem ring_rng {n : Int} {ys : List Int} (h : ringB n ys = true) : 2 ≤ (ys.length : Int) ∧ (ys.length : Int) ≤ n := by
  simp only [ringB, Bool.and_eq_true, inR_iff] at h; exact h.2
set_option maxRecDepth 100000 in
set_option maxHeartbeats 4000000 in
theorem isCircle_c (n : Int) (xs : List Wish) (A : Option Addr) (c : Nat) (ys : List Int) (A' : Option Addr) (c' : Nat) (w : World) (hr : Rd encWish 3 w.heap.size w A xs) (hn : xs.length ≤ 1048576) (hr' : Rd encI 1 w.heap.size w A' ys) (hc' : ys.length ≤ c') (hn' : ys.length ≤ 2097152) (hn1 : 1 ≤ n) (hn8 : n ≤ 8) :
    Calls Try.prog 94 #[.int .i64 n, .slice A xs.length c, .slice A' ys.length c'] w (Ret (.bool (circB n xs ys)) w) := by
  cases hg : ringB n ys with
  | false =>
    have HV := Lib.hid (show circB n xs ys = false by unfold circB; rw [hg, Bool.false_and])
    go_enter Try.func94, Try.ntmps94
    go_wp2_with fail
    refine (arePeople_c _ ys _ _ _ hr' hc' hn' hn1 hn8).mono ?_
    rintro e w1 ⟨rfl, hb1⟩
    rw [hg]
    go_wp2_with fail
    go_returns
    exact ⟨ret_bool HV.out.symm, hb1⟩
  | true =>
    have HG := Lib.hid hg
    have hrr := ring_rng hg
    go_enter Try.func94, Try.ntmps94
    go_wp2_with fail
    refine (arePeople_c _ ys _ _ _ hr' hc' hn' hn1 hn8).mono ?_
    rintro e w1 ⟨rfl, hb1⟩
    rw [hg]
    clear hg
    go_wp2_with fail
    go_loopw [15] (fun i wr => ∃ k : Nat, k ≤ ys.length ∧ i = .int .i64 k ∧ (List.range k).all (fun i => decide (gainAt xs ys i ≠ 0)) = true ∧ Below w.heap.size w wr) (fun i _ => ys.length - (intOf i).toNat)
    case atStart => exact ⟨0, Nat.zero_le _, rfl, rfl, hb1⟩
    case round =>
      obtain ⟨k, hk, rfl, hall, hb⟩ := hrel
      have HA := Lib.hid hall
      clear hall
      by_cases hlt : k < ys.length
      · obtain ⟨j, hj, hjl⟩ : ∃ j : Nat, ((k : Int) + 1) % (ys.length : Int) = (j : Int) ∧ j = (k + 1) % ys.length := ⟨(k + 1) % ys.length, by rw [Int.natCast_emod]; rfl, rfl⟩
        have hjb : j < ys.length := by rw [hjl]; exact Nat.mod_lt _ (by omega)
        obtain ⟨b, off, rfl, hbs, d0⟩ := (hr'.below hb).int hlt
        obtain ⟨b', off', hA, hbs', g0⟩ := (hr'.below hb).int hjb
        injection hA with hA; injection hA with hA1 hA2
        subst hA1 hA2
        clear hbs'
        have HE := Lib.hid (show gainAt xs ys k = gainW xs ys[k] ys[j] by unfold gainAt; rw [← hjl, getI_at hlt, getI_at hjb])
        clear hjl
        have hj0 : (0 : Int) ≤ (j : Int) := by omega
        have hj1 : (j : Int) < (ys.length : Int) := by omega
        have hl0 : (0 : Int) < (ys.length : Int) := by omega
        have hbw : b < wr.heap.size := Nat.lt_of_lt_of_le hbs hb.size
        by_cases h0 : gainW xs ys[k] ys[j] = 0
        · have h0' : (gainW xs ys[k] ys[j] == 0) = true := by simpa using h0
          have HV := Lib.hid (circB_no (n := n) (xs := xs) hlt (by rw [HE.out, h0]))
          clear h0
          go_wp2_with (go_at_call 111; refine (gainBetween_c xs _ _ _ _ _ ((hr.below hb).more hb.size) hn).mono ?_; rintro e wc ⟨rfl, hbc⟩)
          go_returns
          exact ⟨ret_bool HV.out.symm, below_via hb hbc⟩
        · have h0' : (gainW xs ys[k] ys[j] == 0) = false := by simpa using h0
          have HV := Lib.hid (gain_next HA.out (by rw [HE.out]; exact h0))
          clear h0
          go_wp2_with (go_at_call 111; refine (gainBetween_c xs _ _ _ _ _ ((hr.below hb).more hb.size) hn).mono ?_; rintro e wc ⟨rfl, hbc⟩)
          go_roundw
          case rel => exact ⟨k + 1, by omega, by go_num, HV.out, below_via hb hbc⟩
          case measure => simp [intOf]; omega
      · have HV := Lib.hid (show circB n xs ys = true by
          have h := HA.out
          rw [show k = ys.length by omega] at h
          unfold circB; rw [HG.out, h]; rfl)
        go_wp2_with fail
        go_returns
        exact ⟨ret_bool HV.out.symm, hb⟩
set_option maxRecDepth 100000 in
set_option maxHeartbeats 4000000 in
theorem l20Sum_c (n : Int) (xs : List Wish) (A : Option Addr) (c : Nat) (ys : List Int) (A' : Option Addr) (c' : Nat) (w : World) (hr : Rd encWish 3 w.heap.size w A xs) (hn : xs.length ≤ 1048576) (hr' : Rd encI 1 w.heap.size w A' ys) (hn' : ys.length ≤ 2097152) (hgw : goodW n xs = true) (hn1 : 1 ≤ n) (hn8 : n ≤ 8) :
    Calls Try.prog 93 #[.int .i64 n, .slice A xs.length c, .slice A' ys.length c'] w fun e w' => ∃ s : Int, e = .returned (.int .i64 s) ∧ decide (0 < s) = circB n xs ys ∧ Below w.heap.size w w' := by
  have HW := Lib.hid (gainW_rng hgw)
  clear hgw
  cases hg : ringB n ys with
  | false =>
    have HV := Lib.hid (show circB n xs ys = false by unfold circB; rw [hg, Bool.false_and])
    go_enter Try.func93, Try.ntmps93
    go_wp2_with fail
    refine (l20Ring_c _ ys _ _ _ hr' hn' hn1 hn8).mono ?_
    rintro e w1 ⟨rfl, hb1⟩
    rw [hg]
    go_wp2_with fail
    go_returns
    exact ⟨0, rfl, by rw [HV.out]; rfl, hb1⟩
  | true =>
    have HG := Lib.hid hg
    have hrr := ring_rng hg
    go_enter Try.func93, Try.ntmps93
    go_wp2_with fail
    refine (l20Ring_c _ ys _ _ _ hr' hn' hn1 hn8).mono ?_
    rintro e w1 ⟨rfl, hb1⟩
    rw [hg]
    clear hg
    go_wp2_with fail
    go_loopw [7, 8] (fun u i wr => ∃ (k : Nat) (s : Int), k ≤ ys.length ∧ i = .int .i64 k ∧ u = .int .i64 s ∧ (k : Int) ≤ s ∧ s ≤ 1000 * (k : Int) ∧ (List.range k).all (fun i => decide (gainAt xs ys i ≠ 0)) = true ∧ Below w.heap.size w wr) (fun _ i _ => ys.length - (intOf i).toNat)
    case atStart => exact ⟨0, 0, Nat.zero_le _, rfl, rfl, by omega, by omega, rfl, hb1⟩
    case round =>
      obtain ⟨k, s, hk, rfl, rfl, hs1, hs2, hall, hb⟩ := hrel
      have HA := Lib.hid hall
      clear hall
      by_cases hlt : k < ys.length
      · obtain ⟨j, hj, hjl⟩ : ∃ j : Nat, ((k : Int) + 1) % (ys.length : Int) = (j : Int) ∧ j = (k + 1) % ys.length := ⟨(k + 1) % ys.length, by rw [Int.natCast_emod]; rfl, rfl⟩
        have hjb : j < ys.length := by rw [hjl]; exact Nat.mod_lt _ (by omega)
        obtain ⟨b, off, rfl, hbs, d0⟩ := (hr'.below hb).int hlt
        obtain ⟨b', off', hA, hbs', g0⟩ := (hr'.below hb).int hjb
        injection hA with hA; injection hA with hA1 hA2
        subst hA1 hA2
        clear hbs'
        have HE := Lib.hid (show gainAt xs ys k = gainW xs ys[k] ys[j] by unfold gainAt; rw [← hjl, getI_at hlt, getI_at hjb])
        clear hjl
        have hj0 : (0 : Int) ≤ (j : Int) := by omega
        have hj1 : (j : Int) < (ys.length : Int) := by omega
        have hk0 : (0 : Int) ≤ (k : Int) := by omega
        have hk1 : (k : Int) < (ys.length : Int) := by omega
        have hl0 : (0 : Int) < (ys.length : Int) := by omega
        have hsum : IntKind.i64.wrap ((k : Int) + 1) = (k : Int) + 1 := IntWalk.i64_in _ (by omega)
        have hne : ((ys.length : Int) == 0) = false := by rw [beq_eq_false_iff_ne]; omega
        have htm : ((k : Int) + 1).tmod (ys.length : Int) = (j : Int) := by rw [Int.tmod_eq_emod_of_nonneg (by omega)]; exact hj
        have hbw : b < wr.heap.size := Nat.lt_of_lt_of_le hbs hb.size
        have hov := over_cell wr
        have HC : Hid (∀ x : World, Calls Try.prog 109 #[.slice A xs.length c, .int .i64 ys[k], .int .i64 ys[j]] (over wr x) (Ret (.int .i64 (gainW xs ys[k] ys[j])) (over wr x))) := Lib.hid (fun x => l20Gain_c xs _ _ _ _ _ (((hr.below hb).more hb.size).go (over_below wr x)) hn)
        have hrg := HW.out ys[k] ys[j]
        obtain ⟨q, hq⟩ : ∃ q, gainW xs ys[k] ys[j] = q := ⟨_, rfl⟩
        rw [hq] at HC HE hrg
        clear hq
        by_cases h0 : q = 0
        · subst h0
          have HV := Lib.hid (circB_no (n := n) (xs := xs) hlt HE.out)
          go_wp2_with fail
          refine wp_region_over (by kernel_rfl) (by kernel_rfl) ?_
          repeat (go_big_quiet_step (((go_at_call 109; exact Calls.over_of (HC.out _)))))
          refine wpQuiet_nil ?_
          intro _ hwx1
          obtain ⟨x1, hwx1⟩ := hwx1
          subst hwx1
          go_wp2_with fail
          go_returns
          exact ⟨0, rfl, by rw [HV.out]; rfl, below_via hb (over_below wr x1)⟩
        · have h0' : (q == 0) = false := by simpa using h0
          have hq1 : 1 ≤ q ∧ q ≤ 1000 := by rcases hrg with h | h; exact absurd h h0; exact h
          obtain ⟨hq1, hq2⟩ := hq1
          have HV := Lib.hid (gain_next HA.out (by rw [HE.out]; exact h0))
          clear h0 hrg
          go_wp2_with fail
          refine wp_region_over (by kernel_rfl) (by kernel_rfl) ?_
          repeat (go_big_quiet_step (((go_at_call 109; exact Calls.over_of (HC.out _)))))
          refine wpQuiet_nil ?_
          intro _ hwx1
          obtain ⟨x1, hwx1⟩ := hwx1
          subst hwx1
          go_wp2_with fail
          go_roundw
          case rel => exact ⟨k + 1, s + q, by omega, by go_num, rfl, by omega, by omega, HV.out, below_via hb (over_below wr x1)⟩
          case measure => simp [intOf]; omega
      · have HV := Lib.hid (show circB n xs ys = true by
          have h := HA.out
          rw [show k = ys.length by omega] at h
          unfold circB; rw [HG.out, h]; rfl)
        go_wp2_with fail
        go_returns
        exact ⟨s, rfl, by rw [HV.out]; exact decide_eq_true (by omega), hb⟩
def icV (n : Int) (xs : List Wish) (ys : List Int) : Bool := goodW n xs && circB n xs ys
theorem goodW_n {n : Int} {xs : List Wish} (h : goodW n xs = true) : 1 ≤ n ∧ n ≤ 8 := by
  simp only [goodW, Bool.and_eq_true, inR_iff] at h; exact h.1.1
theorem implIsCircle_c (n : Int) (xs : List Wish) (A : Option Addr) (c : Nat) (ys : List Int) (A' : Option Addr) (w : World) (hr : Rd encWish 3 w.heap.size w A xs) (hn : xs.length ≤ 1048576) (hr' : Rd encI 1 w.heap.size w A' ys) (hn' : ys.length ≤ 1048576) (hz : -9223372036854775808 ≤ n ∧ n ≤ 9223372036854775807) :
    Calls Try.prog 51 #[.int .i64 n, .slice A xs.length c, .slice A' ys.length ys.length] w (Ret (.tuple #[.bool (icV n xs ys), .bool (goodW n xs)]) w) := by
  by_cases hF : goodW n xs = false
  · go_enter Try.func51, Try.ntmps51
    have hbg := Below.refl w.heap.size w
    go_wp2_with fail
    refine (areWishes_c _ xs _ _ _ (hr.go hbg) hn hz).mono ?_
    rintro e wg0 ⟨rfl, hb0⟩
    have hbg := below_via hbg hb0
    go_wp2_with fail
    go_returns
    exact ⟨ret2 (vb (by simp [icV, hF])) (vb hF.symm), hbg⟩
  have G0 : goodW n xs = true := by simpa using hF
  clear hF
  go_enter Try.func51, Try.ntmps51
  have hbg := Below.refl w.heap.size w
  go_wp2_with fail
  refine (areWishes_c _ xs _ _ _ (hr.go hbg) hn hz).mono ?_
  rintro e wg0 ⟨rfl, hb0⟩
  have hbg := below_via hbg hb0
  obtain ⟨hn1, hn8⟩ := goodW_n G0
  have HV := Lib.hid (show icV n xs ys = circB n xs ys by simp [icV, G0])
  have HB := Lib.hid G0
  go_wp2_with fail
  clear G0
  refine (isCircle_c _ xs _ _ ys _ _ _ (hr.go hbg) hn (hr'.go hbg) (Nat.le_refl _) (by omega) hn1 hn8).mono ?_
  rintro e w1 ⟨rfl, hb1⟩
  go_wp2_with fail
  go_returns
  exact ⟨ret2 (vb HV.out.symm) (vb HB.out.symm), below_via hbg hb1⟩
theorem specIsCircle_c (n : Int) (xs : List Wish) (A : Option Addr) (c : Nat) (ys : List Int) (A' : Option Addr) (w : World) (hr : Rd encWish 3 w.heap.size w A xs) (hn : xs.length ≤ 1048576) (hr' : Rd encI 1 w.heap.size w A' ys) (hn' : ys.length ≤ 1048576) (hz : -9223372036854775808 ≤ n ∧ n ≤ 9223372036854775807) :
    Calls Try.prog 50 #[.int .i64 n, .slice A xs.length c, .slice A' ys.length ys.length] w (Ret (.tuple #[.bool (icV n xs ys), .bool (goodW n xs)]) w) := by
  by_cases hF : goodW n xs = false
  · go_enter Try.func50, Try.ntmps50
    have hbg := Below.refl w.heap.size w
    go_wp2_with fail
    refine (l20Good_c _ xs _ _ _ (hr.go hbg) hn hz).mono ?_
    rintro e wg0 ⟨rfl, hb0⟩
    have hbg := below_via hbg hb0
    go_wp2_with fail
    go_returns
    exact ⟨ret2 (vb (by simp [icV, hF])) (vb hF.symm), hbg⟩
  have G0 : goodW n xs = true := by simpa using hF
  clear hF
  go_enter Try.func50, Try.ntmps50
  have hbg := Below.refl w.heap.size w
  go_wp2_with fail
  refine (l20Good_c _ xs _ _ _ (hr.go hbg) hn hz).mono ?_
  rintro e wg0 ⟨rfl, hb0⟩
  have hbg := below_via hbg hb0
  obtain ⟨hn1, hn8⟩ := goodW_n G0
  have HV := Lib.hid (show icV n xs ys = circB n xs ys by simp [icV, G0])
  have HB := Lib.hid G0
  have HG := Lib.hid G0
  go_wp2_with fail
  clear G0
  refine (l20Sum_c _ xs _ _ ys _ _ _ (hr.go hbg) hn (hr'.go hbg) (by omega) HG.out hn1 hn8).mono ?_
  rintro e w1 ⟨s, rfl, hs, hb1⟩
  go_wp2_with fail
  go_returns
  exact ⟨ret2 (vb (by first | (rw [HV.out]; done) | (rw [HV.out]; exact hs))) (vb HB.out.symm), below_via hbg hb1⟩
end Go.Proofs.Ytbjgldfifbhjjaa
