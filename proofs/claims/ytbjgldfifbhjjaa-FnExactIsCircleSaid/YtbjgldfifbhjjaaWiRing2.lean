/- Contracts of IsCircle: the program's and the reference's. No condition but the sizes. -/
import Derived.Test.YtbjgldfifbhjjaaWiRing
namespace Go.Proofs.Ytbjgldfifbhjjaa
set_option linter.unusedVariables false
set_option linter.unusedSimpArgs false
open Go.RowKit
attribute [local irreducible] wpQuiet
/-- Place i of people: a person, not before the first one, and not one of those before. -/
def rAt (n : Int) (ys : List Int) (i : Nat) : Bool := match ys[i]?, ys[0]? with
  | some p, some q => inR p 0 (n - 1) && decide (q ≤ p) && !((ys.take i).any fun y => decide (y = p))
  | _, _ => true
def ringB (n : Int) (ys : List Int) : Bool := (List.range ys.length).all (rAt n ys) && inR (ys.length : Int) 2 n
theorem rAt_val {n : Int} {ys : List Int} {i : Nat} (h : i < ys.length) : rAt n ys i = (inR ys[i] 0 (n - 1) && decide ((ys[0]'(by omega)) ≤ ys[i]) && !((ys.take i).any fun y => decide (y = ys[i]))) := by
  have h0 : 0 < ys.length := by omega
  simp [rAt, h, h0]
theorem ringB_no {n : Int} {ys : List Int} {k : Nat} (h : k < ys.length) (ho : rAt n ys k = false) : ringB n ys = false := by
  have : (List.range ys.length).all (rAt n ys) = false := List.all_eq_false.2 ⟨k, List.mem_range.2 h, by simp [ho]⟩
  simp [ringB, this]
theorem any_no {ys : List Int} {k : Nat} {v : Int} (h : ∀ y ∈ ys.take k, decide (y = v) = false) : (ys.take k).any (fun y => decide (y = v)) = false := List.any_eq_false.2 fun y hy => by rw [h y hy]; exact Bool.false_ne_true
theorem Rd.takeI {B : Nat} {w : World} {A : Option Addr} {xs : List Int} (h : Rd encI 1 B w A xs) (i : Nat) : Rd encI 1 B w A (xs.take i) := fun hn => by
  obtain ⟨b, off, hA, hb, hc⟩ := h (by simp at hn; omega)
  exact ⟨b, off, hA, hb, fun j x hx => hc j x (by rw [List.getElem?_take] at hx; split at hx; exact hx; cases hx)⟩
theorem cont_take {w W : World} {ys : List Int} {A : Option Addr} {c k : Nat} {v : Int} (hr : Rd encI 1 w.heap.size w A ys) (hb : Below w.heap.size w W) (hk : k < ys.length) (hn : ys.length ≤ 2097152) :
    Calls Try.prog 116 #[.slice A k c, .int .i64 v] W (Ret (.bool ((ys.take k).any fun y => decide (y = v))) W) := by
  have h := containsI_c (ys.take k) A c v W ((hr.go hb).takeI k) (by simp; omega)
  have e : (ys.take k).length = k := by simp; omega
  rw [e] at h
  exact h
set_option maxRecDepth 100000 in
set_option maxHeartbeats 4000000 in
theorem arePeople_c (n : Int) (ys : List Int) (A : Option Addr) (c : Nat) (w : World) (hr : Rd encI 1 w.heap.size w A ys) (hc : ys.length ≤ c) (hn : ys.length ≤ 2097152) (hn1 : 1 ≤ n) (hn8 : n ≤ 8) :
    Calls Try.prog 110 #[.int .i64 n, .slice A ys.length c] w (Ret (.bool (ringB n ys)) w) := by
  go_enter Try.func110, Try.ntmps110
  go_wp2_with fail
  go_loopw [9] (fun i wr => ∃ k : Nat, k ≤ ys.length ∧ i = .int .i64 k ∧ (∀ i (hi : i < ys.length), i < k → inR ys[i] (ys[0]'(by omega)) (n - 1) = true ∧ ((ys.take i).any fun y => decide (y = ys[i])) = false) ∧ Below w.heap.size w wr) (fun i _ => ys.length - (intOf i).toNat)
  case atStart => exact ⟨0, Nat.zero_le _, rfl, fun i hi h => absurd h (by omega), Below.refl _ _⟩
  case round =>
    obtain ⟨k, hk, rfl, hall, hb⟩ := hrel
    have HA := Lib.hid hall
    clear hall
    by_cases hlt : k < ys.length
    · obtain ⟨b, off, rfl, hbs, d0⟩ := (hr.below hb).int hlt
      obtain ⟨b', off', hA, hbs', z0⟩ := (hr.below hb).int (show 0 < ys.length by omega)
      injection hA with hA; injection hA with hA1 hA2
      subst hA1 hA2
      clear hbs'
      simp only [Nat.add_zero] at z0
      have hl0 : (0 : Int) < (ys.length : Int) := by omega
      have hk0 : (0 : Int) ≤ (k : Int) := by omega
      have hkc : (k : Int) ≤ (c : Int) := by omega
      have HR := Lib.hid (rAt_val (n := n) hlt)
      by_cases h1 : inR ys[k] (ys[0]'(by omega)) (n - 1) = true
      · by_cases h2 : ((ys.take k).any fun y => decide (y = ys[k])) = true
        · have HV := Lib.hid (ringB_no (n := n) hlt (by rw [HR.out, h2]; simp))
          go_wp2_with (first | (go_at_call 96; refine (inRange_c _ _ _ _).mono ?_; rintro e w' ⟨rfl, rfl⟩) | (go_at_call 116; refine (cont_take hr hb hlt hn).mono ?_; rintro e w1 ⟨rfl, hb1⟩))
          go_returns
          exact ⟨ret_bool HV.out.symm, below_via hb hb1⟩
        · have h2' : ((ys.take k).any fun y => decide (y = ys[k])) = false := by simpa only [Bool.not_eq_true] using h2
          have HN := Lib.hid (show ∀ i (hi : i < ys.length), i < k + 1 → inR ys[i] (ys[0]'(by omega)) (n - 1) = true ∧ ((ys.take i).any fun y => decide (y = ys[i])) = false from fun i hi h => by
            rcases Nat.lt_or_ge i k with h3 | h3
            · exact HA.out i hi h3
            · have e : i = k := by omega
              subst e; exact ⟨h1, h2'⟩)
          clear h2
          go_wp2_with (first | (go_at_call 96; refine (inRange_c _ _ _ _).mono ?_; rintro e w' ⟨rfl, rfl⟩) | (go_at_call 116; refine (cont_take hr hb hlt hn).mono ?_; rintro e w1 ⟨rfl, hb1⟩))
          go_roundw
          case rel => exact ⟨k + 1, by omega, by go_num, HN.out, below_via hb hb1⟩
          case measure => simp [intOf]; omega
      · have h1' : inR ys[k] (ys[0]'(by omega)) (n - 1) = false := by simpa only [Bool.not_eq_true] using h1
        have HV := Lib.hid (show ringB n ys = false by
          by_cases hz : 0 ≤ ys[0]'(by omega)
          · refine ringB_no (n := n) hlt ?_
            rw [HR.out]
            have : (inR ys[k] 0 (n - 1) && decide ((ys[0]'(by omega)) ≤ ys[k])) = false := by
              cases h : (inR ys[k] 0 (n - 1) && decide ((ys[0]'(by omega)) ≤ ys[k])) with
              | false => rfl
              | true =>
                simp only [Bool.and_eq_true, inR_iff, decide_eq_true_eq] at h
                exact absurd (inR_iff.2 ⟨h.2, h.1.2⟩) h1
            rw [this]; rfl
          · refine ringB_no (n := n) (k := 0) (by omega) ?_
            rw [rAt_val (by omega)]
            have : inR (ys[0]'(by omega)) 0 (n - 1) = false := by
              cases h : inR (ys[0]'(by omega)) 0 (n - 1) with
              | false => rfl
              | true => exact absurd (inR_iff.1 h).1 hz
            rw [this]; rfl)
        clear h1
        go_wp2_with (go_at_call 96; refine (inRange_c _ _ _ _).mono ?_; rintro e w' ⟨rfl, rfl⟩)
        go_returns
        exact ⟨ret_bool HV.out.symm, hb⟩
    · have hke : k = ys.length := by omega
      by_cases h1 : inR (ys.length : Int) 2 n = true
      · have h2 := inR_iff.1 h1
        obtain ⟨b, off, rfl, hbs, z0⟩ := (hr.below hb).int (show 0 < ys.length by omega)
        simp only [Nat.add_zero] at z0
        have hl0 : (0 : Int) < (ys.length : Int) := by omega
        have HV := Lib.hid (show ringB n ys = decide (0 ≤ ys[0]'(by omega)) by
          by_cases hz : 0 ≤ ys[0]'(by omega)
          · rw [decide_eq_true hz]
            unfold ringB
            rw [h1, Bool.and_true]
            refine List.all_eq_true.2 fun i hi => ?_
            have hil := List.mem_range.1 hi
            obtain ⟨h3, h4⟩ := HA.out i hil (by omega)
            rw [rAt_val hil, h4]
            have h5 := inR_iff.1 h3
            rw [inR_iff.2 ⟨by omega, h5.2⟩, decide_eq_true h5.1]; rfl
          · rw [decide_eq_false hz]
            refine ringB_no (n := n) (k := 0) (by omega) ?_
            rw [rAt_val (by omega)]
            have : inR (ys[0]'(by omega)) 0 (n - 1) = false := by
              cases h : inR (ys[0]'(by omega)) 0 (n - 1) with
              | false => rfl
              | true => exact absurd (inR_iff.1 h).1 hz
            rw [this]; rfl)
        clear hke
        go_wp2_with (go_at_call 96; refine (inRange_c _ _ _ _).mono ?_; rintro e w' ⟨rfl, rfl⟩)
        go_returns
        exact ⟨ret_bool HV.out.symm, hb⟩
      · have h1' : inR (ys.length : Int) 2 n = false := by simpa only [Bool.not_eq_true] using h1
        have HV := Lib.hid (show ringB n ys = false by unfold ringB; rw [h1', Bool.and_false])
        clear hke h1
        go_wp2_with (go_at_call 96; refine (inRange_c _ _ _ _).mono ?_; rintro e w' ⟨rfl, rfl⟩)
        go_returns
        exact ⟨ret_bool HV.out.symm, hb⟩
set_option maxRecDepth 100000 in
set_option maxHeartbeats 4000000 in
theorem l20Ring_c (n : Int) (ys : List Int) (A : Option Addr) (c : Nat) (w : World) (hr : Rd encI 1 w.heap.size w A ys) (hn : ys.length ≤ 2097152) (hn1 : 1 ≤ n) (hn8 : n ≤ 8) :
    Calls Try.prog 108 #[.int .i64 n, .slice A ys.length c] w (Ret (.bool (ringB n ys)) w) := by
  go_enter Try.func108, Try.ntmps108
  go_wp2_with fail
  go_loopw [5] (fun i wr => ∃ k : Nat, k ≤ ys.length ∧ (k : Int) ≤ n + 1 ∧ i = .int .i64 k ∧ (List.range k).all (rAt n ys) = true ∧ Below w.heap.size w wr) (fun i _ => ys.length - (intOf i).toNat)
  case atStart => exact ⟨0, Nat.zero_le _, by omega, rfl, rfl, Below.refl _ _⟩
  case round =>
    obtain ⟨k, hk, hkn, rfl, hall, hb⟩ := hrel
    have HA := Lib.hid hall
    clear hall
    by_cases hlt : k < ys.length
    · by_cases hkn2 : (k : Int) ≤ n
      · have hk2' : decide ((k : Int) ≤ n) = true := decide_eq_true hkn2
        obtain ⟨b, off, rfl, hbs, d0⟩ := (hr.below hb).int hlt
        obtain ⟨b', off', hA, hbs', z0⟩ := (hr.below hb).int (show 0 < ys.length by omega)
        injection hA with hA; injection hA with hA1 hA2
        subst hA1 hA2
        clear hbs'
        simp only [Nat.add_zero] at z0
        have hbw : b < wr.heap.size := Nat.lt_of_lt_of_le hbs hb.size
        have hov := over_cell wr
        have hl0 : (0 : Int) < (ys.length : Int) := by omega
        have hk0 : (0 : Int) ≤ (k : Int) := by omega
        have hk1 : (k : Int) < (ys.length : Int) := by omega
        have HR := Lib.hid (rAt_val (n := n) hlt)
        by_cases h1 : perB n ys[k] = true
        · by_cases h2 : ys[k] < ys[0]'(by omega)
          · have h2' : decide (ys[k] < ys[0]'(by omega)) = true := decide_eq_true h2
            have HV := Lib.hid (ringB_no (n := n) hlt (by rw [HR.out, decide_eq_false (show ¬ (ys[0]'(by omega)) ≤ ys[k] by omega)]; simp))
            clear h2
            go_wp2_with fail
            refine wp_region_over (by kernel_rfl) (by kernel_rfl) ?_
            repeat (go_big_quiet_step (((go_at_call 107; exact Calls.over_pure (l20Person_c _ _ _)))))
            refine wpQuiet_nil ?_
            intro _ hwx1
            obtain ⟨x1, hwx1⟩ := hwx1
            subst hwx1
            go_wp2_with fail
            go_returns
            exact ⟨ret_bool HV.out.symm, below_via hb (over_below wr x1)⟩
          · have h2' : decide (ys[k] < ys[0]'(by omega)) = false := decide_eq_false h2
            have HR := Lib.hid (show rAt n ys k = !((ys.take k).any fun y => decide (y = ys[k])) by
              rw [HR.out, ← perB_eq, h1, decide_eq_true (show (ys[0]'(by omega)) ≤ ys[k] by omega)]; rfl)
            clear h2
            go_wp2_with fail
            refine wp_region_over (by kernel_rfl) (by kernel_rfl) ?_
            repeat (go_big_quiet_step (((go_at_call 107; exact Calls.over_pure (l20Person_c _ _ _)))))
            refine wpQuiet_nil ?_
            intro _ hwx1
            obtain ⟨x1, hwx1⟩ := hwx1
            subst hwx1
            obtain ⟨W1, hW1⟩ : ∃ W1, over wr x1 = W1 := ⟨_, rfl⟩
            have hbW1 := over_below wr x1
            rw [hW1] at hbW1 ⊢
            rw [h1]
            clear hW1 hov hbw d0 z0
            have hbW := below_via hb hbW1
            go_wp2_with fail
            obtain ⟨wo, rfl⟩ : ∃ wo : World, wo = wr := ⟨_, rfl⟩
            go_loopw [6] (fun i wr => ∃ m : Nat, m ≤ k ∧ i = .int .i64 m ∧ (∀ y ∈ ys.take m, decide (y = ys[k]) = false) ∧ Below W1.heap.size W1 wr) (fun i _ => k - (intOf i).toNat)
            case atStart => exact ⟨0, Nat.zero_le _, rfl, by simp, Below.refl _ _⟩
            case round =>
              obtain ⟨m, hm, rfl, hun, hbq⟩ := hrel
              have HU := Lib.hid hun
              clear hun
              have hbX := below_via hbW hbq
              by_cases hmk : m < k
              · have hml : m < ys.length := by omega
                obtain ⟨b', off', hA, hbs', d0⟩ := (hr.below hbX).int hlt
                injection hA with hA; injection hA with hA1 hA2
                subst hA1 hA2
                clear hbs'
                obtain ⟨b', off', hA, hbs', g0⟩ := (hr.below hbX).int hml
                injection hA with hA; injection hA with hA1 hA2
                subst hA1 hA2
                clear hbs'
                have hbw : b < wr.heap.size := Nat.lt_of_lt_of_le hbs hbX.size
                have hov := over_cell wr
                have hm0 : (0 : Int) ≤ (m : Int) := by omega
                have hm1 : (m : Int) < (ys.length : Int) := by omega
                by_cases he : ys[m] = ys[k]
                · have he' : (ys[m] == ys[k]) = true := by simpa using he
                  have HV := Lib.hid (ringB_no (n := n) hlt (by rw [HR.out, List.any_eq_true.2 ⟨ys[m], List.mem_take_iff_getElem.2 ⟨m, by omega, rfl⟩, by simpa using he⟩]; rfl))
                  clear he
                  go_wp2_with fail
                  refine wp_region_over (by kernel_rfl) (by kernel_rfl) ?_
                  repeat (go_big_quiet_step (fail))
                  refine wpQuiet_nil ?_
                  intro _ hwx2
                  obtain ⟨x2, hwx2⟩ := hwx2
                  subst hwx2
                  go_wp2_with fail
                  go_returns
                  exact ⟨ret_bool HV.out.symm, below_via hbX (over_below wr x2)⟩
                · have he' : (ys[m] == ys[k]) = false := by simpa using he
                  have HV := Lib.hid (take_no (p := fun y => decide (y = ys[k])) hml HU.out (by simpa using he))
                  clear he
                  go_wp2_with fail
                  refine wp_region_over (by kernel_rfl) (by kernel_rfl) ?_
                  repeat (go_big_quiet_step (fail))
                  refine wpQuiet_nil ?_
                  intro _ hwx2
                  obtain ⟨x2, hwx2⟩ := hwx2
                  subst hwx2
                  go_wp2_with fail
                  go_roundw
                  case rel => exact ⟨m + 1, by omega, by go_num, HV.out, below_via hbq (over_below wr x2)⟩
                  case measure => simp [intOf]; omega
              · have HK := Lib.hid (show rAt n ys k = true by
                  have hmk' : m = k := by omega
                  have hu := HU.out
                  rw [hmk'] at hu
                  rw [HR.out, any_no hu]; rfl)
                go_wp2_with fail
                go_roundw
                case rel => exact ⟨k + 1, by omega, by omega, by go_num, range_next HA.out HK.out, hbX⟩
                case measure => simp [intOf]; omega
        · have h1' : perB n ys[k] = false := by simpa only [Bool.not_eq_true] using h1
          have HV := Lib.hid (ringB_no (n := n) hlt (by rw [HR.out, ← perB_eq, h1']; rfl))
          clear h1
          go_wp2_with fail
          refine wp_region_over (by kernel_rfl) (by kernel_rfl) ?_
          repeat (go_big_quiet_step (((go_at_call 107; exact Calls.over_pure (l20Person_c _ _ _)))))
          refine wpQuiet_nil ?_
          intro _ hwx1
          obtain ⟨x1, hwx1⟩ := hwx1
          subst hwx1
          go_wp2_with fail
          go_returns
          exact ⟨ret_bool HV.out.symm, below_via hb (over_below wr x1)⟩
      · have hk2' : decide ((k : Int) ≤ n) = false := decide_eq_false hkn2
        have h1' : inR (ys.length : Int) 2 n = false := by
          cases h : inR (ys.length : Int) 2 n with
          | false => rfl
          | true => have := (inR_iff.1 h).2; omega
        have HV := Lib.hid (show ringB n ys = false by unfold ringB; rw [h1', Bool.and_false])
        go_wp2_with (go_at_call 99; refine (l1In_c _ _ _ _).mono ?_; rintro e w' ⟨rfl, rfl⟩)
        go_returns
        exact ⟨ret_bool (by first | exact HV.out.symm | rw [HV.out, h1']), hb⟩
    · have HV := Lib.hid (show ringB n ys = inR (ys.length : Int) 2 n by
        have h := HA.out
        rw [show k = ys.length by omega] at h
        unfold ringB; rw [h, Bool.true_and])
      go_wp2_with (go_at_call 99; refine (l1In_c _ _ _ _).mono ?_; rintro e w' ⟨rfl, rfl⟩)
      go_returns
      exact ⟨ret_bool HV.out.symm, hb⟩
end Go.Proofs.Ytbjgldfifbhjjaa
