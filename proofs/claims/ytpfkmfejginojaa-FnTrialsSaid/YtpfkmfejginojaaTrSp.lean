/- l2Before, l16Asked, l16Best: the reference's search. No condition but the sizes. -/
import Derived.Test.YtpfkmfejginojaaTrSs
import Derived.Test.YtpfkmfejginojaaOver
namespace Go.Proofs.Ytpfkmfejginojaa
set_option linter.unusedVariables false
set_option linter.unusedSimpArgs false
open Go.RowKit
attribute [local irreducible] wpQuiet
theorem before_ne {a b : List Int} (h : ¬ a.length = b.length) : beforeL a b = decide (a.length < b.length) := by unfold beforeL; rw [if_neg h]
theorem before_at {a b : List Int} (h : a.length = b.length) {i : Nat} (ha : i < a.length) (hb : i < b.length) (ht : a.take i = b.take i) (hne : a[i] ≠ b[i]) : beforeL a b = decide (a[i] < b[i]) := by unfold beforeL; rw [if_pos h]; exact lexB_ne ha hb ht hne
theorem before_eq {a b : List Int} (h : a.length = b.length) (ht : a.take a.length = b.take a.length) : beforeL a b = false := by
  have : a = b := by rw [List.take_length, h, List.take_length] at ht; exact ht
  subst this
  unfold beforeL; rw [if_pos rfl]; exact lexB_self a
set_option maxHeartbeats 1000000 in
theorem l2Before_c (a b : List Int) (A A' : Option Addr) (c c' : Nat) (w : World) (hr : Rd encI 1 w.heap.size w A a) (hr' : Rd encI 1 w.heap.size w A' b) (hn : a.length ≤ 2097152) (hn' : b.length ≤ 2097152) :
    Calls Try.prog 55 #[.slice A a.length c, .slice A' b.length c'] w (Ret (.bool (beforeL a b)) w) := by
  by_cases hl : a.length = b.length
  · have h0 : ((a.length : Int) != (b.length : Int)) = false := by rw [bne_eq_false_iff_eq]; omega
    have HN := Lib.hid (fun (i : Nat) (ha : i < a.length) (hb : i < b.length) (ht : a.take i = b.take i) (hne : a[i] ≠ b[i]) => before_at hl ha hb ht hne)
    have HE := Lib.hid (fun ht => before_eq hl ht)
    have HL := Lib.hid hl
    clear hl
    go_enter Try.func55, Try.ntmps55
    go_wp2_with fail
    go_loopw [5] (fun i wr => ∃ k : Nat, k ≤ a.length ∧ i = .int .i64 k ∧ a.take k = b.take k ∧ Below w.heap.size w wr) (fun i _ => a.length - (intOf i).toNat)
    case atStart => exact ⟨0, Nat.zero_le _, rfl, by simp, Below.refl _ _⟩
    case round =>
      obtain ⟨k, hk, rfl, htk, hb⟩ := hrel
      have HT := Lib.hid htk
      clear htk
      by_cases hlt : k < a.length
      · have hlb : k < b.length := by have := HL.out; omega
        obtain ⟨b1, off, rfl, hbs, d0⟩ := (hr.below hb).int hlt
        obtain ⟨b2, off2, rfl, hbs2, e0⟩ := (hr'.below hb).int hlb
        have hk0 : (0 : Int) ≤ (k : Int) := by omega
        have hk1 : (k : Int) < (a.length : Int) := by omega
        have hk2 : (k : Int) < (b.length : Int) := by omega
        by_cases hne : a[k] = b[k]
        · have hne' : (a[k] != b[k]) = false := by rw [hne]; simp
          have HS := Lib.hid (show a.take (k + 1) = b.take (k + 1) by rw [take_succ_get a k hlt, take_succ_get b k hlb, HT.out, hne])
          clear hne
          go_wp2_with fail
          go_quiet (fail)
          go_wp2_with fail
          go_roundw
          case rel => exact ⟨k + 1, by omega, by go_num, HS.out, below_drewN hb _⟩
          case measure => simp [intOf]; omega
        · have hne' : (a[k] != b[k]) = true := by rw [bne_iff_ne]; exact hne
          have HV := Lib.hid (HN.out k hlt hlb HT.out hne)
          clear hne HN HE
          generalize a[k] = p at *
          generalize b[k] = q at *
          go_wp2_with fail
          go_quiet (fail)
          go_wp2_with fail
          go_quiet (fail)
          go_wp2_with fail
          go_returns
          exact ⟨ret_bool HV.out.symm, below_drewN (below_drewN hb _) _⟩
      · have hke : k = a.length := by omega
        subst hke
        have HV := Lib.hid (HE.out HT.out)
        clear HN HE
        go_wp2_with fail
        go_returns
        exact ⟨ret_bool HV.out.symm, hb⟩
  · have h0 : ((a.length : Int) != (b.length : Int)) = true := by rw [bne_iff_ne]; omega
    have HV := Lib.hid (before_ne hl)
    clear hl
    go_enter Try.func55, Try.ntmps55
    go_wp2_with fail
    go_returns
    exact ⟨ret_bool (by rw [HV.out]), Below.refl _ _⟩
def askB (xs : List Trial) (o : Odds) (num den : Int) : Bool := goodT xs && isOd o.real o.fake && inR den 1 1000 && inR num 1 den
theorem l16Asked_c (xs : List Trial) (A : Option Addr) (c : Nat) (o : Odds) (num den : Int) (w : World) (hr : Rd encTrial 3 w.heap.size w A xs) (hn : xs.length ≤ 1048576) :
    Calls Try.prog 28 #[.slice A xs.length c, .agg #[.int .i64 o.real, .int .i64 o.fake], .int .i64 num, .int .i64 den] w (Ret (.bool (askB xs o num den)) w) := by
  have hbA : Below w.heap.size w (w.alloc (.cells #[.int .i64 o.real, .int .i64 o.fake] 31)) := by go_grown
  have p0 : (w.alloc (.cells #[.int .i64 o.real, .int .i64 o.fake] 31)).cell? ⟨w.heap.size, 0, none⟩ = some (.int .i64 o.real) := by simp
  have p1 : (w.alloc (.cells #[.int .i64 o.real, .int .i64 o.fake] 31)).cell? ⟨w.heap.size, 1, none⟩ = some (.int .i64 o.fake) := by simp
  have hsA : w.heap.size < (w.alloc (.cells #[.int .i64 o.real, .int .i64 o.fake] 31)).heap.size := by simp
  go_enter Try.func28, Try.ntmps28
  go_wp2_with fail
  generalize w.alloc (.cells #[.int .i64 o.real, .int .i64 o.fake] 31) = W at *
  refine (l16Good_c xs _ _ _ (hr.go hbA) hn).mono ?_
  rintro _ w1 ⟨rfl, hb1⟩
  have p0 := (hb1.cell (p := ⟨w.heap.size, 0, none⟩) hsA).trans p0
  have p1 := (hb1.cell (p := ⟨w.heap.size, 1, none⟩) hsA).trans p1
  have hbg := below_via hbA hb1
  cases hG : goodT xs with
  | false =>
    have HV := Lib.hid (show askB xs o num den = false by simp [askB, hG])
    clear hG
    go_wp2_with fail
    go_returns
    exact ⟨ret_bool HV.out.symm, hbg⟩
  | true =>
    go_wp2_with fail
    refine (l16Odds_c _ _ _).mono ?_
    rintro _ w2 ⟨rfl, hb2⟩
    have hbg := below_via hbg hb2
    cases hO : isOd o.real o.fake with
    | false =>
      have HV := Lib.hid (show askB xs o num den = false by simp [askB, hO])
      clear hO hG
      go_wp2_with fail
      go_returns
      exact ⟨ret_bool HV.out.symm, hbg⟩
    | true =>
      go_wp2_with fail
      refine (l1In_c _ _ _ _).mono ?_
      rintro _ _ ⟨rfl, rfl⟩
      cases hD : inR den 1 1000 with
      | false =>
        have HV := Lib.hid (show askB xs o num den = false by simp [askB, hD])
        clear hO hG hD
        go_wp2_with fail
        go_returns
        exact ⟨ret_bool HV.out.symm, hbg⟩
      | true =>
        have HV := Lib.hid (show askB xs o num den = inR num 1 den by simp [askB, hG, hO, hD])
        clear hO hG hD
        go_wp2_with fail
        refine (l1In_c _ _ _ _).mono ?_
        rintro _ _ ⟨rfl, rfl⟩
        rw [← HV.out]
        go_wp2_with fail
        go_returns
        exact ⟨rfl, hbg⟩
end Go.Proofs.Ytpfkmfejginojaa
