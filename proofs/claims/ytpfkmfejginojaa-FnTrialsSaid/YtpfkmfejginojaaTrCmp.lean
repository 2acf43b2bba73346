/- The comparisons that the program hands to bestTrials: the contracts. No condition but the sizes. -/
import Derived.Test.YtpfkmfejginojaaTrBest
namespace Go.Proofs.Ytpfkmfejginojaa
set_option linter.unusedVariables false
set_option linter.unusedSimpArgs false
open Go.RowKit
theorem compL_end {a b : List Int} {k : Nat} (h : compL a b = compL (a.drop k) (b.drop k)) (ha : a.length ≤ k) : compL a b = if k < b.length then -1 else 0 := by
  rw [h, List.drop_of_length_le ha]
  split
  · rename_i hb; rw [List.drop_eq_getElem_cons hb]; rfl
  · rename_i hb; rw [List.drop_of_length_le (by omega)]; rfl
theorem compL_out {a b : List Int} {k : Nat} (h : compL a b = compL (a.drop k) (b.drop k)) (ha : k < a.length) (hb : b.length ≤ k) : compL a b = 1 := by
  rw [h, List.drop_eq_getElem_cons ha, List.drop_of_length_le hb]; rfl
theorem compL_eq {a b : List Int} {k : Nat} (h : compL a b = compL (a.drop k) (b.drop k)) (ha : k < a.length) (hb : k < b.length) (h0 : cmpI a[k] b[k] = 0) : compL a b = compL (a.drop (k + 1)) (b.drop (k + 1)) := by
  rw [h, List.drop_eq_getElem_cons ha, List.drop_eq_getElem_cons hb]
  conv => lhs; unfold compL
  rw [if_pos h0]
theorem compL_ne {a b : List Int} {k : Nat} (h : compL a b = compL (a.drop k) (b.drop k)) (ha : k < a.length) (hb : k < b.length) (h0 : ¬ cmpI a[k] b[k] = 0) : compL a b = cmpI a[k] b[k] := by
  rw [h, List.drop_eq_getElem_cons ha, List.drop_eq_getElem_cons hb]
  conv => lhs; unfold compL
  rw [if_neg h0]
set_option maxHeartbeats 1000000 in
theorem compareL_c (a b : List Int) (A A' : Option Addr) (c c' : Nat) (w : World) (hr : Rd encI 1 w.heap.size w A a) (hr' : Rd encI 1 w.heap.size w A' b) (hn : a.length ≤ 2097152) (hn' : b.length ≤ 2097152) :
    Calls Try.prog 38 #[.slice A a.length c, .slice A' b.length c'] w (Pure (.int .i64 (compL a b)) w) := by
  go_enter Try.func38, Try.ntmps38
  go_wp2_with fail
  go_loop [11] (fun i => ∃ k : Nat, k ≤ a.length ∧ i = .int .i64 k ∧ compL a b = compL (a.drop k) (b.drop k)) (fun i => a.length - (intOf i).toNat)
  case atStart => exact ⟨0, Nat.zero_le _, rfl, by simp⟩
  case round =>
    obtain ⟨k, hk, rfl, heq⟩ := hrel
    have HE := Lib.hid heq
    clear heq
    by_cases hlt : k < a.length
    · obtain ⟨b1, off, rfl, hbs, d0⟩ := hr.int hlt
      by_cases hlb : k < b.length
      · obtain ⟨b2, off2, rfl, hbs2, e0⟩ := hr'.int hlb
        have hge : ¬ (b.length : Int) ≤ (k : Int) := by omega
        have hk0 : (0 : Int) ≤ (k : Int) := by omega
        have hk1 : (k : Int) < (b.length : Int) := by omega
        by_cases h0 : cmpI a[k] b[k] = 0
        · have HN := Lib.hid (compL_eq HE.out hlt hlb h0)
          have h0' : (cmpI a[k] b[k] != 0) = false := by simp [h0]
          clear h0
          go_wp2_with fail
          refine (compare_c _ _ _).mono ?_
          rintro _ _ ⟨rfl, rfl⟩
          generalize cmpI a[k] b[k] = q at *
          go_wp2_with fail
          go_round
          case rel => exact ⟨k + 1, by omega, by go_num, HN.out⟩
          case measure => simp [intOf]; omega
        · have HN := Lib.hid (compL_ne HE.out hlt hlb h0)
          have h0' : (cmpI a[k] b[k] != 0) = true := by simp [h0]
          clear h0
          go_wp2_with fail
          refine (compare_c _ _ _).mono ?_
          rintro _ _ ⟨rfl, rfl⟩
          generalize cmpI a[k] b[k] = q at *
          go_wp2_with fail
          go_returns
          exact ⟨ret_int HN.out.symm, rfl⟩
      · have HN := Lib.hid (compL_out HE.out hlt (by omega))
        have hge : (b.length : Int) ≤ (k : Int) := by omega
        go_wp2_with fail
        go_returns
        exact ⟨ret_int HN.out.symm, rfl⟩
    · have hke : k = a.length := by omega
      have HN := Lib.hid (compL_end HE.out (by omega))
      by_cases hlb : k < b.length
      · have hl : (a.length : Int) < (b.length : Int) := by omega
        rw [if_pos hlb] at HN
        go_wp2_with fail
        go_returns
        exact ⟨ret_int HN.out.symm, rfl⟩
      · have hl : ¬ (a.length : Int) < (b.length : Int) := by omega
        rw [if_neg hlb] at HN
        go_wp2_with fail
        go_returns
        exact ⟨ret_int HN.out.symm, rfl⟩
theorem fewest1_c (a b : List Int) (A A' : Option Addr) (c c' : Nat) (w : World) (hr : Rd encI 1 w.heap.size w A a) (hr' : Rd encI 1 w.heap.size w A' b) (hn : a.length ≤ 2097152) (hn' : b.length ≤ 2097152) :
    Calls Try.prog 35 #[.slice A a.length c, .slice A' b.length c'] w (Ret (.int .i64 (orI [cmpI a.length b.length, compL a b])) w) := by
  go_enter Try.func35, Try.ntmps35
  go_wp2_with fail
  refine (compare_c _ _ _).mono ?_
  rintro _ _ ⟨rfl, rfl⟩
  go_wp2_with fail
  refine (compareL_c a b _ _ _ _ _ hr hr' hn hn').mono ?_
  rintro _ _ ⟨rfl, rfl⟩
  generalize cmpI (a.length : Int) (b.length : Int) = p at *
  generalize compL a b = q at *
  go_wp2_with fail
  refine (or2_c p q _ _ _ (by simp) (by simp)).mono ?_
  rintro _ _ ⟨rfl, rfl⟩
  go_wp2_with fail
  go_returns
  exact ⟨rfl, by go_grown⟩
set_option maxHeartbeats 1000000 in
theorem pricesOf_c (xs : List Trial) (A : Option Addr) (c : Nat) (ys : List Int) (A' : Option Addr) (c' : Nat) (w : World) (hr : Rd encTrial 3 w.heap.size w A xs) (hr' : Rd encI 1 w.heap.size w A' ys) (hg : goodT xs = true) (hn' : ys.length ≤ 6) (hm : ∀ y ∈ ys, 0 ≤ y ∧ y < (xs.length : Int)) :
    Calls Try.prog 41 #[.slice A xs.length c, .slice A' ys.length c'] w (Pure (.int .i64 (priceL xs ys)) w) := by
  have hlen := good_len hg
  have HB := Lib.hid (fun l => priceL_bd (fun i h => good_all hg h) l)
  have HM := Lib.hid hm
  have HG := Lib.hid hg
  clear hm hg
  go_enter Try.func41, Try.ntmps41
  go_wp2_with fail
  go_loop [5, 10] (fun u i => ∃ k : Nat, k ≤ ys.length ∧ i = .int .i64 k ∧ u = .int .i64 (priceL xs (ys.take k))) (fun _ i => ys.length - (intOf i).toNat)
  case atStart => exact ⟨0, Nat.zero_le _, rfl, rfl⟩
  case round =>
    obtain ⟨k, hk, rfl, rfl⟩ := hrel
    by_cases hlt : k < ys.length
    · obtain ⟨b, off, rfl, hbs, d0⟩ := hr'.int hlt
      have hy := HM.out _ (List.getElem_mem hlt)
      obtain ⟨i, hi⟩ : ∃ i : Nat, ys[k] = (i : Int) := ⟨ys[k].toNat, by omega⟩
      have hil : i < xs.length := by omega
      obtain ⟨b2, off2, rfl, hbs2, e0, e1, e2⟩ := hr.atTrial hil
      have HS := Lib.hid (show priceL xs (ys.take (k + 1)) = priceL xs (ys.take k) + xs[i].price by rw [take_succ_get ys k hlt, priceL_app, hi, priceL_one hil])
      have hb1 := HB.out (ys.take k)
      rw [List.length_take] at hb1
      have hp := ok_bd (good_all HG.out hil)
      have hp1 : 0 ≤ xs[i].price := hp.2.2.2.2.1
      have hp2 : xs[i].price ≤ 1000 := hp.2.2.2.2.2
      rw [hi] at d0
      clear hy hp hi
      have hi0 : (0 : Int) ≤ (i : Int) := by omega
      have hi1 : (i : Int) < (xs.length : Int) := by omega
      generalize priceL xs (ys.take k) = q at *
      generalize xs[i].price = pr at *
      go_wp2_with fail
      go_round
      case rel => exact ⟨k + 1, by omega, by go_num, by rw [HS.out]⟩
      case measure => simp [intOf]; omega
    · have hke : k = ys.length := by omega
      subst hke
      rw [List.take_length]
      go_wp2_with fail
      go_returns
      exact ⟨rfl, rfl⟩
end Go.Proofs.Ytpfkmfejginojaa
