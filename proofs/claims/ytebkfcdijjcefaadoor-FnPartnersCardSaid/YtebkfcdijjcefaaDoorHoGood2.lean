/- Contracts of the functions that ask whether a list are holds: the loops. No condition but the sizes. -/
import Derived.Test.YtebkfcdijjcefaaDoorHoGood
import Derived.IntWalk
namespace Go.Proofs.YtebkfcdijjcefaaDoor
set_option linter.unusedVariables false
set_option linter.unusedSimpArgs false
open Go.RowKit
/-- Place k of the list: a hold that lies behind the one before. -/
def okAtH (xs : List Hold) (k : Nat) : Bool := match xs[k]? with
  | none => true
  | some x => x.ok && (decide (k = 0) || match xs[k - 1]? with | none => false | some y => y.bef x)
def goodH (xs : List Hold) : Bool := (List.range xs.length).all (okAtH xs) && decide (xs.length ≤ 20)
theorem okAtH_0 {xs : List Hold} (h : 0 < xs.length) : okAtH xs 0 = xs[0].ok := by simp [okAtH, h]
theorem okAtH_s {xs : List Hold} {j : Nat} (h : j + 1 < xs.length) : okAtH xs (j + 1) = (xs[j + 1].ok && xs[j].bef xs[j + 1]) := by
  have h' : j < xs.length := by omega
  simp [okAtH, h, h']
theorem okAtH_no {xs : List Hold} {k : Nat} (h : k < xs.length) (ho : xs[k].ok = false) : okAtH xs k = false := by simp [okAtH, h, ho]
theorem goodH_no {xs : List Hold} {k : Nat} (h : k < xs.length) (ho : okAtH xs k = false) : goodH xs = false := by
  have : (List.range xs.length).all (okAtH xs) = false := List.all_eq_false.2 ⟨k, List.mem_range.2 h, by simp [ho]⟩
  simp [goodH, this]
theorem goodH_all {xs : List Hold} (h : (List.range xs.length).all (okAtH xs) = true) : decide ((xs.length : Int) ≤ 20) = goodH xs := by
  simp only [goodH, h, Bool.true_and]
  congr 1; simp; omega
theorem range_next {p : Nat → Bool} {k : Nat} (h : (List.range k).all p = true) (hk : p k = true) : (List.range (k + 1)).all p = true := by
  rw [List.range_succ, List.all_append, h]; simp [hk]
attribute [local irreducible] wpQuiet
set_option maxRecDepth 100000 in
set_option maxHeartbeats 4000000 in
theorem l19Good_c (xs : List Hold) (A : Option Addr) (c : Nat) (w : World) (hr : Rd encHold 3 w.heap.size w A xs) (hn : xs.length ≤ 1048576) (hw : ∀ x ∈ xs, x.owner.size ≤ 9223372036854775807) :
    Calls Tryd.prog 30 #[.slice A xs.length c] w (Ret (.bool (goodH xs)) w) := by
  have HW := Lib.hid (fun (i : Nat) (h : i < xs.length) => hw xs[i] (List.getElem_mem h))
  clear hw
  go_enter Tryd.func30, Tryd.ntmps30
  go_wp2_with fail
  go_loopw [3] (fun i wr => ∃ k : Nat, k ≤ xs.length ∧ i = .int .i64 k ∧ (List.range k).all (okAtH xs) = true ∧ Below w.heap.size w wr) (fun i _ => xs.length - (intOf i).toNat)
  case atStart => exact ⟨0, Nat.zero_le _, rfl, rfl, Below.refl _ _⟩
  case round =>
    obtain ⟨k, hk, rfl, hall, hb⟩ := hrel
    have HA := Lib.hid hall
    clear hall
    by_cases hlt : k < xs.length
    · obtain ⟨b, off, rfl, hbs, d0, d1, d2⟩ := (hr.below hb).atHold hlt
      have hbw : b < wr.heap.size := Nat.lt_of_lt_of_le hbs hb.size
      have hov := over_cell wr
      have HC : Hid (∀ x : World, Calls Tryd.prog 47 #[.agg #[.string xs[k].owner, .int .i64 xs[k].item, .int .i64 xs[k].count]] (over wr x) (Ret (.bool xs[k].ok) (over wr x))) := Lib.hid (fun x => l19One_c _ _ (HW.out k hlt))
      have HN := Lib.hid (fun h => goodH_no hlt h)
      by_cases hok : xs[k].ok = true
      · rw [hok] at HC
        by_cases hk0 : k = 0
        · have HK := Lib.hid (show okAtH xs k = true by subst hk0; exact (okAtH_0 hlt).trans hok)
          have hkz : decide (0 < (k : Int)) = false := decide_eq_false (by omega)
          have hkz1 : decide (0 < k) = false := decide_eq_false (by omega)
          clear hk0 hok
          go_wp2_with fail
          refine wp_region_over (by kernel_rfl) (by kernel_rfl) ?_
          repeat (quiet_step ((go_at_call 47; exact Calls.over_of (HC.out _))))
          refine wpQuiet_nil ?_
          intro _ hw1
          obtain ⟨x1, hw1⟩ := hw1
          subst hw1
          go_wp2_with fail
          go_roundw
          case rel => exact ⟨k + 1, by omega, by go_num, range_next HA.out HK.out, below_via hb (over_below wr x1)⟩
          case measure => simp [intOf]; omega
        · obtain ⟨j, hj⟩ : ∃ j, k = j + 1 := ⟨k - 1, by omega⟩
          have hj' : j < xs.length := by omega
          obtain ⟨b', off', hA, hbs', g0, g1, g2⟩ := (hr.below hb).atHold hj'
          injection hA with hA; injection hA with hA1 hA2
          subst hA1 hA2
          clear hbs'
          have hkz : decide (0 < (k : Int)) = true := decide_eq_true (by omega)
          have hkz1 : decide (0 < k) = true := decide_eq_true (by omega)
          have hkz2 : 0 < k := by omega
          have hsub : IntKind.i64.wrap ((k : Int) - 1) = (j : Int) := by
            rw [IntWalk.i64_in _ (by omega)]; omega
          have hj0 : (0 : Int) ≤ j := by omega
          have hj1 : (j : Int) ≤ xs.length := by omega
          have hj2 : (j : Int) < xs.length := by omega
          have HD : Hid (∀ x : World, Calls Tryd.prog 53 #[.agg #[.string xs[j].owner, .int .i64 xs[j].item, .int .i64 xs[j].count], .string xs[k].owner, .int .i64 xs[k].item] (over wr x) (Ret (.bool (xs[j].bef xs[k])) (over wr x))) := Lib.hid (fun x => l19Before_c _ _ _ _)
          have HE := Lib.hid (show okAtH xs k = (xs[k].ok && xs[j].bef xs[k]) by subst hj; exact okAtH_s hlt)
          by_cases hbf : xs[j].bef xs[k] = true
          · rw [hbf] at HD
            have HK := Lib.hid (show okAtH xs k = true by rw [HE.out, hok, hbf]; rfl)
            clear hk0 hok hbf hj
            go_wp2_with fail
            refine wp_region_over (by kernel_rfl) (by kernel_rfl) ?_
            repeat (quiet_step (first | (go_at_call 47; exact Calls.over_of (HC.out _)) | (go_at_call 53; exact Calls.over_of (HD.out _))))
            refine wpQuiet_nil ?_
            intro _ hw1
            obtain ⟨x1, hw1⟩ := hw1
            subst hw1
            go_wp2_with fail
            go_roundw
            case rel => exact ⟨k + 1, by omega, by go_num, range_next HA.out HK.out, below_via hb (over_below wr x1)⟩
            case measure => simp [intOf]; omega
          · have hbf' : xs[j].bef xs[k] = false := by simpa using hbf
            rw [hbf'] at HD
            have HK := Lib.hid (show okAtH xs k = false by rw [HE.out, hok, hbf']; rfl)
            clear hk0 hok hbf hbf' hj
            go_wp2_with fail
            refine wp_region_over (by kernel_rfl) (by kernel_rfl) ?_
            repeat (quiet_step (first | (go_at_call 47; exact Calls.over_of (HC.out _)) | (go_at_call 53; exact Calls.over_of (HD.out _))))
            refine wpQuiet_nil ?_
            intro _ hw1
            obtain ⟨x1, hw1⟩ := hw1
            subst hw1
            go_wp2_with fail
            go_returns
            exact ⟨ret_bool (HN.out HK.out).symm, below_via hb (over_below wr x1)⟩
      · have hok' : xs[k].ok = false := by simpa using hok
        rw [hok'] at HC
        have HK := Lib.hid (okAtH_no hlt hok')
        clear hok hok'
        go_wp2_with fail
        refine wp_region_over (by kernel_rfl) (by kernel_rfl) ?_
        repeat (quiet_step ((go_at_call 47; exact Calls.over_of (HC.out _))))
        refine wpQuiet_nil ?_
        intro _ hw1
        obtain ⟨x1, hw1⟩ := hw1
        subst hw1
        go_wp2_with fail
        go_returns
        exact ⟨ret_bool (HN.out HK.out).symm, below_via hb (over_below wr x1)⟩
    · have hke : xs.length ≤ k := by omega
      have HV := Lib.hid (goodH_all (xs := xs) (by have := HA.out; have e : k = xs.length := by omega
                                                   rwa [e] at this))
      go_wp2_with fail
      go_returns
      exact ⟨ret_bool HV.out, hb⟩
end Go.Proofs.YtebkfcdijjcefaaDoor
