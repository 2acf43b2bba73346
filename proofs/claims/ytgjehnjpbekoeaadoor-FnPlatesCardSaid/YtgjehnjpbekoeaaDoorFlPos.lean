/- Contracts of the functions that give the positions and the states of a stamp: the program's and the reference's. No condition but the sizes. -/
import Derived.Test.YtgjehnjpbekoeaaDoorFlAsk
import Derived.Test.YtgjehnjpbekoeaaDoorLaPlain
import Derived.Test.YtgjehnjpbekoeaaDoorFlSheet
namespace Go.Proofs.YtgjehnjpbekoeaaDoor
set_option linter.unusedVariables false
set_option linter.unusedSimpArgs false
open Go.RowKit
attribute [local irreducible] wpQuiet
theorem rg_yes {k : Nat} {p : Nat → Bool} {f : Nat → Int} (hp : p k = true) : ((List.range (k + 1)).filter p).map f = ((List.range k).filter p).map f ++ [f k] := by rw [List.range_succ, List.filter_append, List.map_append]; simp [hp]
theorem rg_no {k : Nat} {p : Nat → Bool} {f : Nat → Int} (hp : p k = false) : ((List.range (k + 1)).filter p).map f = ((List.range k).filter p).map f := by rw [List.range_succ, List.filter_append, List.map_append]; simp [hp]
theorem rg_len {k : Nat} {p : Nat → Bool} {f : Nat → Int} : (((List.range k).filter p).map f).length ≤ k := by
  rw [List.length_map]
  exact Nat.le_trans (List.length_filter_le _ _) (by simp)
def posP (xs : List Flaw) (cs : List Int) (st : Int) (k : Nat) : Bool := decide (codesL xs (k : Int) st = cs)
def posL (xs : List Flaw) (cs : List Int) (st : Int) (n : Nat) : List Int := ((List.range n).filter (posP xs cs st)).map fun k : Nat => (k : Int)
def posB (xs : List Flaw) (cs : List Int) (st : Int) : Bool := goodFl xs && shoB cs && inR st 1 9
def posV (xs : List Flaw) (cs : List Int) (st : Int) : List Int := if posB xs cs st = true then posL xs cs st 100 else []
theorem posL_yes {xs : List Flaw} {cs : List Int} {st : Int} {k : Nat} (h : codesL xs (k : Int) st = cs) : posL xs cs st (k + 1) = posL xs cs st k ++ [(k : Int)] := rg_yes (f := fun k : Nat => (k : Int)) (by simp [posP, h])
theorem posL_no {xs : List Flaw} {cs : List Int} {st : Int} {k : Nat} (h : ¬ codesL xs (k : Int) st = cs) : posL xs cs st (k + 1) = posL xs cs st k := rg_no (f := fun k : Nat => (k : Int)) (by simp [posP, h])
theorem posL_len (xs : List Flaw) (cs : List Int) (st : Int) (k : Nat) : (posL xs cs st k).length ≤ k := rg_len
theorem posV_len (xs : List Flaw) (cs : List Int) (st : Int) : (posV xs cs st).length ≤ 2097152 := by
  unfold posV; split
  · have := posL_len xs cs st 100; omega
  · simp
def staP (xs : List Flaw) (cs : List Int) (pos : Int) (k : Nat) : Bool := decide (codesL xs pos ((k : Int) + 1) = cs)
def staL (xs : List Flaw) (cs : List Int) (pos : Int) (n : Nat) : List Int := ((List.range n).filter (staP xs cs pos)).map fun k : Nat => (k : Int) + 1
theorem staL_yes {xs : List Flaw} {cs : List Int} {pos : Int} {k : Nat} (h : codesL xs pos ((k : Int) + 1) = cs) : staL xs cs pos (k + 1) = staL xs cs pos k ++ [(k : Int) + 1] := rg_yes (f := fun k : Nat => (k : Int) + 1) (by simp [staP, h])
theorem staL_no {xs : List Flaw} {cs : List Int} {pos : Int} {k : Nat} (h : ¬ codesL xs pos ((k : Int) + 1) = cs) : staL xs cs pos (k + 1) = staL xs cs pos k := rg_no (f := fun k : Nat => (k : Int) + 1) (by simp [staP, h])
theorem staL_len (xs : List Flaw) (cs : List Int) (pos : Int) (k : Nat) : (staL xs cs pos k).length ≤ k := rg_len
end Go.Proofs.YtgjehnjpbekoeaaDoor
namespace Go.Proofs.YtgjehnjpbekoeaaDoor
set_option linter.unusedVariables false
set_option linter.unusedSimpArgs false
open Go.RowKit
attribute [local irreducible] wpQuiet
def earP (xs : List Flaw) (st : Int) (i : Nat) : Bool := match xs[i]? with | some x => decide (x.since ≤ st) | none => false
def earL (xs : List Flaw) (st : Int) (n : Nat) : List Int := ((List.range n).filter (earP xs st)).map fun k : Nat => (k : Int)
def earV (xs : List Flaw) (st : Int) : List Int := if laB xs st = true then earL xs st xs.length else []
theorem earL_yes {xs : List Flaw} {st : Int} {k : Nat} (hk : k < xs.length) (h : xs[k].since ≤ st) : earL xs st (k + 1) = earL xs st k ++ [(k : Int)] := rg_yes (f := fun k : Nat => (k : Int)) (by simp [earP, List.getElem?_eq_getElem hk, h])
theorem earL_no {xs : List Flaw} {st : Int} {k : Nat} (hk : k < xs.length) (h : ¬ xs[k].since ≤ st) : earL xs st (k + 1) = earL xs st k := rg_no (f := fun k : Nat => (k : Int)) (by simp [earP, List.getElem?_eq_getElem hk, h])
theorem earL_len (xs : List Flaw) (st : Int) (k : Nat) : (earL xs st k).length ≤ k := rg_len
def clnN (xs : List Flaw) (st : Int) (n : Nat) : Nat := ((List.range n).filter fun j => decide (cdN xs st j = [])).length
def clnV (xs : List Flaw) (st : Int) : Int := if laB xs st = true then (clnN xs st 100 : Int) else 0
theorem clnN_yes {xs : List Flaw} {st : Int} {k : Nat} (h : cdN xs st k = []) : clnN xs st (k + 1) = clnN xs st k + 1 := by unfold clnN; rw [List.range_succ, List.filter_append]; simp [h]
theorem clnN_no {xs : List Flaw} {st : Int} {k : Nat} (h : ¬ cdN xs st k = []) : clnN xs st (k + 1) = clnN xs st k := by unfold clnN; rw [List.range_succ, List.filter_append]; simp [h]
theorem clnN_le (xs : List Flaw) (st : Int) (k : Nat) : clnN xs st k ≤ k := by unfold clnN; exact Nat.le_trans (List.length_filter_le _ _) (by simp)
theorem earV_len (xs : List Flaw) (st : Int) : (earV xs st).length ≤ 2097152 := by
  unfold earV; split
  · rename_i h
    simp only [laB, Bool.and_eq_true] at h
    have := goodFl_len h.1
    have := earL_len xs st xs.length
    omega
  · simp
theorem ret_cv {a a' : Int} {b b' : Bool} (h : a = a') (hb : b = b') : Ending.returned (.tuple #[.int .i64 a, .bool b]) = .returned (.tuple #[.int .i64 a', .bool b']) := by rw [h, hb]
theorem cln_no {xs : List Flaw} {st : Int} (h : laB xs st = false) : Ending.returned (.tuple #[.int .i64 0, .bool false]) = .returned (.tuple #[.int .i64 (clnV xs st), .bool (laB xs st)]) := by simp [clnV, h]
set_option maxRecDepth 100000 in
set_option maxHeartbeats 2000000 in
theorem implEarlyFlaws_c (xs : List Flaw) (A : Option Addr) (c : Nat) (st : Int) (w : World) (hr : Rd encFlaw 4 w.heap.size w A xs) (hn : xs.length ≤ 1048576) :
    Calls Tryd.prog 11 #[.slice A xs.length c, .int .i64 st] w (RetL encI 1 (earV xs st) (laB xs st) w) := by
  by_cases hF : goodFl xs = false
  · go_enter Tryd.func11, Tryd.ntmps11
    have hbg := Below.refl w.heap.size w
    go_wp2_with fail
    refine (areFlaws_c xs _ _ _ (hr.go hbg) hn).mono ?_
    rintro e wg0 ⟨rfl, hb0⟩
    have hbg := below_via hbg hb0
    go_wp2_with fail
    go_returns
    exact ⟨_, _, ret_list (by simp [earV, laB, hF]) (by simp [laB, hF]), hbg, Own.none_ (by simp [earV, laB, hF]) (Nat.le_refl _)⟩
  have G0 : goodFl xs = true := by simpa using hF
  clear hF
  by_cases hF : inR st 1 9 = false
  · go_enter Tryd.func11, Tryd.ntmps11
    have hbg := Below.refl w.heap.size w
    go_wp2_with fail
    refine (areFlaws_c xs _ _ _ (hr.go hbg) hn).mono ?_
    rintro e wg0 ⟨rfl, hb0⟩
    have hbg := below_via hbg hb0
    go_wp2_with fail
    refine (isState_c _ _).mono ?_
    rintro e wp1 ⟨rfl, rfl⟩
    go_wp2_with fail
    go_returns
    exact ⟨_, _, ret_list (by simp [earV, laB, hF]) (by simp [laB, hF]), hbg, Own.none_ (by simp [earV, laB, hF]) (Nat.le_refl _)⟩
  have G1 : inR st 1 9 = true := by simpa using hF
  clear hF
  go_enter Tryd.func11, Tryd.ntmps11
  have hbg := Below.refl w.heap.size w
  go_wp2_with fail
  refine (areFlaws_c xs _ _ _ (hr.go hbg) hn).mono ?_
  rintro e wg0 ⟨rfl, hb0⟩
  have hbg := below_via hbg hb0
  go_wp2_with fail
  refine (isState_c _ _).mono ?_
  rintro e wp1 ⟨rfl, rfl⟩
  have hxl := goodFl_len G0
  have HV := Lib.hid (show earV xs st = earL xs st xs.length by simp [earV, laB, G0, G1])
  have HB := Lib.hid (show laB xs st = true by simp [laB, G0, G1])
  go_wp2_with fail
  clear G0 G1
  go_loopw [6, 19] (fun v i wr => ∃ k : Nat, k ≤ xs.length ∧ i = .int .i64 k ∧ Out (Value.int .i64) 3 w.heap.size v (earL xs st k) wr ∧ Below w.heap.size w wr) (fun _ i _ => xs.length - (intOf i).toNat)
  case atStart => exact ⟨0, by omega, rfl, Out.nil _, hbg⟩
  case round =>
    obtain ⟨k, hk, rfl, ho, hb⟩ := hrel
    clear hbg
    by_cases hlt : k < xs.length
    · obtain ⟨bk, off, rfl, hbs, d0, d1, d2, d3⟩ := (hr.below hb).atFlaw hlt
      have hl := earL_len xs st k
      have hbz := hb.size
      have hbw : bk < wr.heap.size := Nat.lt_of_lt_of_le hbs hb.size
      by_cases h1 : xs[k].since ≤ st
      · have h1' : decide (xs[k].since ≤ st) = true := decide_eq_true h1
        have HK := Lib.hid (earL_yes hlt h1)
        clear h1
        go_wp2_with (at_builtin; refine wpList_push rfl _ _ _ rfl 3 (.int .i64 0) 8 Tryd.underlying31 infoI rfl (k : Int) rfl (ho.below ((Below.refl _ _).alloc (Nat.le_refl _) (.cells #[.int .i64 xs[k].row, .int .i64 xs[k].col, .int .i64 xs[k].code, .int .i64 xs[k].since] 43))) _ rfl (by simp) rfl (by omega) (by omega) (by simp at *; omega) ?_; intro v1 w1 hown1 hbel1)
        go_roundw
        case rel => exact ⟨k + 1, by omega, by go_num, by rw [HK.out]; exact hown1, (hb.trans (((Below.refl _ _).alloc (Nat.le_refl _) (.cells #[.int .i64 xs[k].row, .int .i64 xs[k].col, .int .i64 xs[k].code, .int .i64 xs[k].since] 43)).mono hb.size)).trans hbel1⟩
        case measure => simp [intOf]; omega
      · have h1' : decide (xs[k].since ≤ st) = false := decide_eq_false h1
        have HK := Lib.hid (earL_no hlt h1)
        clear h1
        go_wp2_with fail
        go_roundw
        case rel => exact ⟨k + 1, by omega, by go_num, by rw [HK.out]; exact (ho.below ((Below.refl _ _).alloc (Nat.le_refl _) (.cells #[.int .i64 xs[k].row, .int .i64 xs[k].col, .int .i64 xs[k].code, .int .i64 xs[k].since] 43))), (hb.trans (((Below.refl _ _).alloc (Nat.le_refl _) (.cells #[.int .i64 xs[k].row, .int .i64 xs[k].col, .int .i64 xs[k].code, .int .i64 xs[k].since] 43)).mono hb.size))⟩
        case measure => simp [intOf]; omega
    · obtain rfl : k = xs.length := by omega
      obtain ⟨B, c', rfl, hO⟩ := ho.own
      go_wp2_with fail
      go_returns
      exact ⟨B, c', ret_list (by rw [HV.out]) HB.out.symm, hb, hO.cast HV.out.symm⟩
set_option maxRecDepth 100000 in
set_option maxHeartbeats 2000000 in
theorem specEarlyFlaws_c (xs : List Flaw) (A : Option Addr) (c : Nat) (st : Int) (w : World) (hr : Rd encFlaw 4 w.heap.size w A xs) (hn : xs.length ≤ 1048576) :
    Calls Tryd.prog 12 #[.slice A xs.length c, .int .i64 st] w (RetL encI 1 (earV xs st) (laB xs st) w) := by
  by_cases hF : goodFl xs = false
  · go_enter Tryd.func12, Tryd.ntmps12
    have hbg := (show Below w.heap.size w (w.alloc (.cells #[] 3)) by go_grown)
    have hbx := Below.refl (w.alloc (.cells #[] 3)).heap.size (w.alloc (.cells #[] 3))
    go_wp2_with fail
    refine (l15Good_c xs _ _ _ (hr.go hbg) hn).mono ?_
    rintro e wg0 ⟨rfl, hb0⟩
    have hbg := below_via hbg hb0
    have hbx := below_via hbx hb0
    go_wp2_with fail
    go_returns
    exact ⟨_, _, ret_list (by simp [earV, laB, hF]) (by simp [laB, hF]), hbg, Own.none_ (by simp [earV, laB, hF]) (Nat.le_refl _)⟩
  have G0 : goodFl xs = true := by simpa using hF
  clear hF
  by_cases hF : inR st 1 9 = false
  · go_enter Tryd.func12, Tryd.ntmps12
    have hbg := (show Below w.heap.size w (w.alloc (.cells #[] 3)) by go_grown)
    have hbx := Below.refl (w.alloc (.cells #[] 3)).heap.size (w.alloc (.cells #[] 3))
    go_wp2_with fail
    refine (l15Good_c xs _ _ _ (hr.go hbg) hn).mono ?_
    rintro e wg0 ⟨rfl, hb0⟩
    have hbg := below_via hbg hb0
    have hbx := below_via hbx hb0
    go_wp2_with fail
    refine (l15State_c _ _).mono ?_
    rintro e wp1 ⟨rfl, rfl⟩
    go_wp2_with fail
    go_returns
    exact ⟨_, _, ret_list (by simp [earV, laB, hF]) (by simp [laB, hF]), hbg, Own.none_ (by simp [earV, laB, hF]) (Nat.le_refl _)⟩
  have G1 : inR st 1 9 = true := by simpa using hF
  clear hF
  go_enter Tryd.func12, Tryd.ntmps12
  have hbg := (show Below w.heap.size w (w.alloc (.cells #[] 3)) by go_grown)
  have hbx := Below.refl (w.alloc (.cells #[] 3)).heap.size (w.alloc (.cells #[] 3))
  go_wp2_with fail
  refine (l15Good_c xs _ _ _ (hr.go hbg) hn).mono ?_
  rintro e wg0 ⟨rfl, hb0⟩
  have hbg := below_via hbg hb0
  have hbx := below_via hbx hb0
  go_wp2_with fail
  refine (l15State_c _ _).mono ?_
  rintro e wp1 ⟨rfl, rfl⟩
  have hxl := goodFl_len G0
  have HV := Lib.hid (show earV xs st = earL xs st xs.length by simp [earV, laB, G0, G1])
  have HB := Lib.hid (show laB xs st = true by simp [laB, G0, G1])
  go_wp2_with fail
  clear G0 G1
  go_loopw [6, 7] (fun v i wr => ∃ k : Nat, k ≤ xs.length ∧ i = .int .i64 k ∧ Out (Value.int .i64) 3 w.heap.size v (earL xs st k) wr ∧ Below w.heap.size w wr) (fun _ i _ => xs.length - (intOf i).toNat)
  case atStart => exact ⟨0, by omega, rfl, (Out.empty w (Nat.le_refl _)).below hbx, hbg⟩
  case round =>
    obtain ⟨k, hk, rfl, ho, hb⟩ := hrel
    clear hbg
    by_cases hlt : k < xs.length
    · obtain ⟨bk, off, rfl, hbs, d0, d1, d2, d3⟩ := (hr.below hb).atFlaw hlt
      have hl := earL_len xs st k
      have hbz := hb.size
      have hbw : bk < wr.heap.size := Nat.lt_of_lt_of_le hbs hb.size
      by_cases h1 : xs[k].since ≤ st
      · have h1' : decide (xs[k].since ≤ st) = true := decide_eq_true h1
        have HK := Lib.hid (earL_yes hlt h1)
        clear h1
        go_wp2_with (at_builtin; refine wpList_push rfl _ _ _ rfl 3 (.int .i64 0) 8 Tryd.underlying31 infoI rfl (k : Int) rfl ho _ rfl (by simp) rfl (by omega) (by omega) (by simp at *; omega) ?_; intro v1 w1 hown1 hbel1)
        go_roundw
        case rel => exact ⟨k + 1, by omega, by go_num, by rw [HK.out]; exact hown1, hb.trans hbel1⟩
        case measure => simp [intOf]; omega
      · have h1' : decide (xs[k].since ≤ st) = false := decide_eq_false h1
        have HK := Lib.hid (earL_no hlt h1)
        clear h1
        go_wp2_with fail
        go_roundw
        case rel => exact ⟨k + 1, by omega, by go_num, by rw [HK.out]; exact ho, hb⟩
        case measure => simp [intOf]; omega
    · obtain rfl : k = xs.length := by omega
      obtain ⟨B, c', rfl, hO⟩ := ho.own
      go_wp2_with fail
      go_returns
      exact ⟨B, c', ret_list (by rw [HV.out]) HB.out.symm, hb, hO.cast HV.out.symm⟩
set_option maxRecDepth 100000 in
set_option maxHeartbeats 2000000 in
theorem implCleanPositions_c (xs : List Flaw) (A : Option Addr) (c : Nat) (st : Int) (w : World) (hr : Rd encFlaw 4 w.heap.size w A xs) (hn : xs.length ≤ 1048576) :
    Calls Tryd.prog 13 #[.slice A xs.length c, .int .i64 st] w (Ret (.tuple #[.int .i64 (clnV xs st), .bool (laB xs st)]) w) := by
  by_cases hF : goodFl xs = false
  · go_enter Tryd.func13, Tryd.ntmps13
    have hbg := Below.refl w.heap.size w
    go_wp2_with fail
    refine (areFlaws_c xs _ _ _ (hr.go hbg) hn).mono ?_
    rintro e wg0 ⟨rfl, hb0⟩
    have hbg := below_via hbg hb0
    go_wp2_with fail
    go_returns
    exact ⟨cln_no (by simp [laB, hF]), hbg⟩
  have G0 : goodFl xs = true := by simpa using hF
  clear hF
  by_cases hF : inR st 1 9 = false
  · go_enter Tryd.func13, Tryd.ntmps13
    have hbg := Below.refl w.heap.size w
    go_wp2_with fail
    refine (areFlaws_c xs _ _ _ (hr.go hbg) hn).mono ?_
    rintro e wg0 ⟨rfl, hb0⟩
    have hbg := below_via hbg hb0
    go_wp2_with fail
    refine (isState_c _ _).mono ?_
    rintro e wp1 ⟨rfl, rfl⟩
    go_wp2_with fail
    go_returns
    exact ⟨cln_no (by simp [laB, hF]), hbg⟩
  have G1 : inR st 1 9 = true := by simpa using hF
  clear hF
  go_enter Tryd.func13, Tryd.ntmps13
  have hbg := Below.refl w.heap.size w
  go_wp2_with fail
  refine (areFlaws_c xs _ _ _ (hr.go hbg) hn).mono ?_
  rintro e wg0 ⟨rfl, hb0⟩
  have hbg := below_via hbg hb0
  go_wp2_with fail
  refine (isState_c _ _).mono ?_
  rintro e wp1 ⟨rfl, rfl⟩
  have HG := Lib.hid G0
  have hxl := goodFl_len G0
  have HV := Lib.hid (show clnV xs st = (clnN xs st 100 : Int) by simp [clnV, laB, G0, G1])
  have HB := Lib.hid (show laB xs st = true by simp [laB, G0, G1])
  go_wp2_with fail
  clear G0 G1
  go_loopw [6, 16] (fun u i wr => ∃ k : Nat, k ≤ 100 ∧ i = .int .i64 k ∧ u = .int .i64 (clnN xs st k) ∧ Below w.heap.size w wr) (fun _ i _ => 100 - (intOf i).toNat)
  case atStart => exact ⟨0, by omega, rfl, rfl, hbg⟩
  case round =>
    obtain ⟨k, hk, rfl, rfl, hb⟩ := hrel
    clear hbg
    have hcl := clnN_le xs st k
    by_cases hlt : k < 100
    · have hlt' : (k : Int) < 100 := by omega
      have HY := Lib.hid (fun h : cdN xs st k = [] => clnN_yes h)
      have HNO := Lib.hid (fun h : ¬ cdN xs st k = [] => clnN_no h)
      have hcx := codesL_len xs (k : Int) st
      have HC := Lib.hid (fun (v : World) (h : Rd encFlaw 4 v.heap.size v A xs) => codesAt_c xs A c (k : Int) st v h HG.out)
      have HD := Lib.hid (show codesL xs (k : Int) st = cdN xs st k from rfl)
      rw [HD.out] at hcx HC
      clear HD
      generalize cdN xs st k = CL at *
      go_wp2_with fail
      refine (HC.out _ (hr.go hb)).mono ?_
      rintro e w2 ⟨Q, q, rfl, hbn, _⟩
      have hb2 := hb.trans (hbn.mono hb.size)
      clear hb hbn
      by_cases he : CL = []
      · have HS := Lib.hid (HY.out he)
        subst he
        clear HY HNO HC
        go_wp2_with fail
        go_roundw
        case rel => exact ⟨k + 1, by omega, by go_num, vi (by rw [HS.out]; omega), hb2⟩
        case measure => simp [intOf]; omega
      · have HS := Lib.hid (HNO.out he)
        have he' : ((CL.length : Int) == 0) = false := by
          have : CL.length ≠ 0 := fun e => he (List.eq_nil_of_length_eq_zero e)
          simp only [beq_eq_false_iff_ne, ne_eq]; omega
        clear he HY HNO HC
        go_wp2_with fail
        go_roundw
        case rel => exact ⟨k + 1, by omega, by go_num, vi (by rw [HS.out]), hb2⟩
        case measure => simp [intOf]; omega
    · obtain rfl : k = 100 := by omega
      go_wp2_with fail
      go_returns
      exact ⟨ret_cv HV.out.symm HB.out.symm, hb⟩
set_option maxRecDepth 100000 in
set_option maxHeartbeats 2000000 in
theorem specCleanPositions_c (xs : List Flaw) (A : Option Addr) (c : Nat) (st : Int) (w : World) (hr : Rd encFlaw 4 w.heap.size w A xs) (hn : xs.length ≤ 1048576) :
    Calls Tryd.prog 14 #[.slice A xs.length c, .int .i64 st] w (Ret (.tuple #[.int .i64 (clnV xs st), .bool (laB xs st)]) w) := by
  by_cases hF : goodFl xs = false
  · go_enter Tryd.func14, Tryd.ntmps14
    have hbg := Below.refl w.heap.size w
    go_wp2_with fail
    refine (l15Good_c xs _ _ _ (hr.go hbg) hn).mono ?_
    rintro e wg0 ⟨rfl, hb0⟩
    have hbg := below_via hbg hb0
    go_wp2_with fail
    go_returns
    exact ⟨cln_no (by simp [laB, hF]), hbg⟩
  have G0 : goodFl xs = true := by simpa using hF
  clear hF
  by_cases hF : inR st 1 9 = false
  · go_enter Tryd.func14, Tryd.ntmps14
    have hbg := Below.refl w.heap.size w
    go_wp2_with fail
    refine (l15Good_c xs _ _ _ (hr.go hbg) hn).mono ?_
    rintro e wg0 ⟨rfl, hb0⟩
    have hbg := below_via hbg hb0
    go_wp2_with fail
    refine (l15State_c _ _).mono ?_
    rintro e wp1 ⟨rfl, rfl⟩
    go_wp2_with fail
    go_returns
    exact ⟨cln_no (by simp [laB, hF]), hbg⟩
  have G1 : inR st 1 9 = true := by simpa using hF
  clear hF
  go_enter Tryd.func14, Tryd.ntmps14
  have hbg := Below.refl w.heap.size w
  go_wp2_with fail
  refine (l15Good_c xs _ _ _ (hr.go hbg) hn).mono ?_
  rintro e wg0 ⟨rfl, hb0⟩
  have hbg := below_via hbg hb0
  go_wp2_with fail
  refine (l15State_c _ _).mono ?_
  rintro e wp1 ⟨rfl, rfl⟩
  have HG := Lib.hid G0
  have hxl := goodFl_len G0
  have HV := Lib.hid (show clnV xs st = (clnN xs st 100 : Int) by simp [clnV, laB, G0, G1])
  have HB := Lib.hid (show laB xs st = true by simp [laB, G0, G1])
  go_wp2_with fail
  clear G0 G1
  go_loopw [6, 7] (fun u i wr => ∃ k : Nat, k ≤ 100 ∧ i = .int .i64 k ∧ u = .int .i64 (clnN xs st k) ∧ Below w.heap.size w wr) (fun _ i _ => 100 - (intOf i).toNat)
  case atStart => exact ⟨0, by omega, rfl, rfl, hbg⟩
  case round =>
    obtain ⟨k, hk, rfl, rfl, hb⟩ := hrel
    clear hbg
    have hcl := clnN_le xs st k
    by_cases hlt : k < 100
    · have hlt' : (k : Int) < 100 := by omega
      have HY := Lib.hid (fun h : cdN xs st k = [] => clnN_yes h)
      have HNO := Lib.hid (fun h : ¬ cdN xs st k = [] => clnN_no h)
      have hcx := codesL_len xs (k : Int) st
      have HC := Lib.hid (fun (v : World) (h : Rd encFlaw 4 v.heap.size v A xs) => l15Codes_c xs A c (k : Int) st v h HG.out)
      have HD := Lib.hid (show codesL xs (k : Int) st = cdN xs st k from rfl)
      rw [HD.out] at hcx HC
      clear HD
      generalize cdN xs st k = CL at *
      go_wp2_with fail
      refine (HC.out _ (hr.go hb)).mono ?_
      rintro e w2 ⟨Q, q, rfl, hbn, _⟩
      have hb2 := hb.trans (hbn.mono hb.size)
      clear hb hbn
      by_cases he : CL = []
      · have HS := Lib.hid (HY.out he)
        subst he
        clear HY HNO HC
        go_wp2_with fail
        go_roundw
        case rel => exact ⟨k + 1, by omega, by go_num, vi (by rw [HS.out]; omega), hb2⟩
        case measure => simp [intOf]; omega
      · have HS := Lib.hid (HNO.out he)
        have he' : ((CL.length : Int) == 0) = false := by
          have : CL.length ≠ 0 := fun e => he (List.eq_nil_of_length_eq_zero e)
          simp only [beq_eq_false_iff_ne, ne_eq]; omega
        clear he HY HNO HC
        go_wp2_with fail
        go_roundw
        case rel => exact ⟨k + 1, by omega, by go_num, vi (by rw [HS.out]), hb2⟩
        case measure => simp [intOf]; omega
    · obtain rfl : k = 100 := by omega
      go_wp2_with fail
      go_returns
      exact ⟨ret_cv HV.out.symm HB.out.symm, hb⟩
end Go.Proofs.YtgjehnjpbekoeaaDoor
namespace Go.Proofs.YtgjehnjpbekoeaaDoor
set_option linter.unusedVariables false
set_option linter.unusedSimpArgs false
open Go.RowKit
attribute [local irreducible] wpQuiet
def catB (xs : List Flaw) (pos st : Int) : Bool := goodFl xs && inR pos 0 99 && inR st 1 9
def catV (xs : List Flaw) (pos st : Int) : List Int := if catB xs pos st = true then codesL xs pos st else []
def sfoB (xs : List Flaw) (cs : List Int) (pos : Int) : Bool := goodFl xs && shoB cs && inR pos 0 99
def sfoV (xs : List Flaw) (cs : List Int) (pos : Int) : List Int := if sfoB xs cs pos = true then staL xs cs pos 9 else []
theorem catV_len (xs : List Flaw) (pos st : Int) : (catV xs pos st).length ≤ 2097152 := by
  unfold catV; split
  · rename_i h
    simp only [catB, Bool.and_eq_true] at h
    have := codesL_len xs pos st
    have := goodFl_len h.1.1
    omega
  · simp
theorem sfoV_len (xs : List Flaw) (cs : List Int) (pos : Int) : (sfoV xs cs pos).length ≤ 2097152 := by
  unfold sfoV; split
  · have := staL_len xs cs pos 9; omega
  · simp
set_option maxHeartbeats 1000000 in
theorem implCodesAt_c (xs : List Flaw) (A : Option Addr) (c : Nat) (pos st : Int) (w : World) (hr : Rd encFlaw 4 w.heap.size w A xs) (hn : xs.length ≤ 1048576) :
    Calls Tryd.prog 9 #[.slice A xs.length c, .int .i64 pos, .int .i64 st] w (RetL encI 1 (catV xs pos st) (catB xs pos st) w) := by
  by_cases hF : goodFl xs = false
  · go_enter Tryd.func9, Tryd.ntmps9
    have hbg := Below.refl w.heap.size w
    go_wp2_with fail
    refine (areFlaws_c xs _ _ _ (hr.go hbg) hn).mono ?_
    rintro e wg0 ⟨rfl, hb0⟩
    have hbg := below_via hbg hb0
    go_wp2_with fail
    go_returns
    exact ⟨_, _, ret_list (by simp [catV, catB, hF]) (by simp [catB, hF]), hbg, Own.none_ (by simp [catV, catB, hF]) (Nat.le_refl _)⟩
  have G0 : goodFl xs = true := by simpa using hF
  clear hF
  by_cases hF : inR pos 0 99 = false
  · go_enter Tryd.func9, Tryd.ntmps9
    have hbg := Below.refl w.heap.size w
    go_wp2_with fail
    refine (areFlaws_c xs _ _ _ (hr.go hbg) hn).mono ?_
    rintro e wg0 ⟨rfl, hb0⟩
    have hbg := below_via hbg hb0
    go_wp2_with fail
    refine (isPosition_c _ _).mono ?_
    rintro e wp1 ⟨rfl, rfl⟩
    go_wp2_with fail
    go_returns
    exact ⟨_, _, ret_list (by simp [catV, catB, hF]) (by simp [catB, hF]), hbg, Own.none_ (by simp [catV, catB, hF]) (Nat.le_refl _)⟩
  have G1 : inR pos 0 99 = true := by simpa using hF
  clear hF
  by_cases hF : inR st 1 9 = false
  · go_enter Tryd.func9, Tryd.ntmps9
    have hbg := Below.refl w.heap.size w
    go_wp2_with fail
    refine (areFlaws_c xs _ _ _ (hr.go hbg) hn).mono ?_
    rintro e wg0 ⟨rfl, hb0⟩
    have hbg := below_via hbg hb0
    go_wp2_with fail
    refine (isPosition_c _ _).mono ?_
    rintro e wp1 ⟨rfl, rfl⟩
    go_wp2_with fail
    refine (isState_c _ _).mono ?_
    rintro e wp2 ⟨rfl, rfl⟩
    go_wp2_with fail
    go_returns
    exact ⟨_, _, ret_list (by simp [catV, catB, hF]) (by simp [catB, hF]), hbg, Own.none_ (by simp [catV, catB, hF]) (Nat.le_refl _)⟩
  have G2 : inR st 1 9 = true := by simpa using hF
  clear hF
  go_enter Tryd.func9, Tryd.ntmps9
  have hbg := Below.refl w.heap.size w
  go_wp2_with fail
  refine (areFlaws_c xs _ _ _ (hr.go hbg) hn).mono ?_
  rintro e wg0 ⟨rfl, hb0⟩
  have hbg := below_via hbg hb0
  go_wp2_with fail
  refine (isPosition_c _ _).mono ?_
  rintro e wp1 ⟨rfl, rfl⟩
  go_wp2_with fail
  refine (isState_c _ _).mono ?_
  rintro e wp2 ⟨rfl, rfl⟩
  have HV := Lib.hid (show catV xs pos st = codesL xs pos st by simp [catV, catB, G0, G1, G2])
  have HB := Lib.hid (show catB xs pos st = true by simp [catB, G0, G1, G2])
  have HC := Lib.hid (fun (v : World) (h : Rd encFlaw 4 v.heap.size v A xs) => codesAt_c xs A c pos st v h G0)
  go_wp2_with fail
  clear G0 G1 G2
  refine (HC.out _ (hr.go hbg)).mono ?_
  rintro e w9 ⟨B, q, rfl, hb9, o9⟩
  go_wp2_with fail
  go_returns
  exact ⟨B, q, ret_list (by rw [HV.out]) HB.out.symm, below_step hbg hb9, (o9.wide (lo' := w.heap.size) hbg.size (Nat.le_refl _) (Nat.le_refl _)).cast HV.out.symm⟩
end Go.Proofs.YtgjehnjpbekoeaaDoor
namespace Go.Proofs.YtgjehnjpbekoeaaDoor
set_option linter.unusedVariables false
set_option linter.unusedSimpArgs false
open Go.RowKit
theorem la_law {xs : List Flaw} {st : Int} {p : List Int} (h : p ∈ laV xs st) : laB xs st = true ∧ 2 ≤ p.length ∧ p.length ≤ 100 ∧ ∃ CS : List Int, CS.length ≠ 0 ∧ CS.length ≤ 2097152 ∧ ∀ z ∈ p, 0 ≤ z ∧ z ≤ 99 ∧ catB xs z st = true ∧ catV xs z st = CS := by
  have hl := laV_elen h
  obtain ⟨hb, a, hf, ha, rfl, h2⟩ := laV_mem h
  have hb' := hb
  simp only [laB, Bool.and_eq_true] at hb'
  obtain ⟨hg, hs⟩ := hb'
  refine ⟨hb, h2, hl, cdN xs st a, fun e => (fstB_iff.1 hf).1 (List.eq_nil_of_length_eq_zero e), ?_, fun z hz => ?_⟩
  · have h1 := codesL_len xs (a : Int) st
    have h3 := goodFl_len hg
    unfold cdN; omega
  · obtain ⟨b, hb1, hb2, rfl⟩ := samG_mem.1 hz
    have hP : inR (b : Int) 0 99 = true := by simp [inR]; omega
    have hC : catB xs (b : Int) st = true := by simp [catB, hg, hs, hP]
    refine ⟨by omega, by omega, hC, ?_⟩
    unfold catV
    rw [if_pos hC]
    exact hb2
theorem chk_one (st : Int) (x : Flaw) : ∀ n, ((List.range n).filter fun j => chP ((j : Nat) : Int) st x).length ≤ if x.since ≤ st then 1 else 0 := by
  intro n
  by_cases hs : x.since ≤ st
  · rw [if_pos hs]
    have hu : ∀ m : Nat, (∀ j : Nat, j < m → ¬ 10 * x.row + x.col = (j : Int)) → ((List.range m).filter fun j => chP ((j : Nat) : Int) st x).length = 0 := fun m hm => by
      rw [List.length_eq_zero_iff, List.filter_eq_nil_iff]
      intro j hj hc
      simp only [chP, Bool.and_eq_true, decide_eq_true_eq] at hc
      exact hm j (List.mem_range.1 hj) hc.1
    induction n with
    | zero => simp
    | succ n ih =>
      rw [List.range_succ, List.filter_append, List.length_append]
      by_cases hc : 10 * x.row + x.col = (n : Int)
      · rw [hu n fun j hj e => by omega]
        exact Nat.le_trans (Nat.add_le_add_left (List.length_filter_le _ _) 0) (by simp)
      · have : ([n].filter fun j => chP ((j : Nat) : Int) st x) = [] := by simp [chP, hc]
        rw [this]; simpa using ih
  · rw [if_neg hs]
    have : ((List.range n).filter fun j => chP ((j : Nat) : Int) st x) = [] := List.filter_eq_nil_iff.2 fun j _ hc => by
      simp [chP, hs] at hc
    rw [this]; exact Nat.le_refl _
/-- How many flaws there are by the state. -/
def nEar (xs : List Flaw) (st : Int) : Nat := (xs.filter fun x => decide (x.since ≤ st)).length
def sumN (f : Nat → Nat) : Nat → Nat
  | 0 => 0
  | n + 1 => sumN f n + f n
theorem sumN_le {f g : Nat → Nat} : ∀ n, (∀ j, j < n → f j ≤ g j) → sumN f n ≤ sumN g n
  | 0, _ => Nat.le_refl _
  | n + 1, h => Nat.add_le_add (sumN_le n fun j hj => h j (by omega)) (h n (by omega))
theorem sumN_add {f g : Nat → Nat} : ∀ n, sumN (fun j => f j + g j) n = sumN f n + sumN g n
  | 0 => rfl
  | n + 1 => by simp only [sumN, sumN_add n]; omega
theorem sumN_cnt {p : Nat → Bool} : ∀ n, sumN (fun j => if p j = true then 1 else 0) n = ((List.range n).filter p).length
  | 0 => rfl
  | n + 1 => by
    simp only [sumN, sumN_cnt n]
    rw [List.range_succ, List.filter_append, List.length_append]
    cases hp : p n <;> simp [hp]
theorem sum_codes (st : Int) (n : Nat) : ∀ xs : List Flaw, sumN (fun j => (codesL xs (j : Int) st).length) n ≤ nEar xs st
  | [] => by
    have : sumN (fun j => (codesL [] (j : Int) st).length) n ≤ sumN (fun _ => 0) n := sumN_le n fun j _ => by simp [codesL]
    have h0 : ∀ n, sumN (fun _ => 0) n = 0 := fun n => by induction n with
      | zero => rfl
      | succ n ih => simp [sumN, ih]
    rw [h0] at this
    omega
  | x :: xs => by
    have ih := sum_codes st n xs
    have h1 : sumN (fun j => (codesL (x :: xs) (j : Int) st).length) n ≤ sumN (fun j => (codesL xs (j : Int) st).length + if chP ((j : Nat) : Int) st x = true then 1 else 0) n := sumN_le n fun j _ => by
      unfold codesL
      rw [List.filter_cons]
      split <;> simp_all
    rw [sumN_add, sumN_cnt] at h1
    have h2 := chk_one st x n
    have h3 : nEar (x :: xs) st = nEar xs st + if x.since ≤ st then 1 else 0 := by
      unfold nEar
      rw [List.filter_cons]
      by_cases hs : x.since ≤ st <;> simp [hs]
    rw [h3]
    omega
theorem cln_sum (xs : List Flaw) (st : Int) : ∀ n, n ≤ clnN xs st n + sumN (fun j => (codesL xs (j : Int) st).length) n
  | 0 => Nat.zero_le _
  | n + 1 => by
    have ih := cln_sum xs st n
    simp only [sumN]
    by_cases h : cdN xs st n = []
    · rw [clnN_yes h]; omega
    · rw [clnN_no h]
      have : (codesL xs (n : Int) st).length ≠ 0 := fun e => h (List.eq_nil_of_length_eq_zero e)
      omega
theorem ear_cnt (xs : List Flaw) (st : Int) : ∀ k, k ≤ xs.length → (earL xs st k).length = nEar (xs.take k) st
  | 0, _ => by simp [earL, nEar]
  | k + 1, hk => by
    have ih := ear_cnt xs st k (by omega)
    have hk' : k < xs.length := by omega
    have ht : nEar (xs.take (k + 1)) st = nEar (xs.take k) st + if xs[k].since ≤ st then 1 else 0 := by
      unfold nEar
      rw [take_succ_get xs k hk', List.filter_append, List.length_append]
      by_cases hs : xs[k].since ≤ st <;> simp [hs]
    by_cases h : xs[k].since ≤ st
    · rw [earL_yes hk' h, ht, if_pos h, List.length_append, ih]; rfl
    · rw [earL_no hk' h, ht, if_neg h, ih, Nat.add_zero]
theorem earV_cnt {xs : List Flaw} {st : Int} (h : laB xs st = true) : (earV xs st).length = nEar xs st := by
  unfold earV
  rw [if_pos h, ear_cnt xs st _ (Nat.le_refl _), List.take_length]
theorem clean_law {xs : List Flaw} {st : Int} (h : laB xs st = true) : 0 ≤ clnV xs st ∧ clnV xs st ≤ 100 ∧ (100 : Int) ≤ clnV xs st + (earV xs st).length := by
  have h1 := cln_sum xs st 100
  have h2 := sum_codes st 100 xs
  have h3 := clnN_le xs st 100
  rw [earV_cnt h]
  unfold clnV
  rw [if_pos h]
  omega
theorem more_law {xs : List Flaw} {st : Int} (h : laB xs st = true) (h' : laB xs (st + 1) = true) : (earV xs st).length ≤ (earV xs (st + 1)).length := by
  rw [earV_cnt h, earV_cnt h']
  unfold nEar
  have e : xs.filter (fun x => decide (x.since ≤ st)) = (xs.filter fun x => decide (x.since ≤ st + 1)).filter fun x => decide (x.since ≤ st) := by
    rw [List.filter_filter]
    refine List.filter_congr fun x _ => ?_
    by_cases h1 : x.since ≤ st
    · have h2 : x.since ≤ st + 1 := by omega
      simp [h1, h2]
    · simp [h1]
  rw [e]
  exact List.length_filter_le _ _
theorem ssJ_fit (xs : List Flaw) (ps : List Int) (cs : List (List Int)) : ∀ s, 0 ≤ (ssJ xs ps cs s).1 ∧ (ssJ xs ps cs s).1 ≤ s ∧ (0 < (ssJ xs ps cs s).1 → fitB xs ps cs (ssJ xs ps cs s).1 = true)
  | 0 => by simp [ssJ]
  | s + 1 => by
    obtain ⟨i1, i2, i3⟩ := ssJ_fit xs ps cs s
    rw [ssJ]
    split
    · rename_i hf
      by_cases h0 : (ssJ xs ps cs s).1 = 0
      · simp only [h0, if_true]
        exact ⟨by omega, by omega, fun _ => hf⟩
      · simp only [if_neg h0]
        exact ⟨i1, by omega, i3⟩
    · exact ⟨i1, by omega, i3⟩
theorem sheet_law {xs : List Flaw} {ps : List Int} {cs : List (List Int)} (h : ssO xs ps cs = true) : ps.length = cs.length ∧ ∀ i (h1 : i < ps.length) (h2 : i < cs.length), catB xs ps[i] (ssV1 xs ps cs) = true ∧ catV xs ps[i] (ssV1 xs ps cs) = cs[i] := by
  have h' := h
  simp only [ssO, Bool.and_eq_true, decide_eq_true_eq] at h'
  obtain ⟨hB, hpos⟩ := h'
  have hV : ssV1 xs ps cs = (ssJ xs ps cs 9).1 := by unfold ssV1; rw [if_pos hB]
  have hB' := hB
  simp only [ssB, ssA, Bool.and_eq_true, decide_eq_true_eq] at hB'
  obtain ⟨hg, _, hl, hr, _⟩ := hB'
  obtain ⟨_, j2, j3⟩ := ssJ_fit xs ps cs 9
  have hfit := j3 hpos
  refine ⟨hl, fun i h1 h2 => ?_⟩
  rw [hV]
  have hst : inR (ssJ xs ps cs 9).1 1 9 = true := by simp [inR]; omega
  have hpi : inR ps[i] 0 99 = true := by
    simp only [risL, Bool.and_eq_true, List.all_eq_true] at hr
    exact hr.2 _ (List.getElem_mem h1)
  have hC : catB xs ps[i] (ssJ xs ps cs 9).1 = true := by simp [catB, hg, hst, hpi]
  refine ⟨hC, ?_⟩
  unfold catV
  rw [if_pos hC]
  have := List.all_eq_true.1 hfit i (List.mem_range.2 h1)
  rw [fitP_at h1 h2] at this
  exact of_decide_eq_true this
end Go.Proofs.YtgjehnjpbekoeaaDoor
