/- Contracts of the functions that give the positions and the states of a stamp: the program's and the reference's. No condition but the sizes. -/
import Derived.Test.YtedehldojicimaaFlAsk
namespace Go.Proofs.Ytedehldojicimaa
set_option linter.unusedVariables false
set_option linter.unusedSimpArgs false
open Go.RowKit
attribute [local irreducible] wpQuiet
theorem rg_yes {k : Nat} {p : Nat → Bool} {f : Nat → Int} (hp : p k = true) : ((List.range (k + 1)).filter p).map f = ((List.range k).filter p).map f ++ [f k] := by rw [List.range_succ, List.filter_append, List.map_append]; simp [hp]
theorem rg_no {k : Nat} {p : Nat → Bool} {f : Nat → Int} (hp : p k = false) : ((List.range (k + 1)).filter p).map f = ((List.range k).filter p).map f := by rw [List.range_succ, List.filter_append, List.map_append]; simp [hp]
theorem rg_len {k : Nat} {p : Nat → Bool} {f : Nat → Int} : (((List.range k).filter p).map f).length ≤ k := by
  rw [List.length_map]
  exact Nat.le_trans (List.length_filter_le _ _) (by simp)
def posP (xs : List Flaw) (cs : List Int) (st : Int) (k : Nat) : Bool := decide (codesL xs (k : Int) st = cs)
def posL (xs : List Flaw) (cs : List Int) (st : Int) (n : Nat) : List Int := ((List.range n).filter (posP xs cs st)).map fun k : Nat => (k : Int)
def posB (xs : List Flaw) (cs : List Int) (st : Int) : Bool := goodFl xs && shoB cs && inR st 1 9
def posV (xs : List Flaw) (cs : List Int) (st : Int) : List Int := if posB xs cs st = true then posL xs cs st 100 else []
theorem posL_yes {xs : List Flaw} {cs : List Int} {st : Int} {k : Nat} (h : codesL xs (k : Int) st = cs) : posL xs cs st (k + 1) = posL xs cs st k ++ [(k : Int)] := rg_yes (f := fun k : Nat => (k : Int)) (by simp [posP, h])
theorem posL_no {xs : List Flaw} {cs : List Int} {st : Int} {k : Nat} (h : ¬ codesL xs (k : Int) st = cs) : posL xs cs st (k + 1) = posL xs cs st k := rg_no (f := fun k : Nat => (k : Int)) (by simp [posP, h])
theorem posL_len (xs : List Flaw) (cs : List Int) (st : Int) (k : Nat) : (posL xs cs st k).length ≤ k := rg_len
theorem posV_len (xs : List Flaw) (cs : List Int) (st : Int) : (posV xs cs st).length ≤ 2097152 := by
  unfold posV; split
  · have := posL_len xs cs st 100; omega
  · simp
def staP (xs : List Flaw) (cs : List Int) (pos : Int) (k : Nat) : Bool := decide (codesL xs pos ((k : Int) + 1) = cs)
def staL (xs : List Flaw) (cs : List Int) (pos : Int) (n : Nat) : List Int := ((List.range n).filter (staP xs cs pos)).map fun k : Nat => (k : Int) + 1
theorem staL_yes {xs : List Flaw} {cs : List Int} {pos : Int} {k : Nat} (h : codesL xs pos ((k : Int) + 1) = cs) : staL xs cs pos (k + 1) = staL xs cs pos k ++ [(k : Int) + 1] := rg_yes (f := fun k : Nat => (k : Int) + 1) (by simp [staP, h])
theorem staL_no {xs : List Flaw} {cs : List Int} {pos : Int} {k : Nat} (h : ¬ codesL xs pos ((k : Int) + 1) = cs) : staL xs cs pos (k + 1) = staL xs cs pos k := rg_no (f := fun k : Nat => (k : Int) + 1) (by simp [staP, h])
theorem staL_len (xs : List Flaw) (cs : List Int) (pos : Int) (k : Nat) : (staL xs cs pos k).length ≤ k := rg_len
set_option maxRecDepth 100000 in
set_option maxHeartbeats 2000000 in
theorem statesFor_c (xs : List Flaw) (A : Option Addr) (c : Nat) (cs : List Int) (A1 : Option Addr) (c1 : Nat) (pos : Int) (w : World) (hr : Rd encFlaw 4 w.heap.size w A xs) (hg : goodFl xs = true) (hr1 : Rd encI 1 w.heap.size w A1 cs) (hn1 : cs.length ≤ 1048576) :
    Calls Try.prog 25 #[.slice A xs.length c, .slice A1 cs.length c1, .int .i64 pos] w (RetS encI 1 (staL xs cs pos 9) w) := by
  have HG := Lib.hid hg
  clear hg
  have hbg := Below.refl w.heap.size w
  go_enter Try.func25, Try.ntmps25
  go_wp2_with fail
  go_loopw [7, 8] (fun v i wr => ∃ k : Nat, k ≤ 9 ∧ i = .int .i64 ((k : Int) + 1) ∧ Out (Value.int .i64) 3 w.heap.size v (staL xs cs pos k) wr ∧ Below w.heap.size w wr) (fun _ i _ => (200 - intOf i).toNat)
  case atStart => exact ⟨0, by omega, rfl, Out.nil _, hbg⟩
  case round =>
    obtain ⟨k, hk, rfl, ho, hb⟩ := hrel
    clear hbg
    by_cases hlt : k < 9
    · have hlen := staL_len xs cs pos k
      have hxl := goodFl_len HG.out
      have hcl := codesL_len xs (pos) ((k : Int) + 1)
      have hv0 : (0 : Int) ≤ (k : Int) + 1 := by omega
      have hv1 : (k : Int) + 1 ≤ 100 := by omega
      have hlt' : (k : Int) + 1 ≤ 9 := by omega
      have HY := Lib.hid (fun h : codesL xs (pos) ((k : Int) + 1) = cs => staL_yes (k := k) h)
      have HNO := Lib.hid (fun h : ¬ codesL xs (pos) ((k : Int) + 1) = cs => staL_no (k := k) h)
      have HC := Lib.hid (fun (v : World) (h : Rd encFlaw 4 v.heap.size v A xs) => codesAt_c xs A c (pos) ((k : Int) + 1) v h HG.out)
      generalize codesL xs (pos) ((k : Int) + 1) = CL at *
      go_wp2_with fail
      refine (HC.out _ (hr.go hb)).mono ?_
      rintro e w2 ⟨Q, q, rfl, hbn, hqo⟩
      have hqr := hqo.rd
      replace ho := ho.below hbn
      have hb2 := hb.trans (hbn.mono hb.size)
      clear hb hbn hqo
      go_wp2_with fail
      refine (equalN_c CL cs _ _ _ _ _ hqr (hr1.go hb2) (by omega) (by omega)).mono ?_
      rintro e w3 ⟨rfl, hbn⟩
      replace ho := ho.below hbn
      have hb3 := hb2.trans (hbn.mono hb2.size)
      have hsz := hb3.size
      clear hb2 hbn hqr
      by_cases he : CL = cs
      · have he' : decide (CL = cs) = true := decide_eq_true he
        have HS := Lib.hid (HY.out he)
        clear he HY HNO HC
        go_wp2_with (at_builtin; refine wpList_push rfl _ _ _ rfl 3 (.int .i64 0) 8 Try.underlying25 infoI rfl ((k : Int) + 1) rfl ho _ rfl (by simp) rfl (by omega) (by omega) (by simp at *; omega) ?_; intro v1 w4 hown1 hbel1)
        go_roundw
        case rel => exact ⟨k + 1, by omega, vi (by omega), by rw [HS.out]; exact hown1, hb3.trans hbel1⟩
        case measure => simp [intOf]; omega
      · have he' : decide (CL = cs) = false := decide_eq_false he
        have HS := Lib.hid (HNO.out he)
        clear he HY HNO HC
        go_wp2_with fail
        go_roundw
        case rel => exact ⟨k + 1, by omega, vi (by omega), by rw [HS.out]; exact ho, hb3⟩
        case measure => simp [intOf]; omega
    · obtain rfl : k = 9 := by omega
      obtain ⟨B, c', rfl, hO⟩ := ho.own
      go_wp2_with fail
      go_returns
      exact ⟨B, c', rfl, hb, hO⟩
set_option maxRecDepth 100000 in
set_option maxHeartbeats 2000000 in
theorem l15States_c (xs : List Flaw) (A : Option Addr) (c : Nat) (cs : List Int) (A1 : Option Addr) (c1 : Nat) (pos : Int) (w : World) (hr : Rd encFlaw 4 w.heap.size w A xs) (hg : goodFl xs = true) (hr1 : Rd encI 1 w.heap.size w A1 cs) (hn1 : cs.length ≤ 1048576) :
    Calls Try.prog 28 #[.slice A xs.length c, .slice A1 cs.length c1, .int .i64 pos] w (RetS encI 1 (staL xs cs pos 9) w) := by
  have HG := Lib.hid hg
  clear hg
  have hbg := Below.refl w.heap.size w
  go_enter Try.func28, Try.ntmps28
  go_wp2_with fail
  go_loopw [7, 8] (fun v i wr => ∃ k : Nat, k ≤ 9 ∧ i = .int .i64 ((k : Int) + 1) ∧ Out (Value.int .i64) 3 w.heap.size v (staL xs cs pos k) wr ∧ Below w.heap.size w wr) (fun _ i _ => (200 - intOf i).toNat)
  case atStart => exact ⟨0, by omega, rfl, Out.empty w (Nat.le_refl _), hbg.alloc (Nat.le_refl _) _⟩
  case round =>
    obtain ⟨k, hk, rfl, ho, hb⟩ := hrel
    clear hbg
    by_cases hlt : k < 9
    · have hlen := staL_len xs cs pos k
      have hxl := goodFl_len HG.out
      have hcl := codesL_len xs (pos) ((k : Int) + 1)
      have hv0 : (0 : Int) ≤ (k : Int) + 1 := by omega
      have hv1 : (k : Int) + 1 ≤ 100 := by omega
      have hlt' : (k : Int) + 1 ≤ 9 := by omega
      have HY := Lib.hid (fun h : codesL xs (pos) ((k : Int) + 1) = cs => staL_yes (k := k) h)
      have HNO := Lib.hid (fun h : ¬ codesL xs (pos) ((k : Int) + 1) = cs => staL_no (k := k) h)
      have HC := Lib.hid (fun (v : World) (h : Rd encFlaw 4 v.heap.size v A xs) => l15Codes_c xs A c (pos) ((k : Int) + 1) v h HG.out)
      generalize codesL xs (pos) ((k : Int) + 1) = CL at *
      go_wp2_with fail
      refine (HC.out _ (hr.go hb)).mono ?_
      rintro e w2 ⟨Q, q, rfl, hbn, hqo⟩
      have hqr := hqo.rd
      replace ho := ho.below hbn
      have hb2 := hb.trans (hbn.mono hb.size)
      clear hb hbn hqo
      go_wp2_with fail
      refine (l15Same_c CL cs _ _ _ _ _ hqr (hr1.go hb2) (by omega) (by omega)).mono ?_
      rintro e w3 ⟨rfl, hbn⟩
      replace ho := ho.below hbn
      have hb3 := hb2.trans (hbn.mono hb2.size)
      have hsz := hb3.size
      clear hb2 hbn hqr
      by_cases he : CL = cs
      · have he' : decide (CL = cs) = true := decide_eq_true he
        have HS := Lib.hid (HY.out he)
        clear he HY HNO HC
        go_wp2_with (at_builtin; refine wpList_push rfl _ _ _ rfl 3 (.int .i64 0) 8 Try.underlying25 infoI rfl ((k : Int) + 1) rfl ho _ rfl (by simp) rfl (by omega) (by omega) (by simp at *; omega) ?_; intro v1 w4 hown1 hbel1)
        go_roundw
        case rel => exact ⟨k + 1, by omega, vi (by omega), by rw [HS.out]; exact hown1, hb3.trans hbel1⟩
        case measure => simp [intOf]; omega
      · have he' : decide (CL = cs) = false := decide_eq_false he
        have HS := Lib.hid (HNO.out he)
        clear he HY HNO HC
        go_wp2_with fail
        go_roundw
        case rel => exact ⟨k + 1, by omega, vi (by omega), by rw [HS.out]; exact ho, hb3⟩
        case measure => simp [intOf]; omega
    · obtain rfl : k = 9 := by omega
      obtain ⟨B, c', rfl, hO⟩ := ho.own
      go_wp2_with fail
      go_returns
      exact ⟨B, c', rfl, hb, hO⟩
set_option maxRecDepth 100000 in
set_option maxHeartbeats 2000000 in
theorem implPositionsFor_c (xs : List Flaw) (A : Option Addr) (c : Nat) (cs : List Int) (A1 : Option Addr) (c1 : Nat) (st : Int) (w : World) (hr : Rd encFlaw 4 w.heap.size w A xs) (hn : xs.length ≤ 1048576) (hr1 : Rd encI 1 w.heap.size w A1 cs) (hn1 : cs.length ≤ 1048576) :
    Calls Try.prog 10 #[.slice A xs.length c, .slice A1 cs.length c1, .int .i64 st] w (RetL encI 1 (posV xs cs st) (posB xs cs st) w) := by
  by_cases hF : goodFl xs = false
  · go_enter Try.func10, Try.ntmps10
    have hbg := Below.refl w.heap.size w
    go_wp2_with fail
    refine (areFlaws_c xs _ _ _ (hr.go hbg) hn).mono ?_
    rintro e wg0 ⟨rfl, hb0⟩
    have hbg := below_via hbg hb0
    go_wp2_with fail
    go_returns
    exact ⟨_, _, ret_list (by simp [posV, posB, hF]) (by simp [posB, hF]), hbg, Own.none_ (by simp [posV, posB, hF]) (Nat.le_refl _)⟩
  have G0 : goodFl xs = true := by simpa using hF
  clear hF
  by_cases hF : shoB cs = false
  · go_enter Try.func10, Try.ntmps10
    have hbg := Below.refl w.heap.size w
    go_wp2_with fail
    refine (areFlaws_c xs _ _ _ (hr.go hbg) hn).mono ?_
    rintro e wg0 ⟨rfl, hb0⟩
    have hbg := below_via hbg hb0
    go_wp2_with fail
    refine (areCodes_c cs _ _ _ (hr1.go hbg) hn1).mono ?_
    rintro e wg1 ⟨rfl, hb1⟩
    have hbg := below_via hbg hb1
    go_wp2_with fail
    go_returns
    exact ⟨_, _, ret_list (by simp [posV, posB, hF]) (by simp [posB, hF]), hbg, Own.none_ (by simp [posV, posB, hF]) (Nat.le_refl _)⟩
  have G1 : shoB cs = true := by simpa using hF
  clear hF
  by_cases hF : inR st 1 9 = false
  · go_enter Try.func10, Try.ntmps10
    have hbg := Below.refl w.heap.size w
    go_wp2_with fail
    refine (areFlaws_c xs _ _ _ (hr.go hbg) hn).mono ?_
    rintro e wg0 ⟨rfl, hb0⟩
    have hbg := below_via hbg hb0
    go_wp2_with fail
    refine (areCodes_c cs _ _ _ (hr1.go hbg) hn1).mono ?_
    rintro e wg1 ⟨rfl, hb1⟩
    have hbg := below_via hbg hb1
    go_wp2_with fail
    refine (isState_c _ _).mono ?_
    rintro e wp2 ⟨rfl, rfl⟩
    go_wp2_with fail
    go_returns
    exact ⟨_, _, ret_list (by simp [posV, posB, hF]) (by simp [posB, hF]), hbg, Own.none_ (by simp [posV, posB, hF]) (Nat.le_refl _)⟩
  have G2 : inR st 1 9 = true := by simpa using hF
  clear hF
  go_enter Try.func10, Try.ntmps10
  have hbg := Below.refl w.heap.size w
  go_wp2_with fail
  refine (areFlaws_c xs _ _ _ (hr.go hbg) hn).mono ?_
  rintro e wg0 ⟨rfl, hb0⟩
  have hbg := below_via hbg hb0
  go_wp2_with fail
  refine (areCodes_c cs _ _ _ (hr1.go hbg) hn1).mono ?_
  rintro e wg1 ⟨rfl, hb1⟩
  have hbg := below_via hbg hb1
  go_wp2_with fail
  refine (isState_c _ _).mono ?_
  rintro e wp2 ⟨rfl, rfl⟩
  have HG := Lib.hid G0
  have HV := Lib.hid (show posV xs cs st = posL xs cs st 100 by simp [posV, posB, G0, G1, G2])
  have HB := Lib.hid (show posB xs cs st = true by simp [posB, G0, G1, G2])
  go_wp2_with fail
  clear G0 G1 G2
  go_loopw [8, 23] (fun v i wr => ∃ k : Nat, k ≤ 100 ∧ i = .int .i64 ((k : Int)) ∧ Out (Value.int .i64) 3 w.heap.size v (posL xs cs st k) wr ∧ Below w.heap.size w wr) (fun _ i _ => (200 - intOf i).toNat)
  case atStart => exact ⟨0, by omega, rfl, Out.nil _, hbg⟩
  case round =>
    obtain ⟨k, hk, rfl, ho, hb⟩ := hrel
    clear hbg
    by_cases hlt : k < 100
    · have hlen := posL_len xs cs st k
      have hxl := goodFl_len HG.out
      have hcl := codesL_len xs ((k : Int)) (st)
      have hv0 : (0 : Int) ≤ (k : Int) := by omega
      have hv1 : (k : Int) ≤ 100 := by omega
      have hlt' : (k : Int) < 100 := by omega
      have HY := Lib.hid (fun h : codesL xs ((k : Int)) (st) = cs => posL_yes (k := k) h)
      have HNO := Lib.hid (fun h : ¬ codesL xs ((k : Int)) (st) = cs => posL_no (k := k) h)
      have HC := Lib.hid (fun (v : World) (h : Rd encFlaw 4 v.heap.size v A xs) => codesAt_c xs A c ((k : Int)) (st) v h HG.out)
      generalize codesL xs ((k : Int)) (st) = CL at *
      go_wp2_with fail
      refine (HC.out _ (hr.go hb)).mono ?_
      rintro e w2 ⟨Q, q, rfl, hbn, hqo⟩
      have hqr := hqo.rd
      replace ho := ho.below hbn
      have hb2 := hb.trans (hbn.mono hb.size)
      clear hb hbn hqo
      go_wp2_with fail
      refine (equalN_c CL cs _ _ _ _ _ hqr (hr1.go hb2) (by omega) (by omega)).mono ?_
      rintro e w3 ⟨rfl, hbn⟩
      replace ho := ho.below hbn
      have hb3 := hb2.trans (hbn.mono hb2.size)
      have hsz := hb3.size
      clear hb2 hbn hqr
      by_cases he : CL = cs
      · have he' : decide (CL = cs) = true := decide_eq_true he
        have HS := Lib.hid (HY.out he)
        clear he HY HNO HC
        go_wp2_with (at_builtin; refine wpList_push rfl _ _ _ rfl 3 (.int .i64 0) 8 Try.underlying25 infoI rfl ((k : Int)) rfl ho _ rfl (by simp) rfl (by omega) (by omega) (by simp at *; omega) ?_; intro v1 w4 hown1 hbel1)
        go_roundw
        case rel => exact ⟨k + 1, by omega, vi (by omega), by rw [HS.out]; exact hown1, hb3.trans hbel1⟩
        case measure => simp [intOf]; omega
      · have he' : decide (CL = cs) = false := decide_eq_false he
        have HS := Lib.hid (HNO.out he)
        clear he HY HNO HC
        go_wp2_with fail
        go_roundw
        case rel => exact ⟨k + 1, by omega, vi (by omega), by rw [HS.out]; exact ho, hb3⟩
        case measure => simp [intOf]; omega
    · obtain rfl : k = 100 := by omega
      obtain ⟨B, c', rfl, hO⟩ := ho.own
      go_wp2_with fail
      go_returns
      exact ⟨B, c', ret_list (by rw [HV.out]) HB.out.symm, hb, hO.cast HV.out.symm⟩
set_option maxRecDepth 100000 in
set_option maxHeartbeats 2000000 in
theorem specPositionsFor_c (xs : List Flaw) (A : Option Addr) (c : Nat) (cs : List Int) (A1 : Option Addr) (c1 : Nat) (st : Int) (w : World) (hr : Rd encFlaw 4 w.heap.size w A xs) (hn : xs.length ≤ 1048576) (hr1 : Rd encI 1 w.heap.size w A1 cs) (hn1 : cs.length ≤ 1048576) :
    Calls Try.prog 12 #[.slice A xs.length c, .slice A1 cs.length c1, .int .i64 st] w (RetL encI 1 (posV xs cs st) (posB xs cs st) w) := by
  by_cases hF : goodFl xs = false
  · go_enter Try.func12, Try.ntmps12
    have hbg := (show Below w.heap.size w (w.alloc (.cells #[] 3)) by go_grown)
    have hbx := Below.refl (w.alloc (.cells #[] 3)).heap.size (w.alloc (.cells #[] 3))
    go_wp2_with fail
    refine (l15Good_c xs _ _ _ (hr.go hbg) hn).mono ?_
    rintro e wg0 ⟨rfl, hb0⟩
    have hbg := below_via hbg hb0
    have hbx := below_via hbx hb0
    go_wp2_with fail
    go_returns
    exact ⟨_, _, ret_list (by simp [posV, posB, hF]) (by simp [posB, hF]), hbg, Own.none_ (by simp [posV, posB, hF]) (Nat.le_refl _)⟩
  have G0 : goodFl xs = true := by simpa using hF
  clear hF
  by_cases hF : shoB cs = false
  · go_enter Try.func12, Try.ntmps12
    have hbg := (show Below w.heap.size w (w.alloc (.cells #[] 3)) by go_grown)
    have hbx := Below.refl (w.alloc (.cells #[] 3)).heap.size (w.alloc (.cells #[] 3))
    go_wp2_with fail
    refine (l15Good_c xs _ _ _ (hr.go hbg) hn).mono ?_
    rintro e wg0 ⟨rfl, hb0⟩
    have hbg := below_via hbg hb0
    have hbx := below_via hbx hb0
    go_wp2_with fail
    refine (l15Shown_c cs _ _ _ (hr1.go hbg) hn1).mono ?_
    rintro e wg1 ⟨rfl, hb1⟩
    have hbg := below_via hbg hb1
    have hbx := below_via hbx hb1
    go_wp2_with fail
    go_returns
    exact ⟨_, _, ret_list (by simp [posV, posB, hF]) (by simp [posB, hF]), hbg, Own.none_ (by simp [posV, posB, hF]) (Nat.le_refl _)⟩
  have G1 : shoB cs = true := by simpa using hF
  clear hF
  by_cases hF : inR st 1 9 = false
  · go_enter Try.func12, Try.ntmps12
    have hbg := (show Below w.heap.size w (w.alloc (.cells #[] 3)) by go_grown)
    have hbx := Below.refl (w.alloc (.cells #[] 3)).heap.size (w.alloc (.cells #[] 3))
    go_wp2_with fail
    refine (l15Good_c xs _ _ _ (hr.go hbg) hn).mono ?_
    rintro e wg0 ⟨rfl, hb0⟩
    have hbg := below_via hbg hb0
    have hbx := below_via hbx hb0
    go_wp2_with fail
    refine (l15Shown_c cs _ _ _ (hr1.go hbg) hn1).mono ?_
    rintro e wg1 ⟨rfl, hb1⟩
    have hbg := below_via hbg hb1
    have hbx := below_via hbx hb1
    go_wp2_with fail
    refine (l15State_c _ _).mono ?_
    rintro e wp2 ⟨rfl, rfl⟩
    go_wp2_with fail
    go_returns
    exact ⟨_, _, ret_list (by simp [posV, posB, hF]) (by simp [posB, hF]), hbg, Own.none_ (by simp [posV, posB, hF]) (Nat.le_refl _)⟩
  have G2 : inR st 1 9 = true := by simpa using hF
  clear hF
  go_enter Try.func12, Try.ntmps12
  have hbg := (show Below w.heap.size w (w.alloc (.cells #[] 3)) by go_grown)
  have hbx := Below.refl (w.alloc (.cells #[] 3)).heap.size (w.alloc (.cells #[] 3))
  go_wp2_with fail
  refine (l15Good_c xs _ _ _ (hr.go hbg) hn).mono ?_
  rintro e wg0 ⟨rfl, hb0⟩
  have hbg := below_via hbg hb0
  have hbx := below_via hbx hb0
  go_wp2_with fail
  refine (l15Shown_c cs _ _ _ (hr1.go hbg) hn1).mono ?_
  rintro e wg1 ⟨rfl, hb1⟩
  have hbg := below_via hbg hb1
  have hbx := below_via hbx hb1
  go_wp2_with fail
  refine (l15State_c _ _).mono ?_
  rintro e wp2 ⟨rfl, rfl⟩
  have HG := Lib.hid G0
  have HV := Lib.hid (show posV xs cs st = posL xs cs st 100 by simp [posV, posB, G0, G1, G2])
  have HB := Lib.hid (show posB xs cs st = true by simp [posB, G0, G1, G2])
  go_wp2_with fail
  clear G0 G1 G2
  go_loopw [8, 9] (fun v i wr => ∃ k : Nat, k ≤ 100 ∧ i = .int .i64 ((k : Int)) ∧ Out (Value.int .i64) 3 w.heap.size v (posL xs cs st k) wr ∧ Below w.heap.size w wr) (fun _ i _ => (200 - intOf i).toNat)
  case atStart => exact ⟨0, by omega, rfl, (Out.empty w (Nat.le_refl _)).below hbx, hbg⟩
  case round =>
    obtain ⟨k, hk, rfl, ho, hb⟩ := hrel
    clear hbg
    by_cases hlt : k < 100
    · have hlen := posL_len xs cs st k
      have hxl := goodFl_len HG.out
      have hcl := codesL_len xs ((k : Int)) (st)
      have hv0 : (0 : Int) ≤ (k : Int) := by omega
      have hv1 : (k : Int) ≤ 100 := by omega
      have hlt' : (k : Int) < 100 := by omega
      have HY := Lib.hid (fun h : codesL xs ((k : Int)) (st) = cs => posL_yes (k := k) h)
      have HNO := Lib.hid (fun h : ¬ codesL xs ((k : Int)) (st) = cs => posL_no (k := k) h)
      have HC := Lib.hid (fun (v : World) (h : Rd encFlaw 4 v.heap.size v A xs) => l15Codes_c xs A c ((k : Int)) (st) v h HG.out)
      generalize codesL xs ((k : Int)) (st) = CL at *
      go_wp2_with fail
      refine (HC.out _ (hr.go hb)).mono ?_
      rintro e w2 ⟨Q, q, rfl, hbn, hqo⟩
      have hqr := hqo.rd
      replace ho := ho.below hbn
      have hb2 := hb.trans (hbn.mono hb.size)
      clear hb hbn hqo
      go_wp2_with fail
      refine (l15Same_c CL cs _ _ _ _ _ hqr (hr1.go hb2) (by omega) (by omega)).mono ?_
      rintro e w3 ⟨rfl, hbn⟩
      replace ho := ho.below hbn
      have hb3 := hb2.trans (hbn.mono hb2.size)
      have hsz := hb3.size
      clear hb2 hbn hqr
      by_cases he : CL = cs
      · have he' : decide (CL = cs) = true := decide_eq_true he
        have HS := Lib.hid (HY.out he)
        clear he HY HNO HC
        go_wp2_with (at_builtin; refine wpList_push rfl _ _ _ rfl 3 (.int .i64 0) 8 Try.underlying25 infoI rfl ((k : Int)) rfl ho _ rfl (by simp) rfl (by omega) (by omega) (by simp at *; omega) ?_; intro v1 w4 hown1 hbel1)
        go_roundw
        case rel => exact ⟨k + 1, by omega, vi (by omega), by rw [HS.out]; exact hown1, hb3.trans hbel1⟩
        case measure => simp [intOf]; omega
      · have he' : decide (CL = cs) = false := decide_eq_false he
        have HS := Lib.hid (HNO.out he)
        clear he HY HNO HC
        go_wp2_with fail
        go_roundw
        case rel => exact ⟨k + 1, by omega, vi (by omega), by rw [HS.out]; exact ho, hb3⟩
        case measure => simp [intOf]; omega
    · obtain rfl : k = 100 := by omega
      obtain ⟨B, c', rfl, hO⟩ := ho.own
      go_wp2_with fail
      go_returns
      exact ⟨B, c', ret_list (by rw [HV.out]) HB.out.symm, hb, hO.cast HV.out.symm⟩
end Go.Proofs.Ytedehldojicimaa
