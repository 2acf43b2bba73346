/- Contracts of SwapPairs, BestPartner: the program's and the reference's. No condition but the sizes. -/
import Derived.Test.YtebkfcdijjcefaaHoGive
namespace Go.Proofs.Ytebkfcdijjcefaa
set_option linter.unusedVariables false
set_option linter.unusedSimpArgs false
open Go.RowKit
attribute [local irreducible] wpQuiet
def pairsH (xs : List Hold) (a b : ByteArray) : Int := min ((giveH xs a b).length : Int) ((giveH xs b a).length : Int)
theorem pairsH_le (xs : List Hold) (a b : ByteArray) : 0 ≤ pairsH xs a b ∧ pairsH xs a b ≤ xs.length := by
  have := giveH_le xs a b
  unfold pairsH; omega
theorem l1Least_c (a b : Int) (w : World) : Calls Try.prog 57 #[.int .i64 a, .int .i64 b] w (Pure (.int .i64 (min a b)) w) := by
  by_cases h : a < b
  all_goals
    go_enter Try.func57, Try.ntmps57
    go_wp2
    go_ret
    exact ⟨ret_int (by omega), rfl⟩
set_option maxHeartbeats 1000000 in
theorem swapPairs_c (xs : List Hold) (A : Option Addr) (c : Nat) (a b : ByteArray) (w : World) (hr : Rd encHold 3 w.heap.size w A xs) (hn : xs.length ≤ 1048576) (hg : goodH xs = true) :
    Calls Try.prog 43 #[.slice A xs.length c, .string a, .string b] w (Ret (.int .i64 (pairsH xs a b)) w) := by
  have HG := Lib.hid hg
  clear hg
  by_cases hm : (giveH xs a b).length ≤ (giveH xs b a).length
  · have HV := Lib.hid (show ((giveH xs a b).length : Int) = pairsH xs a b by unfold pairsH; omega)
    go_enter Try.func43, Try.ntmps43
    go_wp2_with fail
    refine (canGive_c xs _ _ _ _ _ hr hn HG.out).mono ?_
    rintro e w1 ⟨B1, c1, rfl, hb1, hO1⟩
    go_wp2_with fail
    refine (canGive_c xs _ _ _ _ _ (hr.go hb1) hn HG.out).mono ?_
    rintro e w2 ⟨B2, c2, rfl, hb2, hO2⟩
    have hm' : ((giveH xs a b).length : Int) ≤ ((giveH xs b a).length : Int) := by omega
    have hmn : min ((giveH xs a b).length : Int) ((giveH xs b a).length : Int) = ((giveH xs a b).length : Int) := by omega
    have hmn' : min (giveH xs a b).length (giveH xs b a).length = (giveH xs a b).length := by omega
    go_wp2_with fail
    go_returns
    exact ⟨ret_int (by first | exact HV.out | (rw [← HV.out]; omega)), below_via hb1 hb2⟩
  · have HV := Lib.hid (show ((giveH xs b a).length : Int) = pairsH xs a b by unfold pairsH; omega)
    go_enter Try.func43, Try.ntmps43
    go_wp2_with fail
    refine (canGive_c xs _ _ _ _ _ hr hn HG.out).mono ?_
    rintro e w1 ⟨B1, c1, rfl, hb1, hO1⟩
    go_wp2_with fail
    refine (canGive_c xs _ _ _ _ _ (hr.go hb1) hn HG.out).mono ?_
    rintro e w2 ⟨B2, c2, rfl, hb2, hO2⟩
    have hm' : ¬ ((giveH xs a b).length : Int) ≤ ((giveH xs b a).length : Int) := by omega
    have hm'' : ((giveH xs b a).length : Int) ≤ ((giveH xs a b).length : Int) := by omega
    go_wp2_with fail
    go_returns
    exact ⟨ret_int (by first | exact HV.out | (rw [← HV.out]; omega)), below_via hb1 hb2⟩
set_option maxHeartbeats 1000000 in
theorem l19Pairs_c (xs : List Hold) (A : Option Addr) (c : Nat) (a b : ByteArray) (w : World) (hr : Rd encHold 3 w.heap.size w A xs) (hn : xs.length ≤ 1048576) :
    Calls Try.prog 46 #[.slice A xs.length c, .string a, .string b] w (Ret (.int .i64 (pairsH xs a b)) w) := by
  go_enter Try.func46, Try.ntmps46
  go_wp2_with fail
  refine (l19Give_c xs _ _ _ _ _ hr hn).mono ?_
  rintro e w1 ⟨B1, c1, rfl, hb1, hO1⟩
  go_wp2_with fail
  refine (l19Give_c xs _ _ _ _ _ (hr.go hb1) hn).mono ?_
  rintro e w2 ⟨B2, c2, rfl, hb2, hO2⟩
  go_wp2_with fail
  refine (l1Least_c _ _ _).mono ?_
  rintro e w3 ⟨rfl, rfl⟩
  go_wp2_with fail
  go_returns
  exact ⟨rfl, below_via hb1 hb2⟩
def pairV (xs : List Hold) (a b : ByteArray) : Int := if twoB xs a b = true then pairsH xs a b else 0
theorem implSwapPairs_c (xs : List Hold) (A : Option Addr) (c : Nat) (a b : ByteArray) (w : World) (hr : Rd encHold 3 w.heap.size w A xs) (hn : xs.length ≤ 1048576) (hw : ∀ x ∈ xs, x.owner.size ≤ 9223372036854775807) (hsa : a.size ≤ 9223372036854775807) (hsb : b.size ≤ 9223372036854775807) :
    Calls Try.prog 20 #[.slice A xs.length c, .string a, .string b] w (Ret (.tuple #[.int .i64 (pairV xs a b), .bool (twoB xs a b)]) w) := by
  have HW := Lib.hid hw
  clear hw
  by_cases hF : goodH xs = false
  · go_enter Try.func20, Try.ntmps20
    have hbg := Below.refl w.heap.size w
    go_wp2_with fail
    refine (areHolds_c xs _ _ _ (hr.go hbg) hn HW.out).mono ?_
    rintro e wg0 ⟨rfl, hb0⟩
    have hbg := below_via hbg hb0
    go_wp2_with fail
    go_returns
    have HT := (show twoB xs a b = false by simp only [twoB, hF, Bool.and_false, Bool.false_and])
    exact ⟨ret2 (vi (by simp [pairV, HT])) (vb HT.symm), hbg⟩
  have G0 : goodH xs = true := by simpa using hF
  clear hF
  by_cases hF : isW a = false
  · go_enter Try.func20, Try.ntmps20
    have hbg := Below.refl w.heap.size w
    go_wp2_with fail
    refine (areHolds_c xs _ _ _ (hr.go hbg) hn HW.out).mono ?_
    rintro e wg0 ⟨rfl, hb0⟩
    have hbg := below_via hbg hb0
    go_wp2_with fail
    refine (isWord_c _ _ hsa).mono ?_
    rintro e wp1 ⟨rfl, rfl⟩
    go_wp2_with fail
    go_returns
    have HT := (show twoB xs a b = false by simp only [twoB, hF, Bool.and_false, Bool.false_and])
    exact ⟨ret2 (vi (by simp [pairV, HT])) (vb HT.symm), hbg⟩
  have G1 : isW a = true := by simpa using hF
  clear hF
  by_cases hF : isW b = false
  · go_enter Try.func20, Try.ntmps20
    have hbg := Below.refl w.heap.size w
    go_wp2_with fail
    refine (areHolds_c xs _ _ _ (hr.go hbg) hn HW.out).mono ?_
    rintro e wg0 ⟨rfl, hb0⟩
    have hbg := below_via hbg hb0
    go_wp2_with fail
    refine (isWord_c _ _ hsa).mono ?_
    rintro e wp1 ⟨rfl, rfl⟩
    go_wp2_with fail
    refine (isWord_c _ _ hsb).mono ?_
    rintro e wp2 ⟨rfl, rfl⟩
    go_wp2_with fail
    go_returns
    have HT := (show twoB xs a b = false by simp only [twoB, hF, Bool.and_false, Bool.false_and])
    exact ⟨ret2 (vi (by simp [pairV, HT])) (vb HT.symm), hbg⟩
  have G2 : isW b = true := by simpa using hF
  clear hF
  by_cases hF : decide (a ≠ b) = false
  · have hE : (a.toList == b.toList) = true := by rw [toList_beq]; simpa using hF
    go_enter Try.func20, Try.ntmps20
    have hbg := Below.refl w.heap.size w
    go_wp2_with fail
    refine (areHolds_c xs _ _ _ (hr.go hbg) hn HW.out).mono ?_
    rintro e wg0 ⟨rfl, hb0⟩
    have hbg := below_via hbg hb0
    go_wp2_with fail
    refine (isWord_c _ _ hsa).mono ?_
    rintro e wp1 ⟨rfl, rfl⟩
    go_wp2_with fail
    refine (isWord_c _ _ hsb).mono ?_
    rintro e wp2 ⟨rfl, rfl⟩
    go_wp2_with fail
    go_returns
    have HT := (show twoB xs a b = false by simp only [twoB, hF, Bool.and_false, Bool.false_and])
    exact ⟨ret2 (vi (by simp [pairV, HT])) (vb HT.symm), hbg⟩
  have G3 : decide (a ≠ b) = true := by simpa using hF
  clear hF
  have hE : (a.toList == b.toList) = false := by rw [toList_beq]; simpa using G3
  go_enter Try.func20, Try.ntmps20
  have hbg := Below.refl w.heap.size w
  go_wp2_with fail
  refine (areHolds_c xs _ _ _ (hr.go hbg) hn HW.out).mono ?_
  rintro e wg0 ⟨rfl, hb0⟩
  have hbg := below_via hbg hb0
  go_wp2_with fail
  refine (isWord_c _ _ hsa).mono ?_
  rintro e wp1 ⟨rfl, rfl⟩
  go_wp2_with fail
  refine (isWord_c _ _ hsb).mono ?_
  rintro e wp2 ⟨rfl, rfl⟩
  have HT := Lib.hid (show twoB xs a b = true by simp only [twoB, G0, G1, G2, G3]; rfl)
  go_wp2_with fail
  refine (swapPairs_c xs _ _ _ _ _ (hr.go hbg) hn G0).mono ?_
  rintro e w1 ⟨rfl, hb1⟩
  go_wp2_with fail
  go_returns
  exact ⟨ret2 (vi (by simp [pairV, HT.out])) (vb HT.out.symm), below_via hbg hb1⟩
def stepB (xs : List Hold) (o : ByteArray) (acc : ByteArray × Int) (h : Hold) : ByteArray × Int := if h.owner ≠ o ∧ acc.2 < pairsH xs o h.owner then (h.owner, pairsH xs o h.owner) else acc
def bestH (xs : List Hold) (o : ByteArray) (k : Nat) : ByteArray × Int := (xs.take k).foldl (stepB xs o) (⟨#[]⟩, -1)
theorem bestH_next {xs : List Hold} {o : ByteArray} {k : Nat} (h : k < xs.length) : bestH xs o (k + 1) = stepB xs o (bestH xs o k) xs[k] := by
  unfold bestH
  rw [take_succ_get xs k h, List.foldl_append]; rfl
def bestG (xs : List Hold) (o : ByteArray) : Bool := goodH xs && isW o
def bestB (xs : List Hold) (o : ByteArray) : Bool := bestG xs o && decide (0 ≤ (bestH xs o xs.length).2)
def bestS (xs : List Hold) (o : ByteArray) : ByteArray := if bestB xs o = true then (bestH xs o xs.length).1 else ⟨#[]⟩
def bestN (xs : List Hold) (o : ByteArray) : Int := if bestB xs o = true then (bestH xs o xs.length).2 else 0
theorem best_end {xs : List Hold} {o : ByteArray} {s : ByteArray} {m : Int} (hg : bestG xs o = true) (h : bestH xs o xs.length = (s, m)) : bestB xs o = decide (0 ≤ m) ∧ (0 ≤ m → bestS xs o = s ∧ bestN xs o = m) ∧ (¬ 0 ≤ m → bestS xs o = ⟨#[]⟩ ∧ bestN xs o = 0) := by
  have hb : bestB xs o = decide (0 ≤ m) := by simp [bestB, hg, h]
  refine ⟨hb, fun h0 => ?_, fun h0 => ?_⟩
  · have : bestB xs o = true := by rw [hb]; simpa using h0
    simp [bestS, bestN, this, h]
  · have : bestB xs o = false := by rw [hb]; simpa using h0
    simp [bestS, bestN, this]
theorem vs {a b : ByteArray} (h : a = b) : Value.string a = Value.string b := by rw [h]
end Go.Proofs.Ytebkfcdijjcefaa
