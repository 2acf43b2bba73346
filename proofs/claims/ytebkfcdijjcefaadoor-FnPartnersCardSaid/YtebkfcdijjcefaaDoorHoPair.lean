/- Contracts of SwapPairs, BestPartner: the program's and the reference's. No condition but the sizes. -/
import Derived.Test.YtebkfcdijjcefaaDoorHoGive
namespace Go.Proofs.YtebkfcdijjcefaaDoor
set_option linter.unusedVariables false
set_option linter.unusedSimpArgs false
open Go.RowKit
attribute [local irreducible] wpQuiet
def pairsH (xs : List Hold) (a b : ByteArray) : Int := min ((giveH xs a b).length : Int) ((giveH xs b a).length : Int)
theorem pairsH_le (xs : List Hold) (a b : ByteArray) : 0 ≤ pairsH xs a b ∧ pairsH xs a b ≤ xs.length := by
  have := giveH_le xs a b
  unfold pairsH; omega
theorem l1Least_c (a b : Int) (w : World) : Calls Tryd.prog 55 #[.int .i64 a, .int .i64 b] w (Pure (.int .i64 (min a b)) w) := by
  by_cases h : a < b
  all_goals
    go_enter Tryd.func55, Tryd.ntmps55
    go_wp2
    go_ret
    exact ⟨ret_int (by omega), rfl⟩
set_option maxHeartbeats 1000000 in
theorem swapPairs_c (xs : List Hold) (A : Option Addr) (c : Nat) (a b : ByteArray) (w : World) (hr : Rd encHold 3 w.heap.size w A xs) (hn : xs.length ≤ 1048576) (hg : goodH xs = true) :
    Calls Tryd.prog 29 #[.slice A xs.length c, .string a, .string b] w (Ret (.int .i64 (pairsH xs a b)) w) := by
  have HG := Lib.hid hg
  clear hg
  by_cases hm : (giveH xs a b).length ≤ (giveH xs b a).length
  · have HV := Lib.hid (show ((giveH xs a b).length : Int) = pairsH xs a b by unfold pairsH; omega)
    go_enter Tryd.func29, Tryd.ntmps29
    go_wp2_with fail
    refine (canGive_c xs _ _ _ _ _ hr hn HG.out).mono ?_
    rintro e w1 ⟨B1, c1, rfl, hb1, hO1⟩
    go_wp2_with fail
    refine (canGive_c xs _ _ _ _ _ (hr.go hb1) hn HG.out).mono ?_
    rintro e w2 ⟨B2, c2, rfl, hb2, hO2⟩
    have hm' : ((giveH xs a b).length : Int) ≤ ((giveH xs b a).length : Int) := by omega
    have hmn : min ((giveH xs a b).length : Int) ((giveH xs b a).length : Int) = ((giveH xs a b).length : Int) := by omega
    have hmn' : min (giveH xs a b).length (giveH xs b a).length = (giveH xs a b).length := by omega
    go_wp2_with fail
    go_returns
    exact ⟨ret_int (by first | exact HV.out | (rw [← HV.out]; omega)), below_via hb1 hb2⟩
  · have HV := Lib.hid (show ((giveH xs b a).length : Int) = pairsH xs a b by unfold pairsH; omega)
    go_enter Tryd.func29, Tryd.ntmps29
    go_wp2_with fail
    refine (canGive_c xs _ _ _ _ _ hr hn HG.out).mono ?_
    rintro e w1 ⟨B1, c1, rfl, hb1, hO1⟩
    go_wp2_with fail
    refine (canGive_c xs _ _ _ _ _ (hr.go hb1) hn HG.out).mono ?_
    rintro e w2 ⟨B2, c2, rfl, hb2, hO2⟩
    have hm' : ¬ ((giveH xs a b).length : Int) ≤ ((giveH xs b a).length : Int) := by omega
    have hm'' : ((giveH xs b a).length : Int) ≤ ((giveH xs a b).length : Int) := by omega
    go_wp2_with fail
    go_returns
    exact ⟨ret_int (by first | exact HV.out | (rw [← HV.out]; omega)), below_via hb1 hb2⟩
set_option maxHeartbeats 1000000 in
theorem l19Pairs_c (xs : List Hold) (A : Option Addr) (c : Nat) (a b : ByteArray) (w : World) (hr : Rd encHold 3 w.heap.size w A xs) (hn : xs.length ≤ 1048576) :
    Calls Tryd.prog 32 #[.slice A xs.length c, .string a, .string b] w (Ret (.int .i64 (pairsH xs a b)) w) := by
  go_enter Tryd.func32, Tryd.ntmps32
  go_wp2_with fail
  refine (l19Give_c xs _ _ _ _ _ hr hn).mono ?_
  rintro e w1 ⟨B1, c1, rfl, hb1, hO1⟩
  go_wp2_with fail
  refine (l19Give_c xs _ _ _ _ _ (hr.go hb1) hn).mono ?_
  rintro e w2 ⟨B2, c2, rfl, hb2, hO2⟩
  go_wp2_with fail
  refine (l1Least_c _ _ _).mono ?_
  rintro e w3 ⟨rfl, rfl⟩
  go_wp2_with fail
  go_returns
  exact ⟨rfl, below_via hb1 hb2⟩
def pairV (xs : List Hold) (a b : ByteArray) : Int := if twoB xs a b = true then pairsH xs a b else 0
theorem implSwapPairs_c (xs : List Hold) (A : Option Addr) (c : Nat) (a b : ByteArray) (w : World) (hr : Rd encHold 3 w.heap.size w A xs) (hn : xs.length ≤ 1048576) (hw : ∀ x ∈ xs, x.owner.size ≤ 9223372036854775807) (hsa : a.size ≤ 9223372036854775807) (hsb : b.size ≤ 9223372036854775807) :
    Calls Tryd.prog 8 #[.slice A xs.length c, .string a, .string b] w (Ret (.tuple #[.int .i64 (pairV xs a b), .bool (twoB xs a b)]) w) := by
  have HW := Lib.hid hw
  clear hw
  by_cases hF : goodH xs = false
  · go_enter Tryd.func8, Tryd.ntmps8
    have hbg := Below.refl w.heap.size w
    go_wp2_with fail
    refine (areHolds_c xs _ _ _ (hr.go hbg) hn HW.out).mono ?_
    rintro e wg0 ⟨rfl, hb0⟩
    have hbg := below_via hbg hb0
    go_wp2_with fail
    go_returns
    have HT := (show twoB xs a b = false by simp only [twoB, hF, Bool.and_false, Bool.false_and])
    exact ⟨ret2 (vi (by simp [pairV, HT])) (vb HT.symm), hbg⟩
  have G0 : goodH xs = true := by simpa using hF
  clear hF
  by_cases hF : isW a = false
  · go_enter Tryd.func8, Tryd.ntmps8
    have hbg := Below.refl w.heap.size w
    go_wp2_with fail
    refine (areHolds_c xs _ _ _ (hr.go hbg) hn HW.out).mono ?_
    rintro e wg0 ⟨rfl, hb0⟩
    have hbg := below_via hbg hb0
    go_wp2_with fail
    refine (isWord_c _ _ hsa).mono ?_
    rintro e wp1 ⟨rfl, rfl⟩
    go_wp2_with fail
    go_returns
    have HT := (show twoB xs a b = false by simp only [twoB, hF, Bool.and_false, Bool.false_and])
    exact ⟨ret2 (vi (by simp [pairV, HT])) (vb HT.symm), hbg⟩
  have G1 : isW a = true := by simpa using hF
  clear hF
  by_cases hF : isW b = false
  · go_enter Tryd.func8, Tryd.ntmps8
    have hbg := Below.refl w.heap.size w
    go_wp2_with fail
    refine (areHolds_c xs _ _ _ (hr.go hbg) hn HW.out).mono ?_
    rintro e wg0 ⟨rfl, hb0⟩
    have hbg := below_via hbg hb0
    go_wp2_with fail
    refine (isWord_c _ _ hsa).mono ?_
    rintro e wp1 ⟨rfl, rfl⟩
    go_wp2_with fail
    refine (isWord_c _ _ hsb).mono ?_
    rintro e wp2 ⟨rfl, rfl⟩
    go_wp2_with fail
    go_returns
    have HT := (show twoB xs a b = false by simp only [twoB, hF, Bool.and_false, Bool.false_and])
    exact ⟨ret2 (vi (by simp [pairV, HT])) (vb HT.symm), hbg⟩
  have G2 : isW b = true := by simpa using hF
  clear hF
  by_cases hF : decide (a ≠ b) = false
  · have hE : (a.toList == b.toList) = true := by rw [toList_beq]; simpa using hF
    go_enter Tryd.func8, Tryd.ntmps8
    have hbg := Below.refl w.heap.size w
    go_wp2_with fail
    refine (areHolds_c xs _ _ _ (hr.go hbg) hn HW.out).mono ?_
    rintro e wg0 ⟨rfl, hb0⟩
    have hbg := below_via hbg hb0
    go_wp2_with fail
    refine (isWord_c _ _ hsa).mono ?_
    rintro e wp1 ⟨rfl, rfl⟩
    go_wp2_with fail
    refine (isWord_c _ _ hsb).mono ?_
    rintro e wp2 ⟨rfl, rfl⟩
    go_wp2_with fail
    go_returns
    have HT := (show twoB xs a b = false by simp only [twoB, hF, Bool.and_false, Bool.false_and])
    exact ⟨ret2 (vi (by simp [pairV, HT])) (vb HT.symm), hbg⟩
  have G3 : decide (a ≠ b) = true := by simpa using hF
  clear hF
  have hE : (a.toList == b.toList) = false := by rw [toList_beq]; simpa using G3
  go_enter Tryd.func8, Tryd.ntmps8
  have hbg := Below.refl w.heap.size w
  go_wp2_with fail
  refine (areHolds_c xs _ _ _ (hr.go hbg) hn HW.out).mono ?_
  rintro e wg0 ⟨rfl, hb0⟩
  have hbg := below_via hbg hb0
  go_wp2_with fail
  refine (isWord_c _ _ hsa).mono ?_
  rintro e wp1 ⟨rfl, rfl⟩
  go_wp2_with fail
  refine (isWord_c _ _ hsb).mono ?_
  rintro e wp2 ⟨rfl, rfl⟩
  have HT := Lib.hid (show twoB xs a b = true by simp only [twoB, G0, G1, G2, G3]; rfl)
  go_wp2_with fail
  refine (swapPairs_c xs _ _ _ _ _ (hr.go hbg) hn G0).mono ?_
  rintro e w1 ⟨rfl, hb1⟩
  go_wp2_with fail
  go_returns
  exact ⟨ret2 (vi (by simp [pairV, HT.out])) (vb HT.out.symm), below_via hbg hb1⟩
theorem specSwapPairs_c (xs : List Hold) (A : Option Addr) (c : Nat) (a b : ByteArray) (w : World) (hr : Rd encHold 3 w.heap.size w A xs) (hn : xs.length ≤ 1048576) (hw : ∀ x ∈ xs, x.owner.size ≤ 9223372036854775807) (hsa : a.size ≤ 9223372036854775807) (hsb : b.size ≤ 9223372036854775807) :
    Calls Tryd.prog 19 #[.slice A xs.length c, .string a, .string b] w (Ret (.tuple #[.int .i64 (pairV xs a b), .bool (twoB xs a b)]) w) := by
  have HW := Lib.hid hw
  clear hw
  by_cases hF : twoB xs a b = false
  · go_enter Tryd.func19, Tryd.ntmps19
    have hbg := Below.refl w.heap.size w
    go_wp2_with fail
    refine (l19Two_c xs _ _ _ _ _ (hr.go hbg) hn HW.out hsa hsb).mono ?_
    rintro e wg0 ⟨rfl, hb0⟩
    have hbg := below_via hbg hb0
    go_wp2_with fail
    go_returns
    exact ⟨ret2 (vi (by simp [pairV, hF])) (vb hF.symm), hbg⟩
  have G0 : twoB xs a b = true := by simpa using hF
  clear hF
  go_enter Tryd.func19, Tryd.ntmps19
  have hbg := Below.refl w.heap.size w
  go_wp2_with fail
  refine (l19Two_c xs _ _ _ _ _ (hr.go hbg) hn HW.out hsa hsb).mono ?_
  rintro e wg0 ⟨rfl, hb0⟩
  have hbg := below_via hbg hb0
  have HT := Lib.hid G0
  go_wp2_with fail
  refine (l19Pairs_c xs _ _ _ _ _ (hr.go hbg) hn).mono ?_
  rintro e w1 ⟨rfl, hb1⟩
  go_wp2_with fail
  go_returns
  exact ⟨ret2 (vi (by simp [pairV, HT.out])) (vb HT.out.symm), below_via hbg hb1⟩
def stepB (xs : List Hold) (o : ByteArray) (acc : ByteArray × Int) (h : Hold) : ByteArray × Int := if h.owner ≠ o ∧ acc.2 < pairsH xs o h.owner then (h.owner, pairsH xs o h.owner) else acc
def bestH (xs : List Hold) (o : ByteArray) (k : Nat) : ByteArray × Int := (xs.take k).foldl (stepB xs o) (⟨#[]⟩, -1)
theorem bestH_next {xs : List Hold} {o : ByteArray} {k : Nat} (h : k < xs.length) : bestH xs o (k + 1) = stepB xs o (bestH xs o k) xs[k] := by
  unfold bestH
  rw [take_succ_get xs k h, List.foldl_append]; rfl
def bestG (xs : List Hold) (o : ByteArray) : Bool := goodH xs && isW o
def bestB (xs : List Hold) (o : ByteArray) : Bool := bestG xs o && decide (0 ≤ (bestH xs o xs.length).2)
def bestS (xs : List Hold) (o : ByteArray) : ByteArray := if bestB xs o = true then (bestH xs o xs.length).1 else ⟨#[]⟩
def bestN (xs : List Hold) (o : ByteArray) : Int := if bestB xs o = true then (bestH xs o xs.length).2 else 0
theorem best_end {xs : List Hold} {o : ByteArray} {s : ByteArray} {m : Int} (hg : bestG xs o = true) (h : bestH xs o xs.length = (s, m)) : bestB xs o = decide (0 ≤ m) ∧ (0 ≤ m → bestS xs o = s ∧ bestN xs o = m) ∧ (¬ 0 ≤ m → bestS xs o = ⟨#[]⟩ ∧ bestN xs o = 0) := by
  have hb : bestB xs o = decide (0 ≤ m) := by simp [bestB, hg, h]
  refine ⟨hb, fun h0 => ?_, fun h0 => ?_⟩
  · have : bestB xs o = true := by rw [hb]; simpa using h0
    simp [bestS, bestN, this, h]
  · have : bestB xs o = false := by rw [hb]; simpa using h0
    simp [bestS, bestN, this]
theorem vs {a b : ByteArray} (h : a = b) : Value.string a = Value.string b := by rw [h]
set_option maxRecDepth 100000 in
set_option maxHeartbeats 2000000 in
theorem implBestPartner_c (xs : List Hold) (A : Option Addr) (c : Nat) (o : ByteArray) (w : World) (hr : Rd encHold 3 w.heap.size w A xs) (hn : xs.length ≤ 1048576) (hw : ∀ x ∈ xs, x.owner.size ≤ 9223372036854775807) (hs : o.size ≤ 9223372036854775807) :
    Calls Tryd.prog 6 #[.slice A xs.length c, .string o] w (Ret (.tuple #[.string (bestS xs o), .int .i64 (bestN xs o), .bool (bestB xs o)]) w) := by
  have HW := Lib.hid hw
  clear hw
  by_cases hF : goodH xs = false
  · go_enter Tryd.func6, Tryd.ntmps6
    have hbg := Below.refl w.heap.size w
    go_wp2_with fail
    refine (areHolds_c xs _ _ _ (hr.go hbg) hn HW.out).mono ?_
    rintro e wg0 ⟨rfl, hb0⟩
    have hbg := below_via hbg hb0
    go_wp2_with fail
    go_returns
    have HT := (show bestB xs o = false by simp [bestB, bestG, hF])
    exact ⟨ret3 (vs (by simp [bestS, HT])) (vi (by simp [bestN, HT])) (vb HT.symm), hbg⟩
  have G0 : goodH xs = true := by simpa using hF
  clear hF
  by_cases hF : isW o = false
  · go_enter Tryd.func6, Tryd.ntmps6
    have hbg := Below.refl w.heap.size w
    go_wp2_with fail
    refine (areHolds_c xs _ _ _ (hr.go hbg) hn HW.out).mono ?_
    rintro e wg0 ⟨rfl, hb0⟩
    have hbg := below_via hbg hb0
    go_wp2_with fail
    refine (isWord_c _ _ hs).mono ?_
    rintro e wp1 ⟨rfl, rfl⟩
    go_wp2_with fail
    go_returns
    have HT := (show bestB xs o = false by simp [bestB, bestG, hF])
    exact ⟨ret3 (vs (by simp [bestS, HT])) (vi (by simp [bestN, HT])) (vb HT.symm), hbg⟩
  have G1 : isW o = true := by simpa using hF
  clear hF
  go_enter Tryd.func6, Tryd.ntmps6
  have hbg := Below.refl w.heap.size w
  go_wp2_with fail
  refine (areHolds_c xs _ _ _ (hr.go hbg) hn HW.out).mono ?_
  rintro e wg0 ⟨rfl, hb0⟩
  have hbg := below_via hbg hb0
  go_wp2_with fail
  refine (isWord_c _ _ hs).mono ?_
  rintro e wp1 ⟨rfl, rfl⟩
  have HG := Lib.hid G0
  have HT := Lib.hid (show bestG xs o = true by simp [bestG, G0, G1])
  go_wp2_with fail
  clear G0 G1
  go_loopw [7, 8, 21] (fun u v i wr => ∃ k : Nat, k ≤ xs.length ∧ i = .int .i64 k ∧ u = .string (bestH xs o k).1 ∧ v = .int .i64 (bestH xs o k).2 ∧ Below w.heap.size w wr) (fun _ _ i _ => xs.length - (intOf i).toNat)
  case atStart => exact ⟨0, Nat.zero_le _, rfl, rfl, rfl, hbg⟩
  case round =>
    obtain ⟨k, hk, rfl, rfl, rfl, hb⟩ := hrel
    clear hbg
    obtain ⟨s, m, hsm⟩ : ∃ s m, bestH xs o k = (s, m) := ⟨_, _, rfl⟩
    rw [hsm]
    by_cases hlt : k < xs.length
    · obtain ⟨bk, off, rfl, hbs, d0, d1, d2⟩ := (hr.below hb).atHold hlt
      have hbw : bk < wr.heap.size := Nat.lt_of_lt_of_le hbs hb.size
      have HN := Lib.hid (show bestH xs o (k + 1) = stepB xs o (s, m) xs[k] by rw [bestH_next hlt, hsm])
      clear hsm
      by_cases h0 : xs[k].owner = o
      · have h0' : (xs[k].owner.toList == o.toList) = true := by rw [toList_beq]; simpa using h0
        have HM := Lib.hid (show bestH xs o (k + 1) = (s, m) by rw [HN.out, stepB, if_neg (by simp [h0])])
        clear h0
        go_wp2_with fail
        go_roundw
        case rel => exact ⟨k + 1, by omega, by go_num, by rw [HM.out], by rw [HM.out], hb.trans ((Below.refl _ _).alloc hb.size _)⟩
        case measure => simp [intOf]; omega
      · have h0' : (xs[k].owner.toList == o.toList) = false := by rw [toList_beq]; simpa using h0
        by_cases h1 : m < pairsH xs o xs[k].owner
        · have h1' : decide (m < pairsH xs o xs[k].owner) = true := decide_eq_true h1
          have HM := Lib.hid (show bestH xs o (k + 1) = (xs[k].owner, pairsH xs o xs[k].owner) by rw [HN.out, stepB, if_pos ⟨h0, h1⟩])
          clear h0 h1
          go_wp2_with (go_at_call 29; refine (swapPairs_c xs _ _ _ _ _ ((hr.below hb).more hb.size |>.go ((Below.refl _ _).alloc (Nat.le_refl _) _)) hn HG.out).mono ?_; rintro e wc ⟨rfl, hbc⟩; obtain ⟨hcc, hff⟩ := bcell hbc)
          have hbcs := hbc.size
          simp only [World.size_alloc] at hbcs
          have hbw2 : wr.heap.size < wc.heap.size := by omega
          have hx0 := (hcc wr.heap.size 0 (by simp)).trans (World.cell?_alloc_new _ _ _ _)
          have hov := over_cell wc
          have hbA : Below w.heap.size w wc := (hb.trans ((Below.refl _ _).alloc hb.size _)).trans (hbc.mono (by simp; have := hb.size; omega))
          have HC : Hid (∀ x : World, Calls Tryd.prog 29 #[.slice (some ⟨bk, off, none⟩) xs.length c, .string o, .string xs[k].owner] (over wc x) (Ret (.int .i64 (pairsH xs o xs[k].owner)) (over wc x))) := Lib.hid (fun x => swapPairs_c xs _ _ _ _ _ (((hr.below hbA).more hbA.size).go (over_below wc x)) hn HG.out)
          refine wp_region_over (by kernel_rfl) (by kernel_rfl) ?_
          repeat (go_big_quiet_step (((go_at_call 29; exact Calls.over_of (HC.out _)))))
          refine wpQuiet_nil ?_
          intro _ hwx1
          obtain ⟨x1, hwx1⟩ := hwx1
          subst hwx1
          go_wp2_with fail
          go_roundw
          case rel => exact ⟨k + 1, by omega, by go_num, by rw [HM.out], by rw [HM.out], below_via hbA (over_below wc x1)⟩
          case measure => simp [intOf]; omega
        · have h1' : decide (m < pairsH xs o xs[k].owner) = false := decide_eq_false h1
          have HM := Lib.hid (show bestH xs o (k + 1) = (s, m) by rw [HN.out, stepB, if_neg (fun h => h1 h.2)])
          clear h0 h1
          go_wp2_with (go_at_call 29; refine (swapPairs_c xs _ _ _ _ _ ((hr.below hb).more hb.size |>.go ((Below.refl _ _).alloc (Nat.le_refl _) _)) hn HG.out).mono ?_; rintro e wc ⟨rfl, hbc⟩)
          go_roundw
          case rel => exact ⟨k + 1, by omega, by go_num, by rw [HM.out], by rw [HM.out], (hb.trans ((Below.refl _ _).alloc hb.size _)).trans (hbc.mono (by simp; have := hb.size; omega))⟩
          case measure => simp [intOf]; omega
    · have hke : k = xs.length := by omega
      subst hke
      obtain ⟨hE, hY, hZ⟩ := best_end HT.out hsm
      have HE := Lib.hid hE
      have HY := Lib.hid hY
      have HZ := Lib.hid hZ
      clear hE hY hZ hsm
      by_cases hm : m < 0
      · go_wp2_with fail
        go_returns
        exact ⟨ret3 (vs (HZ.out (by omega)).1.symm) (vi (HZ.out (by omega)).2.symm) (vb (by rw [HE.out, decide_eq_false (by omega)])), hb⟩
      · go_wp2_with fail
        go_returns
        exact ⟨ret3 (vs (HY.out (by omega)).1.symm) (vi (HY.out (by omega)).2.symm) (vb (by rw [HE.out, decide_eq_true (by omega)])), hb⟩
set_option maxRecDepth 100000 in
set_option maxHeartbeats 2000000 in
theorem specBestPartner_c (xs : List Hold) (A : Option Addr) (c : Nat) (o : ByteArray) (w : World) (hr : Rd encHold 3 w.heap.size w A xs) (hn : xs.length ≤ 1048576) (hw : ∀ x ∈ xs, x.owner.size ≤ 9223372036854775807) (hs : o.size ≤ 9223372036854775807) :
    Calls Tryd.prog 7 #[.slice A xs.length c, .string o] w (Ret (.tuple #[.string (bestS xs o), .int .i64 (bestN xs o), .bool (bestB xs o)]) w) := by
  have HW := Lib.hid hw
  clear hw
  by_cases hF : goodH xs = false
  · go_enter Tryd.func7, Tryd.ntmps7
    have hbg := Below.refl w.heap.size w
    go_wp2_with fail
    refine (l19Good_c xs _ _ _ (hr.go hbg) hn HW.out).mono ?_
    rintro e wg0 ⟨rfl, hb0⟩
    have hbg := below_via hbg hb0
    go_wp2_with fail
    go_returns
    have HT := (show bestB xs o = false by simp [bestB, bestG, hF])
    exact ⟨ret3 (vs (by simp [bestS, HT])) (vi (by simp [bestN, HT])) (vb HT.symm), hbg⟩
  have G0 : goodH xs = true := by simpa using hF
  clear hF
  by_cases hF : isW o = false
  · go_enter Tryd.func7, Tryd.ntmps7
    have hbg := Below.refl w.heap.size w
    go_wp2_with fail
    refine (l19Good_c xs _ _ _ (hr.go hbg) hn HW.out).mono ?_
    rintro e wg0 ⟨rfl, hb0⟩
    have hbg := below_via hbg hb0
    go_wp2_with fail
    refine (l2Word_c _ _ hs).mono ?_
    rintro e wp1 ⟨rfl, rfl⟩
    go_wp2_with fail
    go_returns
    have HT := (show bestB xs o = false by simp [bestB, bestG, hF])
    exact ⟨ret3 (vs (by simp [bestS, HT])) (vi (by simp [bestN, HT])) (vb HT.symm), hbg⟩
  have G1 : isW o = true := by simpa using hF
  clear hF
  go_enter Tryd.func7, Tryd.ntmps7
  have hbg := Below.refl w.heap.size w
  go_wp2_with fail
  refine (l19Good_c xs _ _ _ (hr.go hbg) hn HW.out).mono ?_
  rintro e wg0 ⟨rfl, hb0⟩
  have hbg := below_via hbg hb0
  go_wp2_with fail
  refine (l2Word_c _ _ hs).mono ?_
  rintro e wp1 ⟨rfl, rfl⟩
  have HT := Lib.hid (show bestG xs o = true by simp [bestG, G0, G1])
  go_wp2_with fail
  clear G0 G1
  go_loopw [7, 8, 9] (fun u v i wr => ∃ k : Nat, k ≤ xs.length ∧ i = .int .i64 k ∧ u = .string (bestH xs o k).1 ∧ v = .int .i64 (bestH xs o k).2 ∧ Below w.heap.size w wr) (fun _ _ i _ => xs.length - (intOf i).toNat)
  case atStart => exact ⟨0, Nat.zero_le _, rfl, rfl, rfl, hbg⟩
  case round =>
    obtain ⟨k, hk, rfl, rfl, rfl, hb⟩ := hrel
    clear hbg
    obtain ⟨s, m, hsm⟩ : ∃ s m, bestH xs o k = (s, m) := ⟨_, _, rfl⟩
    rw [hsm]
    by_cases hlt : k < xs.length
    · obtain ⟨bk, off, rfl, hbs, d0, d1, d2⟩ := (hr.below hb).atHold hlt
      have HN := Lib.hid (show bestH xs o (k + 1) = stepB xs o (s, m) xs[k] by rw [bestH_next hlt, hsm])
      clear hsm
      by_cases h0 : xs[k].owner = o
      · have h0' : (xs[k].owner.toList == o.toList) = true := by rw [toList_beq]; simpa using h0
        have HM := Lib.hid (show bestH xs o (k + 1) = (s, m) by rw [HN.out, stepB, if_neg (by simp [h0])])
        clear h0
        go_wp2_with fail
        go_roundw
        case rel => exact ⟨k + 1, by omega, by go_num, by rw [HM.out], by rw [HM.out], hb⟩
        case measure => simp [intOf]; omega
      · have h0' : (xs[k].owner.toList == o.toList) = false := by rw [toList_beq]; simpa using h0
        by_cases h1 : m < pairsH xs o xs[k].owner
        · have HM := Lib.hid (show bestH xs o (k + 1) = (xs[k].owner, pairsH xs o xs[k].owner) by rw [HN.out, stepB, if_pos ⟨h0, h1⟩])
          clear h0
          go_wp2_with (go_at_call 32; refine (l19Pairs_c xs _ _ _ _ _ ((hr.below hb).more hb.size) hn).mono ?_; rintro e wc ⟨rfl, hbc⟩)
          go_roundw
          case rel => exact ⟨k + 1, by omega, by go_num, by rw [HM.out], by rw [HM.out], hb.trans (hbc.mono hb.size)⟩
          case measure => simp [intOf]; omega
        · have HM := Lib.hid (show bestH xs o (k + 1) = (s, m) by rw [HN.out, stepB, if_neg (fun h => h1 h.2)])
          clear h0
          go_wp2_with (go_at_call 32; refine (l19Pairs_c xs _ _ _ _ _ ((hr.below hb).more hb.size) hn).mono ?_; rintro e wc ⟨rfl, hbc⟩)
          go_roundw
          case rel => exact ⟨k + 1, by omega, by go_num, by rw [HM.out], by rw [HM.out], hb.trans (hbc.mono hb.size)⟩
          case measure => simp [intOf]; omega
    · have hke : k = xs.length := by omega
      subst hke
      obtain ⟨hE, hY, hZ⟩ := best_end HT.out hsm
      have HE := Lib.hid hE
      have HY := Lib.hid hY
      have HZ := Lib.hid hZ
      clear hE hY hZ hsm
      by_cases hm : m < 0
      · go_wp2_with fail
        go_returns
        exact ⟨ret3 (vs (HZ.out (by omega)).1.symm) (vi (HZ.out (by omega)).2.symm) (vb (by rw [HE.out, decide_eq_false (by omega)])), hb⟩
      · go_wp2_with fail
        go_returns
        exact ⟨ret3 (vs (HY.out (by omega)).1.symm) (vi (HY.out (by omega)).2.symm) (vb (by rw [HE.out, decide_eq_true (by omega)])), hb⟩
end Go.Proofs.YtebkfcdijjcefaaDoor
