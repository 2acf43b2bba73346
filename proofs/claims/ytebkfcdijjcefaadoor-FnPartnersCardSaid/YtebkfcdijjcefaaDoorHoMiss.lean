/- Contracts of MissingUpTo: the program's and the reference's. No condition but the sizes. -/
import Derived.Test.YtebkfcdijjcefaaDoorHoGive
namespace Go.Proofs.YtebkfcdijjcefaaDoor
set_option linter.unusedVariables false
set_option linter.unusedSimpArgs false
open Go.RowKit
theorem range_yes {β : Type} {p : Nat → Bool} {f : Nat → β} {k : Nat} (hp : p k = true) : ((List.range (k + 1)).filter p).map f = ((List.range k).filter p).map f ++ [f k] := by
  rw [List.range_succ, List.filter_append]; simp [hp]
theorem range_no {β : Type} {p : Nat → Bool} {f : Nat → β} {k : Nat} (hp : p k = false) : ((List.range (k + 1)).filter p).map f = ((List.range k).filter p).map f := by
  rw [List.range_succ, List.filter_append]; simp [hp]
theorem range_len {β : Type} {p : Nat → Bool} {f : Nat → β} {k : Nat} : (((List.range k).filter p).map f).length ≤ k := by
  rw [List.length_map]; exact Nat.le_trans (List.length_filter_le _ _) (by simp)
def nxt (i : Nat) : Int := (i : Int) + 1
def missP (xs : List Hold) (o : ByteArray) (i : Nat) : Bool := decide (cntH xs o ((i : Int) + 1) = 0)
def missV (xs : List Hold) (o : ByteArray) (z : Int) : List Int := if cntB xs o z = true then ((List.range z.toNat).filter (missP xs o)).map nxt else []
theorem missV_len (xs : List Hold) (o : ByteArray) (z : Int) : (missV xs o z).length ≤ 2097152 := by
  unfold missV; split
  · rename_i h
    have := range_len (p := missP xs o) (f := nxt) (k := z.toNat)
    have h2 : inR z 1 99 = true := by simp only [cntB, Bool.and_eq_true] at h; exact h.2
    rw [inR_iff] at h2
    omega
  · simp
set_option maxRecDepth 100000 in
set_option maxHeartbeats 2000000 in
theorem implMissingUpTo_c (xs : List Hold) (A : Option Addr) (c : Nat) (o : ByteArray) (z : Int) (w : World) (hr : Rd encHold 3 w.heap.size w A xs) (hn : xs.length ≤ 1048576) (hw : ∀ x ∈ xs, x.owner.size ≤ 9223372036854775807) (hs : o.size ≤ 9223372036854775807) (hz : -9223372036854775808 ≤ z ∧ z ≤ 9223372036854775807) :
    Calls Tryd.prog 14 #[.slice A xs.length c, .string o, .int .i64 z] w (RetL encI 1 (missV xs o z) (cntB xs o z) w) := by
  have HW := Lib.hid hw
  clear hw
  by_cases hF : goodH xs = false
  · go_enter Tryd.func14, Tryd.ntmps14
    have hbg := Below.refl w.heap.size w
    go_wp2_with fail
    refine (areHolds_c xs _ _ _ (hr.go hbg) hn HW.out).mono ?_
    rintro e wg0 ⟨rfl, hb0⟩
    have hbg := below_via hbg hb0
    go_wp2_with fail
    go_returns
    exact ⟨_, _, ret_list (by simp [missV, cntB, hF]) (by simp [cntB, hF]), hbg, Own.none_ (by simp [missV, cntB, hF]) (Nat.le_refl _)⟩
  have G0 : goodH xs = true := by simpa using hF
  clear hF
  by_cases hF : isW o = false
  · go_enter Tryd.func14, Tryd.ntmps14
    have hbg := Below.refl w.heap.size w
    go_wp2_with fail
    refine (areHolds_c xs _ _ _ (hr.go hbg) hn HW.out).mono ?_
    rintro e wg0 ⟨rfl, hb0⟩
    have hbg := below_via hbg hb0
    go_wp2_with fail
    refine (isWord_c _ _ hs).mono ?_
    rintro e wp1 ⟨rfl, rfl⟩
    go_wp2_with fail
    go_returns
    exact ⟨_, _, ret_list (by simp [missV, cntB, hF]) (by simp [cntB, hF]), hbg, Own.none_ (by simp [missV, cntB, hF]) (Nat.le_refl _)⟩
  have G1 : isW o = true := by simpa using hF
  clear hF
  by_cases hF : inR z 1 99 = false
  · go_enter Tryd.func14, Tryd.ntmps14
    have hbg := Below.refl w.heap.size w
    go_wp2_with fail
    refine (areHolds_c xs _ _ _ (hr.go hbg) hn HW.out).mono ?_
    rintro e wg0 ⟨rfl, hb0⟩
    have hbg := below_via hbg hb0
    go_wp2_with fail
    refine (isWord_c _ _ hs).mono ?_
    rintro e wp1 ⟨rfl, rfl⟩
    go_wp2_with fail
    refine (isPiece_c _ _).mono ?_
    rintro e wp2 ⟨rfl, rfl⟩
    go_wp2_with fail
    go_returns
    exact ⟨_, _, ret_list (by simp [missV, cntB, hF]) (by simp [cntB, hF]), hbg, Own.none_ (by simp [missV, cntB, hF]) (Nat.le_refl _)⟩
  have G2 : inR z 1 99 = true := by simpa using hF
  clear hF
  go_enter Tryd.func14, Tryd.ntmps14
  have hbg := Below.refl w.heap.size w
  go_wp2_with fail
  refine (areHolds_c xs _ _ _ (hr.go hbg) hn HW.out).mono ?_
  rintro e wg0 ⟨rfl, hb0⟩
  have hbg := below_via hbg hb0
  go_wp2_with fail
  refine (isWord_c _ _ hs).mono ?_
  rintro e wp1 ⟨rfl, rfl⟩
  go_wp2_with fail
  refine (isPiece_c _ _).mono ?_
  rintro e wp2 ⟨rfl, rfl⟩
  have HG := Lib.hid G0
  have HV := Lib.hid (show missV xs o z = ((List.range z.toNat).filter (missP xs o)).map nxt by simp [missV, cntB, G0, G1, G2])
  have HB := Lib.hid (show cntB xs o z = true by simp [cntB, G0, G1, G2])
  have h2 := inR_iff.1 G2
  go_wp2_with fail
  clear G0 G1 G2 hz
  obtain ⟨n, rfl⟩ : ∃ n : Nat, z = (n : Int) := ⟨z.toNat, by omega⟩
  simp only [Int.toNat_natCast] at HV
  go_loopw [8, 9] (fun v i wr => ∃ k : Nat, k ≤ n ∧ i = .int .i64 ((k : Int) + 1) ∧ Out (Value.int .i64) 3 w.heap.size v (((List.range k).filter (missP xs o)).map nxt) wr ∧ Below w.heap.size w wr) (fun _ i _ => n + 1 - (intOf i).toNat)
  case atStart => exact ⟨0, Nat.zero_le _, rfl, Out.nil _, hbg⟩
  case round =>
    obtain ⟨k, hk, rfl, ho, hb⟩ := hrel
    clear hbg
    have hl := range_len (p := missP xs o) (f := nxt) (k := k)
    have hbz := hb.size
    by_cases hlt : k < n
    · have hle : (k : Int) + 1 ≤ (n : Int) := by omega
      by_cases h0 : cntH xs o ((k : Int) + 1) = 0
      · have h0' : (cntH xs o ((k : Int) + 1) == 0) = true := by simpa using h0
        have HK := Lib.hid (range_yes (p := missP xs o) (f := nxt) (k := k) (by simp [missP, h0]))
        clear h0
        go_wp2_with (first | (go_at_call 37; refine (countOf_c xs _ _ _ _ _ ((hr.below hb).more hb.size) HG.out).mono ?_; rintro e wc ⟨rfl, hbc⟩) | (at_builtin; refine wpList_push rfl _ _ _ rfl 3 (.int .i64 0) 8 Tryd.underlying33 infoI rfl ((k : Int) + 1) rfl (ho.below hbc) _ rfl (by simp) rfl (by omega) (by omega) (by have := hbc.size; omega) ?_; intro v1 w1 hown1 hbel1))
        go_roundw
        case rel => exact ⟨k + 1, by omega, vi (by omega), by rw [HK.out]; exact hown1, (hb.trans (hbc.mono hb.size)).trans hbel1⟩
        case measure => simp [intOf]; omega
      · have h0' : (cntH xs o ((k : Int) + 1) == 0) = false := by simpa using h0
        have HK := Lib.hid (range_no (p := missP xs o) (f := nxt) (k := k) (by simp [missP, h0]))
        clear h0
        go_wp2_with (go_at_call 37; refine (countOf_c xs _ _ _ _ _ ((hr.below hb).more hb.size) HG.out).mono ?_; rintro e wc ⟨rfl, hbc⟩)
        go_roundw
        case rel => exact ⟨k + 1, by omega, vi (by omega), by rw [HK.out]; exact ho.below hbc, hb.trans (hbc.mono hb.size)⟩
        case measure => simp [intOf]; omega
    · have hle : ¬ (k : Int) + 1 ≤ (n : Int) := by omega
      have hke : k = n := by omega
      subst hke
      clear hl
      obtain ⟨L, hL⟩ : ∃ L, ((List.range k).filter (missP xs o)).map nxt = L := ⟨_, rfl⟩
      rw [hL] at ho
      have HV := Lib.hid (HV.out.trans hL)
      clear hL
      obtain ⟨B, c', rfl, hO⟩ := ho.own
      go_wp2_with fail
      go_returns
      exact ⟨B, c', ret_list (by rw [HV.out]) HB.out.symm, hb, hO.cast HV.out.symm⟩
set_option maxRecDepth 100000 in
set_option maxHeartbeats 2000000 in
theorem specMissingUpTo_c (xs : List Hold) (A : Option Addr) (c : Nat) (o : ByteArray) (z : Int) (w : World) (hr : Rd encHold 3 w.heap.size w A xs) (hn : xs.length ≤ 1048576) (hw : ∀ x ∈ xs, x.owner.size ≤ 9223372036854775807) (hs : o.size ≤ 9223372036854775807) (hz : -9223372036854775808 ≤ z ∧ z ≤ 9223372036854775807) :
    Calls Tryd.prog 15 #[.slice A xs.length c, .string o, .int .i64 z] w (RetL encI 1 (missV xs o z) (cntB xs o z) w) := by
  have HW := Lib.hid hw
  clear hw
  by_cases hF : goodH xs = false
  · go_enter Tryd.func15, Tryd.ntmps15
    have hbg := (show Below w.heap.size w (w.alloc (.cells #[] 3)) by go_grown)
    have hbx := Below.refl (w.alloc (.cells #[] 3)).heap.size (w.alloc (.cells #[] 3))
    go_wp2_with fail
    refine (l19Good_c xs _ _ _ (hr.go hbg) hn HW.out).mono ?_
    rintro e wg0 ⟨rfl, hb0⟩
    have hbg := below_via hbg hb0
    have hbx := below_via hbx hb0
    go_wp2_with fail
    go_returns
    exact ⟨_, _, ret_list (by simp [missV, cntB, hF]) (by simp [cntB, hF]), hbg, Own.none_ (by simp [missV, cntB, hF]) (Nat.le_refl _)⟩
  have G0 : goodH xs = true := by simpa using hF
  clear hF
  by_cases hF : isW o = false
  · go_enter Tryd.func15, Tryd.ntmps15
    have hbg := (show Below w.heap.size w (w.alloc (.cells #[] 3)) by go_grown)
    have hbx := Below.refl (w.alloc (.cells #[] 3)).heap.size (w.alloc (.cells #[] 3))
    go_wp2_with fail
    refine (l19Good_c xs _ _ _ (hr.go hbg) hn HW.out).mono ?_
    rintro e wg0 ⟨rfl, hb0⟩
    have hbg := below_via hbg hb0
    have hbx := below_via hbx hb0
    go_wp2_with fail
    refine (l2Word_c _ _ hs).mono ?_
    rintro e wp1 ⟨rfl, rfl⟩
    go_wp2_with fail
    go_returns
    exact ⟨_, _, ret_list (by simp [missV, cntB, hF]) (by simp [cntB, hF]), hbg, Own.none_ (by simp [missV, cntB, hF]) (Nat.le_refl _)⟩
  have G1 : isW o = true := by simpa using hF
  clear hF
  by_cases hF : inR z 1 99 = false
  · go_enter Tryd.func15, Tryd.ntmps15
    have hbg := (show Below w.heap.size w (w.alloc (.cells #[] 3)) by go_grown)
    have hbx := Below.refl (w.alloc (.cells #[] 3)).heap.size (w.alloc (.cells #[] 3))
    go_wp2_with fail
    refine (l19Good_c xs _ _ _ (hr.go hbg) hn HW.out).mono ?_
    rintro e wg0 ⟨rfl, hb0⟩
    have hbg := below_via hbg hb0
    have hbx := below_via hbx hb0
    go_wp2_with fail
    refine (l2Word_c _ _ hs).mono ?_
    rintro e wp1 ⟨rfl, rfl⟩
    go_wp2_with fail
    refine (l19Item_c _ _).mono ?_
    rintro e wp2 ⟨rfl, rfl⟩
    go_wp2_with fail
    go_returns
    exact ⟨_, _, ret_list (by simp [missV, cntB, hF]) (by simp [cntB, hF]), hbg, Own.none_ (by simp [missV, cntB, hF]) (Nat.le_refl _)⟩
  have G2 : inR z 1 99 = true := by simpa using hF
  clear hF
  go_enter Tryd.func15, Tryd.ntmps15
  have hbg := (show Below w.heap.size w (w.alloc (.cells #[] 3)) by go_grown)
  have hbx := Below.refl (w.alloc (.cells #[] 3)).heap.size (w.alloc (.cells #[] 3))
  go_wp2_with fail
  refine (l19Good_c xs _ _ _ (hr.go hbg) hn HW.out).mono ?_
  rintro e wg0 ⟨rfl, hb0⟩
  have hbg := below_via hbg hb0
  have hbx := below_via hbx hb0
  go_wp2_with fail
  refine (l2Word_c _ _ hs).mono ?_
  rintro e wp1 ⟨rfl, rfl⟩
  go_wp2_with fail
  refine (l19Item_c _ _).mono ?_
  rintro e wp2 ⟨rfl, rfl⟩
  have HG := Lib.hid G0
  have HV := Lib.hid (show missV xs o z = ((List.range z.toNat).filter (missP xs o)).map nxt by simp [missV, cntB, G0, G1, G2])
  have HB := Lib.hid (show cntB xs o z = true by simp [cntB, G0, G1, G2])
  have h2 := inR_iff.1 G2
  go_wp2_with fail
  clear G0 G1 G2 hz
  obtain ⟨n, rfl⟩ : ∃ n : Nat, z = (n : Int) := ⟨z.toNat, by omega⟩
  simp only [Int.toNat_natCast] at HV
  go_loopw [8, 9] (fun v i wr => ∃ k : Nat, k ≤ n ∧ i = .int .i64 ((k : Int) + 1) ∧ Out (Value.int .i64) 3 w.heap.size v (((List.range k).filter (missP xs o)).map nxt) wr ∧ Below w.heap.size w wr) (fun _ i _ => n + 1 - (intOf i).toNat)
  case atStart => exact ⟨0, Nat.zero_le _, rfl, (Out.empty w (Nat.le_refl _)).below hbx, hbg⟩
  case round =>
    obtain ⟨k, hk, rfl, ho, hb⟩ := hrel
    clear hbg
    have hl := range_len (p := missP xs o) (f := nxt) (k := k)
    have hbz := hb.size
    by_cases hlt : k < n
    · have hle : (k : Int) + 1 ≤ (n : Int) := by omega
      by_cases h0 : cntH xs o ((k : Int) + 1) = 0
      · have h0' : (cntH xs o ((k : Int) + 1) == 0) = true := by simpa using h0
        have HK := Lib.hid (range_yes (p := missP xs o) (f := nxt) (k := k) (by simp [missP, h0]))
        clear h0
        go_wp2_with (first | (go_at_call 39; refine (l19Count_c xs _ _ _ _ _ ((hr.below hb).more hb.size) hn).mono ?_; rintro e wc ⟨rfl, hbc⟩) | (at_builtin; refine wpList_push rfl _ _ _ rfl 3 (.int .i64 0) 8 Tryd.underlying33 infoI rfl ((k : Int) + 1) rfl (ho.below hbc) _ rfl (by simp) rfl (by omega) (by omega) (by have := hbc.size; omega) ?_; intro v1 w1 hown1 hbel1))
        go_roundw
        case rel => exact ⟨k + 1, by omega, vi (by omega), by rw [HK.out]; exact hown1, (hb.trans (hbc.mono hb.size)).trans hbel1⟩
        case measure => simp [intOf]; omega
      · have h0' : (cntH xs o ((k : Int) + 1) == 0) = false := by simpa using h0
        have HK := Lib.hid (range_no (p := missP xs o) (f := nxt) (k := k) (by simp [missP, h0]))
        clear h0
        go_wp2_with (go_at_call 39; refine (l19Count_c xs _ _ _ _ _ ((hr.below hb).more hb.size) hn).mono ?_; rintro e wc ⟨rfl, hbc⟩)
        go_roundw
        case rel => exact ⟨k + 1, by omega, vi (by omega), by rw [HK.out]; exact ho.below hbc, hb.trans (hbc.mono hb.size)⟩
        case measure => simp [intOf]; omega
    · have hle : ¬ (k : Int) + 1 ≤ (n : Int) := by omega
      have hke : k = n := by omega
      subst hke
      clear hl
      obtain ⟨L, hL⟩ : ∃ L, ((List.range k).filter (missP xs o)).map nxt = L := ⟨_, rfl⟩
      rw [hL] at ho
      have HV := Lib.hid (HV.out.trans hL)
      clear hL
      obtain ⟨B, c', rfl, hO⟩ := ho.own
      go_wp2_with fail
      go_returns
      exact ⟨B, c', ret_list (by rw [HV.out]) HB.out.symm, hb, hO.cast HV.out.symm⟩
end Go.Proofs.YtebkfcdijjcefaaDoor
