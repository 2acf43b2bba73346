/- Contracts of DoublesOf, OwnersOf: the program's and the reference's. No condition but the sizes. -/
import Derived.Test.YtebkfcdijjcefaaDoorHoTop1
import Derived.Test.YtebkfcdijjcefaaDoorApp
namespace Go.Proofs.YtebkfcdijjcefaaDoor
set_option linter.unusedVariables false
set_option linter.unusedSimpArgs false
open Go.RowKit
def dblB (xs : List Hold) (o : ByteArray) : Bool := goodH xs && isW o
def dblP (o : ByteArray) (h : Hold) : Bool := decide (h.owner = o) && decide (1 < h.count)
def dblV (xs : List Hold) (o : ByteArray) : List Int := if dblB xs o = true then (xs.filter (dblP o)).map (·.item) else []
def ownB (xs : List Hold) (z : Int) : Bool := goodH xs && inR z 1 99
def ownP (z : Int) (h : Hold) : Bool := decide (h.item = z)
def ownH (xs : List Hold) (z : Int) : List ByteArray := (xs.filter (ownP z)).map (·.owner)
def ownV (xs : List Hold) (z : Int) : List ByteArray := if ownB xs z = true then (xs.filter (ownP z)).map (·.owner) else []
theorem dblV_len {xs : List Hold} {o : ByteArray} (h : xs.length ≤ 1048576) : (dblV xs o).length ≤ 2097152 := by
  unfold dblV; split
  · rw [List.length_map]; have := List.length_filter_le (dblP o) xs; omega
  · simp
theorem ownV_len {xs : List Hold} {z : Int} (h : xs.length ≤ 1048576) : (ownV xs z).length ≤ 2097152 := by
  unfold ownV; split
  · rw [List.length_map]; have := List.length_filter_le (ownP z) xs; omega
  · simp
set_option maxRecDepth 100000 in
set_option maxHeartbeats 2000000 in
theorem specOwnersOf_c (xs : List Hold) (A : Option Addr) (c : Nat) (z : Int) (w : World) (hr : Rd encHold 3 w.heap.size w A xs) (hn : xs.length ≤ 1048576) (hw : ∀ x ∈ xs, x.owner.size ≤ 9223372036854775807) (hz : -9223372036854775808 ≤ z ∧ z ≤ 9223372036854775807) :
    Calls Tryd.prog 21 #[.slice A xs.length c, .int .i64 z] w fun e w' => ∃ B c', e = .returned (.tuple #[.slice B (ownV xs z).length c', .bool (ownB xs z)]) ∧ Below w.heap.size w w' ∧ Own encS 1 w.heap.size w'.heap.size w' B (ownV xs z) := by
  have HW := Lib.hid hw
  clear hw
  by_cases hF : goodH xs = false
  · go_enter Tryd.func21, Tryd.ntmps21
    have hbg := (show Below w.heap.size w (w.alloc (.cells #[] 9)) by go_grown)
    have hbx := Below.refl (w.alloc (.cells #[] 9)).heap.size (w.alloc (.cells #[] 9))
    go_wp2_with fail
    refine (l19Good_c xs _ _ _ (hr.go hbg) hn HW.out).mono ?_
    rintro e wg0 ⟨rfl, hb0⟩
    have hbg := below_via hbg hb0
    have hbx := below_via hbx hb0
    go_wp2_with fail
    go_returns
    exact ⟨_, _, ret_list (by simp [ownV, ownB, hF]) (by simp [ownB, hF]), hbg, Own.none_ (by simp [ownV, ownB, hF]) (Nat.le_refl _)⟩
  have G0 : goodH xs = true := by simpa using hF
  clear hF
  by_cases hF : inR z 1 99 = false
  · go_enter Tryd.func21, Tryd.ntmps21
    have hbg := (show Below w.heap.size w (w.alloc (.cells #[] 9)) by go_grown)
    have hbx := Below.refl (w.alloc (.cells #[] 9)).heap.size (w.alloc (.cells #[] 9))
    go_wp2_with fail
    refine (l19Good_c xs _ _ _ (hr.go hbg) hn HW.out).mono ?_
    rintro e wg0 ⟨rfl, hb0⟩
    have hbg := below_via hbg hb0
    have hbx := below_via hbx hb0
    go_wp2_with fail
    refine (l19Item_c _ _).mono ?_
    rintro e wp1 ⟨rfl, rfl⟩
    go_wp2_with fail
    go_returns
    exact ⟨_, _, ret_list (by simp [ownV, ownB, hF]) (by simp [ownB, hF]), hbg, Own.none_ (by simp [ownV, ownB, hF]) (Nat.le_refl _)⟩
  have G1 : inR z 1 99 = true := by simpa using hF
  clear hF
  go_enter Tryd.func21, Tryd.ntmps21
  have hbg := (show Below w.heap.size w (w.alloc (.cells #[] 9)) by go_grown)
  have hbx := Below.refl (w.alloc (.cells #[] 9)).heap.size (w.alloc (.cells #[] 9))
  go_wp2_with fail
  refine (l19Good_c xs _ _ _ (hr.go hbg) hn HW.out).mono ?_
  rintro e wg0 ⟨rfl, hb0⟩
  have hbg := below_via hbg hb0
  have hbx := below_via hbx hb0
  go_wp2_with fail
  refine (l19Item_c _ _).mono ?_
  rintro e wp1 ⟨rfl, rfl⟩
  have HG := Lib.hid G0
  have HV := Lib.hid (show ownV xs z = (xs.filter (ownP z)).map (·.owner) by simp [ownV, ownB, G0, G1])
  have HB := Lib.hid (show ownB xs z = true by simp [ownB, G0, G1])
  go_wp2_with fail
  clear G0 G1
  go_loopw [6, 7] (fun v i wr => ∃ k : Nat, k ≤ xs.length ∧ i = .int .i64 k ∧ Out (Value.string) 9 w.heap.size v (((xs.take k).filter (ownP z)).map (·.owner)) wr ∧ Below w.heap.size w wr) (fun _ i _ => xs.length - (intOf i).toNat)
  case atStart => exact ⟨0, Nat.zero_le _, rfl, (Out.empty w (Nat.le_refl _)).below hbx, hbg⟩
  case round =>
    obtain ⟨k, hk, rfl, ho, hb⟩ := hrel
    clear hbg
    by_cases hlt : k < xs.length
    · obtain ⟨bk, off, rfl, hbs, d0, d1, d2⟩ := (hr.below hb).atHold hlt
      have hl := filt_len (p := ownP z) (f := (·.owner)) (xs := xs) (k := k)
      have hbz := hb.size
      have hbw : bk < wr.heap.size := Nat.lt_of_lt_of_le hbs hb.size
      by_cases h0 : xs[k].item = z
      · have h0' : (xs[k].item == z) = true := by simpa using h0
        have HK := Lib.hid (filt_yes (p := ownP z) (f := (·.owner)) hlt (by simp [ownP, h0]))
        clear h0
        go_wp2_with (at_builtin; refine wpList_push rfl _ _ _ rfl 9 (.string ⟨#[]⟩) 16 Tryd.underlying37 infoS rfl xs[k].owner rfl (ho.below (Below.refl _ _)) _ rfl (by simp) rfl (by omega) (by omega) (by simp at *; omega) ?_; intro v1 w1 hown1 hbel1)
        go_roundw
        case rel => exact ⟨k + 1, by omega, by go_num, by rw [HK.out]; exact hown1, (hb.trans ((Below.refl _ _).mono hb.size)).trans hbel1⟩
        case measure => simp [intOf]; omega
      · have HK := Lib.hid (filt_no (p := ownP z) (f := (·.owner)) hlt (by simp [ownP, h0]))
        have h0' : (xs[k].item == z) = false := by simpa using h0
        clear h0
        go_wp2_with fail
        go_roundw
        case rel => exact ⟨k + 1, by omega, by go_num, by rw [HK.out]; exact ho.below (Below.refl _ _), hb.trans ((Below.refl _ _).mono hb.size)⟩
        case measure => simp [intOf]; omega
    · have hke : xs.length ≤ k := by omega
      rw [filt_all hke] at ho
      obtain ⟨B, c', rfl, hO⟩ := ho.own
      go_wp2_with fail
      go_returns
      exact ⟨B, c', ret_list (by rw [HV.out]) HB.out.symm, hb, hO.cast HV.out.symm⟩
set_option maxRecDepth 100000 in
set_option maxHeartbeats 2000000 in
theorem ownersOf_c (xs : List Hold) (A : Option Addr) (c : Nat) (z : Int) (w : World) (hr : Rd encHold 3 w.heap.size w A xs) (hn : xs.length ≤ 1048576)  :
    Calls Tryd.prog 33 #[.slice A xs.length c, .int .i64 z] w fun e w' => ∃ B c', e = .returned (.slice B (ownH xs z).length c') ∧ Below w.heap.size w w' ∧ Own encS 1 w.heap.size w'.heap.size w' B (ownH xs z) := by
  have HV := Lib.hid (show ownH xs z = (xs.filter (ownP z)).map (·.owner) from rfl)
  go_enter Tryd.func33, Tryd.ntmps33
  have hbg := Below.refl w.heap.size w
  go_wp2_with fail
  go_loopw [5, 10] (fun v i wr => ∃ k : Nat, k ≤ xs.length ∧ i = .int .i64 k ∧ Out (Value.string) 9 w.heap.size v (((xs.take k).filter (ownP z)).map (·.owner)) wr ∧ Below w.heap.size w wr) (fun _ i _ => xs.length - (intOf i).toNat)
  case atStart => exact ⟨0, Nat.zero_le _, rfl, Out.nil _, hbg⟩
  case round =>
    obtain ⟨k, hk, rfl, ho, hb⟩ := hrel
    clear hbg
    by_cases hlt : k < xs.length
    · obtain ⟨bk, off, rfl, hbs, d0, d1, d2⟩ := (hr.below hb).atHold hlt
      have hl := filt_len (p := ownP z) (f := (·.owner)) (xs := xs) (k := k)
      have hbz := hb.size
      have hbw : bk < wr.heap.size := Nat.lt_of_lt_of_le hbs hb.size
      by_cases h0 : xs[k].item = z
      · have h0' : (xs[k].item == z) = true := by simpa using h0
        have HK := Lib.hid (filt_yes (p := ownP z) (f := (·.owner)) hlt (by simp [ownP, h0]))
        clear h0
        go_wp2_with (at_builtin; refine wpList_push rfl _ _ _ rfl 9 (.string ⟨#[]⟩) 16 Tryd.underlying37 infoS rfl xs[k].owner rfl (ho.below ((Below.refl _ _).alloc (Nat.le_refl _) _)) _ rfl (by simp) rfl (by omega) (by omega) (by simp at *; omega) ?_; intro v1 w1 hown1 hbel1)
        go_roundw
        case rel => exact ⟨k + 1, by omega, by go_num, by rw [HK.out]; exact hown1, (hb.trans (((Below.refl _ _).alloc (Nat.le_refl _) _).mono hb.size)).trans hbel1⟩
        case measure => simp [intOf]; omega
      · have HK := Lib.hid (filt_no (p := ownP z) (f := (·.owner)) hlt (by simp [ownP, h0]))
        have h0' : (xs[k].item == z) = false := by simpa using h0
        clear h0
        go_wp2_with fail
        go_roundw
        case rel => exact ⟨k + 1, by omega, by go_num, by rw [HK.out]; exact ho.below ((Below.refl _ _).alloc (Nat.le_refl _) _), hb.trans (((Below.refl _ _).alloc (Nat.le_refl _) _).mono hb.size)⟩
        case measure => simp [intOf]; omega
    · have hke : xs.length ≤ k := by omega
      rw [filt_all hke] at ho
      obtain ⟨B, c', rfl, hO⟩ := ho.own
      go_wp2_with fail
      go_returns
      exact ⟨B, c', ret_sl (by rw [HV.out]), hb, hO.cast HV.out.symm⟩
theorem implOwnersOf_c (xs : List Hold) (A : Option Addr) (c : Nat) (z : Int) (w : World) (hr : Rd encHold 3 w.heap.size w A xs) (hn : xs.length ≤ 1048576) (hw : ∀ x ∈ xs, x.owner.size ≤ 9223372036854775807) (hz : -9223372036854775808 ≤ z ∧ z ≤ 9223372036854775807) :
    Calls Tryd.prog 12 #[.slice A xs.length c, .int .i64 z] w fun e w' => ∃ B c', e = .returned (.tuple #[.slice B (ownV xs z).length c', .bool (ownB xs z)]) ∧ Below w.heap.size w w' ∧ Own encS 1 w.heap.size w'.heap.size w' B (ownV xs z) := by
  have HW := Lib.hid hw
  clear hw
  by_cases hF : goodH xs = false
  · go_enter Tryd.func12, Tryd.ntmps12
    have hbg := Below.refl w.heap.size w
    go_wp2_with fail
    refine (areHolds_c xs _ _ _ (hr.go hbg) hn HW.out).mono ?_
    rintro e wg0 ⟨rfl, hb0⟩
    have hbg := below_via hbg hb0
    go_wp2_with fail
    go_returns
    exact ⟨_, _, ret_list (by simp [ownV, ownB, hF]) (by simp [ownB, hF]), hbg, Own.none_ (by simp [ownV, ownB, hF]) (Nat.le_refl _)⟩
  have G0 : goodH xs = true := by simpa using hF
  clear hF
  by_cases hF : inR z 1 99 = false
  · go_enter Tryd.func12, Tryd.ntmps12
    have hbg := Below.refl w.heap.size w
    go_wp2_with fail
    refine (areHolds_c xs _ _ _ (hr.go hbg) hn HW.out).mono ?_
    rintro e wg0 ⟨rfl, hb0⟩
    have hbg := below_via hbg hb0
    go_wp2_with fail
    refine (isPiece_c _ _).mono ?_
    rintro e wp1 ⟨rfl, rfl⟩
    go_wp2_with fail
    go_returns
    exact ⟨_, _, ret_list (by simp [ownV, ownB, hF]) (by simp [ownB, hF]), hbg, Own.none_ (by simp [ownV, ownB, hF]) (Nat.le_refl _)⟩
  have G1 : inR z 1 99 = true := by simpa using hF
  clear hF
  go_enter Tryd.func12, Tryd.ntmps12
  have hbg := Below.refl w.heap.size w
  go_wp2_with fail
  refine (areHolds_c xs _ _ _ (hr.go hbg) hn HW.out).mono ?_
  rintro e wg0 ⟨rfl, hb0⟩
  have hbg := below_via hbg hb0
  go_wp2_with fail
  refine (isPiece_c _ _).mono ?_
  rintro e wp1 ⟨rfl, rfl⟩
  have HV := Lib.hid (show ownV xs z = ownH xs z by simp [ownV, ownB, ownH, G0, G1])
  have HB := Lib.hid (show ownB xs z = true by simp [ownB, G0, G1])
  go_wp2_with fail
  refine (ownersOf_c xs _ _ _ _ (hr.go hbg) hn).mono ?_
  rintro e w1 ⟨B, c', rfl, hb1, hO⟩
  go_wp2_with fail
  go_returns
  exact ⟨B, c', ret_list (by rw [HV.out]) HB.out.symm, below_via hbg hb1, (hO.wide hbg.size (Nat.le_refl _) (Nat.le_refl _)).cast HV.out.symm⟩
end Go.Proofs.YtebkfcdijjcefaaDoor
