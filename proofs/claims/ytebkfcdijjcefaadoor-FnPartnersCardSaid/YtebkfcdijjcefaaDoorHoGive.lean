/- Contracts of CanGive: the program's and the reference's. No condition but the sizes. -/
import Derived.Test.YtebkfcdijjcefaaDoorHoDbl
namespace Go.Proofs.YtebkfcdijjcefaaDoor
set_option linter.unusedVariables false
set_option linter.unusedSimpArgs false
open Go.RowKit
def giveP (xs : List Hold) (a b : ByteArray) (h : Hold) : Bool := decide (h.owner = a) && (decide (1 < h.count) && decide (cntH xs b h.item = 0))
def giveH (xs : List Hold) (a b : ByteArray) : List Int := (xs.filter (giveP xs a b)).map (·.item)
def twoB (xs : List Hold) (a b : ByteArray) : Bool := goodH xs && isW a && isW b && decide (a ≠ b)
def giveV (xs : List Hold) (a b : ByteArray) : List Int := if twoB xs a b = true then giveH xs a b else []
theorem giveH_le (xs : List Hold) (a b : ByteArray) : (giveH xs a b).length ≤ xs.length := by unfold giveH; rw [List.length_map]; exact List.length_filter_le _ _
theorem giveV_len {xs : List Hold} {a b : ByteArray} (h : xs.length ≤ 1048576) : (giveV xs a b).length ≤ 2097152 := by
  unfold giveV; split
  · have := giveH_le xs a b; omega
  · simp
set_option maxRecDepth 100000 in
set_option maxHeartbeats 2000000 in
theorem canGive_c (xs : List Hold) (A : Option Addr) (c : Nat) (a b : ByteArray) (w : World) (hr : Rd encHold 3 w.heap.size w A xs) (hn : xs.length ≤ 1048576) (hg : goodH xs = true) :
    Calls Tryd.prog 52 #[.slice A xs.length c, .string a, .string b] w fun e w' => ∃ B c', e = .returned (.slice B (giveH xs a b).length c') ∧ Below w.heap.size w w' ∧ Own encI 1 w.heap.size w'.heap.size w' B (giveH xs a b) := by
  have HG := Lib.hid hg
  clear hg
  have HV := Lib.hid (show giveH xs a b = (xs.filter (giveP xs a b)).map (·.item) from rfl)
  go_enter Tryd.func52, Tryd.ntmps52
  have hbg := Below.refl w.heap.size w
  go_wp2_with fail
  go_loopw [7, 12] (fun v i wr => ∃ k : Nat, k ≤ xs.length ∧ i = .int .i64 k ∧ Out (Value.int .i64) 3 w.heap.size v (((xs.take k).filter (giveP xs a b)).map (·.item)) wr ∧ Below w.heap.size w wr) (fun _ i _ => xs.length - (intOf i).toNat)
  case atStart => exact ⟨0, Nat.zero_le _, rfl, Out.nil _, hbg⟩
  case round =>
    obtain ⟨k, hk, rfl, ho, hb⟩ := hrel
    clear hbg
    by_cases hlt : k < xs.length
    · obtain ⟨bk, off, rfl, hbs, d0, d1, d2⟩ := (hr.below hb).atHold hlt
      have hl := filt_len (p := giveP xs a b) (f := (·.item)) (xs := xs) (k := k)
      have hbz := hb.size
      have hbw : bk < wr.heap.size := Nat.lt_of_lt_of_le hbs hb.size
      by_cases h0 : xs[k].owner = a
      · have h0' : (xs[k].owner.toList == a.toList) = true := by rw [toList_beq]; simpa using h0
        by_cases h1 : 1 < xs[k].count
        · have h1' : decide (2 ≤ xs[k].count) = true := decide_eq_true (by omega)
          by_cases h2 : cntH xs b xs[k].item = 0
          · have h2' : (cntH xs b xs[k].item == 0) = true := by simpa using h2
            have HK := Lib.hid (filt_yes (p := giveP xs a b) (f := (·.item)) hlt (by simp [giveP, h0, h1, h2]))
            clear h0 h1 h2
            go_wp2_with (first | (go_at_call 37; refine (countOf_c xs _ _ _ _ _ ((hr.below hb).more hb.size |>.go ((Below.refl _ _).alloc (Nat.le_refl _) _)) HG.out).mono ?_; rintro e wc ⟨rfl, hbc⟩; obtain ⟨hcc, hff⟩ := bcell hbc) | (at_builtin; refine wpList_push rfl _ _ _ rfl 3 (.int .i64 0) 8 Tryd.underlying33 infoI rfl xs[k].item rfl (ho.below (below_via ((Below.refl _ _).alloc (Nat.le_refl _) _) hbc)) _ rfl (by simp) rfl (by omega) (by omega) (by have := hbc.size; simp at *; omega) ?_; intro v1 w1 hown1 hbel1))
            go_roundw
            case rel => exact ⟨k + 1, by omega, by go_num, by rw [HK.out]; exact hown1, (hb.trans ((below_via ((Below.refl _ _).alloc (Nat.le_refl _) _) hbc).mono hb.size)).trans hbel1⟩
            case measure => simp [intOf]; omega
          · have HK := Lib.hid (filt_no (p := giveP xs a b) (f := (·.item)) hlt (by simp [giveP, h2]))
            have h2' : (cntH xs b xs[k].item == 0) = false := by simpa using h2
            clear h0 h1 h2
            go_wp2_with (go_at_call 37; refine (countOf_c xs _ _ _ _ _ ((hr.below hb).more hb.size |>.go ((Below.refl _ _).alloc (Nat.le_refl _) _)) HG.out).mono ?_; rintro e wc ⟨rfl, hbc⟩; obtain ⟨hcc, hff⟩ := bcell hbc)
            go_roundw
            case rel => exact ⟨k + 1, by omega, by go_num, by rw [HK.out]; exact ho.below (below_via ((Below.refl _ _).alloc (Nat.le_refl _) _) hbc), hb.trans ((below_via ((Below.refl _ _).alloc (Nat.le_refl _) _) hbc).mono hb.size)⟩
            case measure => simp [intOf]; omega
        · have HK := Lib.hid (filt_no (p := giveP xs a b) (f := (·.item)) hlt (by simp [giveP, h1]))
          have h1' : decide (2 ≤ xs[k].count) = false := decide_eq_false (by omega)
          clear h0 h1
          go_wp2_with fail
          go_roundw
          case rel => exact ⟨k + 1, by omega, by go_num, by rw [HK.out]; exact ho.below ((Below.refl _ _).alloc (Nat.le_refl _) _), hb.trans (((Below.refl _ _).alloc (Nat.le_refl _) _).mono hb.size)⟩
          case measure => simp [intOf]; omega
      · have HK := Lib.hid (filt_no (p := giveP xs a b) (f := (·.item)) hlt (by simp [giveP, h0]))
        have h0' : (xs[k].owner.toList == a.toList) = false := by rw [toList_beq]; simpa using h0
        clear h0
        go_wp2_with fail
        go_roundw
        case rel => exact ⟨k + 1, by omega, by go_num, by rw [HK.out]; exact ho.below ((Below.refl _ _).alloc (Nat.le_refl _) _), hb.trans (((Below.refl _ _).alloc (Nat.le_refl _) _).mono hb.size)⟩
        case measure => simp [intOf]; omega
    · have hke : xs.length ≤ k := by omega
      rw [filt_all hke] at ho
      obtain ⟨B, c', rfl, hO⟩ := ho.own
      go_wp2_with fail
      go_returns
      exact ⟨B, c', ret_sl (by rw [HV.out]), hb, hO.cast HV.out.symm⟩
set_option maxRecDepth 100000 in
set_option maxHeartbeats 2000000 in
theorem l19Give_c (xs : List Hold) (A : Option Addr) (c : Nat) (a b : ByteArray) (w : World) (hr : Rd encHold 3 w.heap.size w A xs) (hn : xs.length ≤ 1048576)  :
    Calls Tryd.prog 56 #[.slice A xs.length c, .string a, .string b] w fun e w' => ∃ B c', e = .returned (.slice B (giveH xs a b).length c') ∧ Below w.heap.size w w' ∧ Own encI 1 w.heap.size w'.heap.size w' B (giveH xs a b) := by
  have HV := Lib.hid (show giveH xs a b = (xs.filter (giveP xs a b)).map (·.item) from rfl)
  go_enter Tryd.func56, Tryd.ntmps56
  have hbg := (show Below w.heap.size w (w.alloc (.cells #[] 3)) by go_grown)
  go_wp2_with fail
  go_loopw [7, 8] (fun v i wr => ∃ k : Nat, k ≤ xs.length ∧ i = .int .i64 k ∧ Out (Value.int .i64) 3 w.heap.size v (((xs.take k).filter (giveP xs a b)).map (·.item)) wr ∧ Below w.heap.size w wr) (fun _ i _ => xs.length - (intOf i).toNat)
  case atStart => exact ⟨0, Nat.zero_le _, rfl, Out.empty w (Nat.le_refl _), hbg⟩
  case round =>
    obtain ⟨k, hk, rfl, ho, hb⟩ := hrel
    clear hbg
    by_cases hlt : k < xs.length
    · obtain ⟨bk, off, rfl, hbs, d0, d1, d2⟩ := (hr.below hb).atHold hlt
      have hl := filt_len (p := giveP xs a b) (f := (·.item)) (xs := xs) (k := k)
      have hbz := hb.size
      have hbw : bk < wr.heap.size := Nat.lt_of_lt_of_le hbs hb.size
      by_cases h0 : xs[k].owner = a
      · have h0' : (xs[k].owner.toList == a.toList) = true := by rw [toList_beq]; simpa using h0
        by_cases h1 : 1 < xs[k].count
        · have h1' : decide (1 < xs[k].count) = true := decide_eq_true (by omega)
          by_cases h2 : cntH xs b xs[k].item = 0
          · have h2' : (cntH xs b xs[k].item == 0) = true := by simpa using h2
            have HK := Lib.hid (filt_yes (p := giveP xs a b) (f := (·.item)) hlt (by simp [giveP, h0, h1, h2]))
            clear h0 h1 h2
            go_wp2_with (first | (go_at_call 39; refine (l19Count_c xs _ _ _ _ _ ((hr.below hb).more hb.size) hn).mono ?_; rintro e wc ⟨rfl, hbc⟩; obtain ⟨hcc, hff⟩ := bcell hbc) | (at_builtin; refine wpList_push rfl _ _ _ rfl 3 (.int .i64 0) 8 Tryd.underlying33 infoI rfl xs[k].item rfl (ho.below hbc) _ rfl (by simp) rfl (by omega) (by omega) (by have := hbc.size; simp at *; omega) ?_; intro v1 w1 hown1 hbel1))
            go_roundw
            case rel => exact ⟨k + 1, by omega, by go_num, by rw [HK.out]; exact hown1, (hb.trans (hbc.mono hb.size)).trans hbel1⟩
            case measure => simp [intOf]; omega
          · have HK := Lib.hid (filt_no (p := giveP xs a b) (f := (·.item)) hlt (by simp [giveP, h2]))
            have h2' : (cntH xs b xs[k].item == 0) = false := by simpa using h2
            clear h0 h1 h2
            go_wp2_with (go_at_call 39; refine (l19Count_c xs _ _ _ _ _ ((hr.below hb).more hb.size) hn).mono ?_; rintro e wc ⟨rfl, hbc⟩; obtain ⟨hcc, hff⟩ := bcell hbc)
            go_roundw
            case rel => exact ⟨k + 1, by omega, by go_num, by rw [HK.out]; exact ho.below hbc, hb.trans (hbc.mono hb.size)⟩
            case measure => simp [intOf]; omega
        · have HK := Lib.hid (filt_no (p := giveP xs a b) (f := (·.item)) hlt (by simp [giveP, h1]))
          have h1' : decide (1 < xs[k].count) = false := decide_eq_false (by omega)
          clear h0 h1
          go_wp2_with fail
          go_roundw
          case rel => exact ⟨k + 1, by omega, by go_num, by rw [HK.out]; exact ho.below (Below.refl _ _), hb.trans ((Below.refl _ _).mono hb.size)⟩
          case measure => simp [intOf]; omega
      · have HK := Lib.hid (filt_no (p := giveP xs a b) (f := (·.item)) hlt (by simp [giveP, h0]))
        have h0' : (xs[k].owner.toList == a.toList) = false := by rw [toList_beq]; simpa using h0
        clear h0
        go_wp2_with fail
        go_roundw
        case rel => exact ⟨k + 1, by omega, by go_num, by rw [HK.out]; exact ho.below (Below.refl _ _), hb.trans ((Below.refl _ _).mono hb.size)⟩
        case measure => simp [intOf]; omega
    · have hke : xs.length ≤ k := by omega
      rw [filt_all hke] at ho
      obtain ⟨B, c', rfl, hO⟩ := ho.own
      go_wp2_with fail
      go_returns
      exact ⟨B, c', ret_sl (by rw [HV.out]), hb, hO.cast HV.out.symm⟩
theorem l19Two_c (xs : List Hold) (A : Option Addr) (c : Nat) (a b : ByteArray) (w : World) (hr : Rd encHold 3 w.heap.size w A xs) (hn : xs.length ≤ 1048576) (hw : ∀ x ∈ xs, x.owner.size ≤ 9223372036854775807) (hsa : a.size ≤ 9223372036854775807) (hsb : b.size ≤ 9223372036854775807) :
    Calls Tryd.prog 41 #[.slice A xs.length c, .string a, .string b] w (Ret (.bool (twoB xs a b)) w) := by
  have HW := Lib.hid hw
  clear hw
  by_cases hF : goodH xs = false
  · go_enter Tryd.func41, Tryd.ntmps41
    have hbg := Below.refl w.heap.size w
    go_wp2_with fail
    refine (l19Good_c xs _ _ _ (hr.go hbg) hn HW.out).mono ?_
    rintro e wg0 ⟨rfl, hb0⟩
    have hbg := below_via hbg hb0
    go_wp2_with fail
    go_returns
    exact ⟨ret_bool (by simp only [twoB, hF, Bool.and_false, Bool.false_and]), hbg⟩
  have G0 : goodH xs = true := by simpa using hF
  clear hF
  by_cases hF : isW a = false
  · go_enter Tryd.func41, Tryd.ntmps41
    have hbg := Below.refl w.heap.size w
    go_wp2_with fail
    refine (l19Good_c xs _ _ _ (hr.go hbg) hn HW.out).mono ?_
    rintro e wg0 ⟨rfl, hb0⟩
    have hbg := below_via hbg hb0
    go_wp2_with fail
    refine (l2Word_c _ _ hsa).mono ?_
    rintro e wp1 ⟨rfl, rfl⟩
    go_wp2_with fail
    go_returns
    exact ⟨ret_bool (by simp only [twoB, hF, Bool.and_false, Bool.false_and]), hbg⟩
  have G1 : isW a = true := by simpa using hF
  clear hF
  by_cases hF : isW b = false
  · go_enter Tryd.func41, Tryd.ntmps41
    have hbg := Below.refl w.heap.size w
    go_wp2_with fail
    refine (l19Good_c xs _ _ _ (hr.go hbg) hn HW.out).mono ?_
    rintro e wg0 ⟨rfl, hb0⟩
    have hbg := below_via hbg hb0
    go_wp2_with fail
    refine (l2Word_c _ _ hsa).mono ?_
    rintro e wp1 ⟨rfl, rfl⟩
    go_wp2_with fail
    refine (l2Word_c _ _ hsb).mono ?_
    rintro e wp2 ⟨rfl, rfl⟩
    go_wp2_with fail
    go_returns
    exact ⟨ret_bool (by simp only [twoB, hF, Bool.and_false, Bool.false_and]), hbg⟩
  have G2 : isW b = true := by simpa using hF
  clear hF
  by_cases hF : decide (a ≠ b) = false
  · have hE : (a.toList == b.toList) = true := by rw [toList_beq]; simpa using hF
    go_enter Tryd.func41, Tryd.ntmps41
    have hbg := Below.refl w.heap.size w
    go_wp2_with fail
    refine (l19Good_c xs _ _ _ (hr.go hbg) hn HW.out).mono ?_
    rintro e wg0 ⟨rfl, hb0⟩
    have hbg := below_via hbg hb0
    go_wp2_with fail
    refine (l2Word_c _ _ hsa).mono ?_
    rintro e wp1 ⟨rfl, rfl⟩
    go_wp2_with fail
    refine (l2Word_c _ _ hsb).mono ?_
    rintro e wp2 ⟨rfl, rfl⟩
    go_wp2_with fail
    go_returns
    exact ⟨ret_bool (by simp only [twoB, hF, Bool.and_false, Bool.false_and]), hbg⟩
  have G3 : decide (a ≠ b) = true := by simpa using hF
  clear hF
  have hE : (a.toList == b.toList) = false := by rw [toList_beq]; simpa using G3
  go_enter Tryd.func41, Tryd.ntmps41
  have hbg := Below.refl w.heap.size w
  go_wp2_with fail
  refine (l19Good_c xs _ _ _ (hr.go hbg) hn HW.out).mono ?_
  rintro e wg0 ⟨rfl, hb0⟩
  have hbg := below_via hbg hb0
  go_wp2_with fail
  refine (l2Word_c _ _ hsa).mono ?_
  rintro e wp1 ⟨rfl, rfl⟩
  go_wp2_with fail
  refine (l2Word_c _ _ hsb).mono ?_
  rintro e wp2 ⟨rfl, rfl⟩
  go_wp2_with fail
  go_returns
  exact ⟨ret_bool (by simp only [twoB, G0, G1, G2, G3]; rfl), hbg⟩
end Go.Proofs.YtebkfcdijjcefaaDoor
