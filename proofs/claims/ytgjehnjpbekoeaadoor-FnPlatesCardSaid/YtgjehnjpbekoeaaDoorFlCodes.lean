/- Contracts of the functions that give the codes at a position in a state: the program's and the reference's. No condition but a valid list. -/
import Derived.Test.YtgjehnjpbekoeaaDoorFlPlain
import Derived.Test.YtgjehnjpbekoeaaDoorApp
namespace Go.Proofs.YtgjehnjpbekoeaaDoor
set_option linter.unusedVariables false
set_option linter.unusedSimpArgs false
open Go.RowKit
attribute [local irreducible] wpQuiet
def chP (pos st : Int) (x : Flaw) : Bool := decide (10 * x.row + x.col = pos) && decide (x.since ≤ st)
def codesL (xs : List Flaw) (pos st : Int) : List Int := (xs.filter (chP pos st)).map (·.code)
theorem codesL_len (xs : List Flaw) (pos st : Int) : (codesL xs pos st).length ≤ xs.length := by unfold codesL; rw [List.length_map]; exact List.length_filter_le _ _
set_option maxRecDepth 100000 in
set_option maxHeartbeats 2000000 in
theorem codesAt_c (xs : List Flaw) (A : Option Addr) (c : Nat) (pos st : Int) (w : World) (hr : Rd encFlaw 4 w.heap.size w A xs) (hg : goodFl xs = true) :
    Calls Tryd.prog 28 #[.slice A xs.length c, .int .i64 pos, .int .i64 st] w (RetS encI 1 (codesL xs pos st) w) := by
  have hn := goodFl_len hg
  have HG := Lib.hid hg
  clear hg
  have HV := Lib.hid (show codesL xs pos st = (xs.filter (chP pos st)).map (·.code) from rfl)
  have hbg := Below.refl w.heap.size w
  go_enter Tryd.func28, Tryd.ntmps28
  go_wp2_with fail
  go_loopw [7, 12] (fun v i wr => ∃ k : Nat, k ≤ xs.length ∧ i = .int .i64 k ∧ Out (Value.int .i64) 3 w.heap.size v (((xs.take k).filter (chP pos st)).map (·.code)) wr ∧ Below w.heap.size w wr) (fun _ i _ => xs.length - (intOf i).toNat)
  case atStart => exact ⟨0, Nat.zero_le _, rfl, Out.nil _, hbg⟩
  case round =>
    obtain ⟨k, hk, rfl, ho, hb⟩ := hrel
    clear hbg
    by_cases hlt : k < xs.length
    · obtain ⟨bk, off, rfl, hbs, d0, d1, d2, d3⟩ := (hr.below hb).atFlaw hlt
      have hl := filt_len (p := chP pos st) (f := (·.code)) (xs := xs) (k := k)
      have hbz := hb.size
      have hbw : bk < wr.heap.size := Nat.lt_of_lt_of_le hbs hb.size
      obtain ⟨⟨q1, q2⟩, ⟨q3, q4⟩, _, _⟩ := ok_bds (goodFl_ok HG.out hlt)
      have hw1 : IntKind.i64.wrap (10 * xs[k].row) = 10 * xs[k].row := by rw [IntKind.wrap_i64]; omega
      have hw2 : IntKind.i64.wrap (10 * xs[k].row + xs[k].col) = 10 * xs[k].row + xs[k].col := by rw [IntKind.wrap_i64]; omega
      by_cases h0 : 10 * xs[k].row + xs[k].col = pos
      · have h0' : (10 * xs[k].row + xs[k].col == pos) = true := by simpa using h0
        by_cases h1 : xs[k].since ≤ st
        · have h1' : decide (xs[k].since ≤ st) = true := decide_eq_true h1
          have HK := Lib.hid (filt_yes (p := chP pos st) (f := (·.code)) hlt (by simp [chP, h0, h1]))
          clear h0 h1
          go_wp2_with (at_builtin; refine wpList_push rfl _ _ _ rfl 3 (.int .i64 0) 8 Tryd.underlying31 infoI rfl xs[k].code rfl (ho.below (by first | exact ((Below.refl _ _).alloc (Nat.le_refl _) (.cells #[.int .i64 xs[k].row, .int .i64 xs[k].col, .int .i64 xs[k].code, .int .i64 xs[k].since] 43)) | exact Below.refl _ _)) _ rfl (by simp) rfl (by omega) (by omega) (by simp at *; omega) ?_; intro v1 w1 hown1 hbel1)
          go_roundw
          case rel => exact ⟨k + 1, by omega, by go_num, by rw [HK.out]; exact hown1, (hb.trans (((Below.refl _ _).alloc (Nat.le_refl _) (.cells #[.int .i64 xs[k].row, .int .i64 xs[k].col, .int .i64 xs[k].code, .int .i64 xs[k].since] 43)).mono hb.size)).trans hbel1⟩
          case measure => simp [intOf]; omega
        · have HK := Lib.hid (filt_no (p := chP pos st) (f := (·.code)) hlt (by simp [chP, h1]))
          have h1' : decide (xs[k].since ≤ st) = false := decide_eq_false h1
          clear h0 h1
          go_wp2_with fail
          go_roundw
          case rel => exact ⟨k + 1, by omega, by go_num, by rw [HK.out]; exact ho.below ((Below.refl _ _).alloc (Nat.le_refl _) (.cells #[.int .i64 xs[k].row, .int .i64 xs[k].col, .int .i64 xs[k].code, .int .i64 xs[k].since] 43)), hb.trans (((Below.refl _ _).alloc (Nat.le_refl _) (.cells #[.int .i64 xs[k].row, .int .i64 xs[k].col, .int .i64 xs[k].code, .int .i64 xs[k].since] 43)).mono hb.size)⟩
          case measure => simp [intOf]; omega
      · have HK := Lib.hid (filt_no (p := chP pos st) (f := (·.code)) hlt (by simp [chP, h0]))
        have h0' : (10 * xs[k].row + xs[k].col == pos) = false := by simpa using h0
        clear h0
        go_wp2_with fail
        go_roundw
        case rel => exact ⟨k + 1, by omega, by go_num, by rw [HK.out]; exact ho.below ((Below.refl _ _).alloc (Nat.le_refl _) (.cells #[.int .i64 xs[k].row, .int .i64 xs[k].col, .int .i64 xs[k].code, .int .i64 xs[k].since] 43)), hb.trans (((Below.refl _ _).alloc (Nat.le_refl _) (.cells #[.int .i64 xs[k].row, .int .i64 xs[k].col, .int .i64 xs[k].code, .int .i64 xs[k].since] 43)).mono hb.size)⟩
        case measure => simp [intOf]; omega
    · have hke : xs.length ≤ k := by omega
      rw [filt_all hke] at ho
      obtain ⟨B, c', rfl, hO⟩ := ho.own
      go_wp2_with fail
      go_returns
      exact ⟨B, c', ret_sl (by rw [HV.out]), hb, hO.cast HV.out.symm⟩
set_option maxRecDepth 100000 in
set_option maxHeartbeats 2000000 in
theorem l15Codes_c (xs : List Flaw) (A : Option Addr) (c : Nat) (pos st : Int) (w : World) (hr : Rd encFlaw 4 w.heap.size w A xs) (hg : goodFl xs = true) :
    Calls Tryd.prog 36 #[.slice A xs.length c, .int .i64 pos, .int .i64 st] w (RetS encI 1 (codesL xs pos st) w) := by
  have hn := goodFl_len hg
  have HG := Lib.hid hg
  clear hg
  have HV := Lib.hid (show codesL xs pos st = (xs.filter (chP pos st)).map (·.code) from rfl)
  have hbg := Below.refl w.heap.size w
  go_enter Tryd.func36, Tryd.ntmps36
  go_wp2_with fail
  go_loopw [7, 8] (fun v i wr => ∃ k : Nat, k ≤ xs.length ∧ i = .int .i64 k ∧ Out (Value.int .i64) 3 w.heap.size v (((xs.take k).filter (chP pos st)).map (·.code)) wr ∧ Below w.heap.size w wr) (fun _ i _ => xs.length - (intOf i).toNat)
  case atStart => exact ⟨0, Nat.zero_le _, rfl, Out.empty w (Nat.le_refl _), hbg.alloc (Nat.le_refl _) _⟩
  case round =>
    obtain ⟨k, hk, rfl, ho, hb⟩ := hrel
    clear hbg
    by_cases hlt : k < xs.length
    · obtain ⟨bk, off, rfl, hbs, d0, d1, d2, d3⟩ := (hr.below hb).atFlaw hlt
      have hl := filt_len (p := chP pos st) (f := (·.code)) (xs := xs) (k := k)
      have hbz := hb.size
      have hbw : bk < wr.heap.size := Nat.lt_of_lt_of_le hbs hb.size
      obtain ⟨⟨q1, q2⟩, ⟨q3, q4⟩, _, _⟩ := ok_bds (goodFl_ok HG.out hlt)
      have hw1 : IntKind.i64.wrap (10 * xs[k].row) = 10 * xs[k].row := by rw [IntKind.wrap_i64]; omega
      have hw2 : IntKind.i64.wrap (10 * xs[k].row + xs[k].col) = 10 * xs[k].row + xs[k].col := by rw [IntKind.wrap_i64]; omega
      by_cases h0 : 10 * xs[k].row + xs[k].col = pos
      · have h0' : (10 * xs[k].row + xs[k].col == pos) = true := by simpa using h0
        by_cases h1 : xs[k].since ≤ st
        · have h1' : decide (xs[k].since ≤ st) = true := decide_eq_true h1
          have HK := Lib.hid (filt_yes (p := chP pos st) (f := (·.code)) hlt (by simp [chP, h0, h1]))
          clear h0 h1
          go_wp2_with (at_builtin; refine wpList_push rfl _ _ _ rfl 3 (.int .i64 0) 8 Tryd.underlying31 infoI rfl xs[k].code rfl (ho.below (by first | exact ((Below.refl _ _).alloc (Nat.le_refl _) (.cells #[.int .i64 xs[k].row, .int .i64 xs[k].col, .int .i64 xs[k].code, .int .i64 xs[k].since] 43)) | exact Below.refl _ _)) _ rfl (by simp) rfl (by omega) (by omega) (by simp at *; omega) ?_; intro v1 w1 hown1 hbel1)
          go_roundw
          case rel => exact ⟨k + 1, by omega, by go_num, by rw [HK.out]; exact hown1, (hb.trans (((Below.refl _ _).alloc (Nat.le_refl _) (.cells #[.int .i64 xs[k].row, .int .i64 xs[k].col, .int .i64 xs[k].code, .int .i64 xs[k].since] 43)).mono hb.size)).trans hbel1⟩
          case measure => simp [intOf]; omega
        · have HK := Lib.hid (filt_no (p := chP pos st) (f := (·.code)) hlt (by simp [chP, h1]))
          have h1' : decide (xs[k].since ≤ st) = false := decide_eq_false h1
          clear h0 h1
          go_wp2_with fail
          go_roundw
          case rel => exact ⟨k + 1, by omega, by go_num, by rw [HK.out]; exact ho.below ((Below.refl _ _).alloc (Nat.le_refl _) (.cells #[.int .i64 xs[k].row, .int .i64 xs[k].col, .int .i64 xs[k].code, .int .i64 xs[k].since] 43)), hb.trans (((Below.refl _ _).alloc (Nat.le_refl _) (.cells #[.int .i64 xs[k].row, .int .i64 xs[k].col, .int .i64 xs[k].code, .int .i64 xs[k].since] 43)).mono hb.size)⟩
          case measure => simp [intOf]; omega
      · have HK := Lib.hid (filt_no (p := chP pos st) (f := (·.code)) hlt (by simp [chP, h0]))
        have h0' : (10 * xs[k].row + xs[k].col == pos) = false := by simpa using h0
        clear h0
        go_wp2_with fail
        go_roundw
        case rel => exact ⟨k + 1, by omega, by go_num, by rw [HK.out]; exact ho.below ((Below.refl _ _).alloc (Nat.le_refl _) (.cells #[.int .i64 xs[k].row, .int .i64 xs[k].col, .int .i64 xs[k].code, .int .i64 xs[k].since] 43)), hb.trans (((Below.refl _ _).alloc (Nat.le_refl _) (.cells #[.int .i64 xs[k].row, .int .i64 xs[k].col, .int .i64 xs[k].code, .int .i64 xs[k].since] 43)).mono hb.size)⟩
        case measure => simp [intOf]; omega
    · have hke : xs.length ≤ k := by omega
      rw [filt_all hke] at ho
      obtain ⟨B, c', rfl, hO⟩ := ho.own
      go_wp2_with fail
      go_returns
      exact ⟨B, c', ret_sl (by rw [HV.out]), hb, hO.cast HV.out.symm⟩
end Go.Proofs.YtgjehnjpbekoeaaDoor
