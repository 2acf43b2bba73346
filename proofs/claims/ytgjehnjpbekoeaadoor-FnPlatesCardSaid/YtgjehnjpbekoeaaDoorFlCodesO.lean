/- Contract of the reference's l15Codes at flaws within bounds. No condition but the bounds. -/
import Derived.Test.YtgjehnjpbekoeaaDoorFlDraw
import Derived.Test.YtgjehnjpbekoeaaDoorFlCodes
namespace Go.Proofs.YtgjehnjpbekoeaaDoor
set_option linter.unusedVariables false
set_option linter.unusedSimpArgs false
open Go.RowKit
attribute [local irreducible] wpQuiet
theorem Out.ownC {α : Type} {V : α → Value} {E : TypeId} {base : Nat} {v : Value} {ys : List α} {w : World} (h : Out V E base v ys w) : ∃ A c, v = .slice A ys.length c ∧ Own (fun x => [V x]) 1 base w.heap.size w A ys ∧ ys.length ≤ c := by
  obtain ⟨A, c, rfl, h1⟩ := h.own
  refine ⟨A, c, rfl, h1, ?_⟩
  rcases h.2 with ⟨e, h0⟩ | ⟨g, cap, cur, e, _, _, h2, _⟩
  · omega
  · injection e with _ _ e3
    omega
set_option maxRecDepth 100000 in
set_option maxHeartbeats 2000000 in
theorem l15CodesO_c (xs : List Flaw) (A : Option Addr) (c : Nat) (pos st : Int) (w : World) (hr : Rd encFlaw 4 w.heap.size w A xs) (hg : ∀ x ∈ xs, OkF x) (hn : xs.length ≤ 21) :
    Calls Tryd.prog 36 #[.slice A xs.length c, .int .i64 pos, .int .i64 st] w fun e w' => ∃ B c', e = .returned (.slice B (codesL xs pos st).length c') ∧ Below w.heap.size w w' ∧ Own encI 1 w.heap.size w'.heap.size w' B (codesL xs pos st) ∧ (codesL xs pos st).length ≤ c' := by
  have HG := Lib.hid hg
  clear hg
  have HV := Lib.hid (show codesL xs pos st = (xs.filter (chP pos st)).map (·.code) from rfl)
  have hbg := Below.refl w.heap.size w
  go_enter Tryd.func36, Tryd.ntmps36
  go_wp2_with fail
  go_loopw [7, 8] (fun v i wr => ∃ k : Nat, k ≤ xs.length ∧ i = .int .i64 k ∧ Out (Value.int .i64) 3 w.heap.size v (((xs.take k).filter (chP pos st)).map (·.code)) wr ∧ Below w.heap.size w wr) (fun _ i _ => xs.length - (intOf i).toNat)
  case atStart => exact ⟨0, Nat.zero_le _, rfl, Out.empty w (Nat.le_refl _), hbg.alloc (Nat.le_refl _) _⟩
  case round =>
    obtain ⟨k, hk, rfl, ho, hb⟩ := hrel
    clear hbg
    by_cases hlt : k < xs.length
    · obtain ⟨bk, off, rfl, hbs, d0, d1, d2, d3⟩ := (hr.below hb).atFlaw hlt
      have hl := filt_len (p := chP pos st) (f := (·.code)) (xs := xs) (k := k)
      have hbz := hb.size
      have hbw : bk < wr.heap.size := Nat.lt_of_lt_of_le hbs hb.size
      obtain ⟨⟨q1, q2⟩, ⟨q3, q4⟩, _, _⟩ := HG.out _ (List.getElem_mem hlt)
      have hw1 : IntKind.i64.wrap (10 * xs[k].row) = 10 * xs[k].row := by rw [IntKind.wrap_i64]; omega
      have hw2 : IntKind.i64.wrap (10 * xs[k].row + xs[k].col) = 10 * xs[k].row + xs[k].col := by rw [IntKind.wrap_i64]; omega
      by_cases h0 : 10 * xs[k].row + xs[k].col = pos
      · have h0' : (10 * xs[k].row + xs[k].col == pos) = true := by simpa using h0
        by_cases h1 : xs[k].since ≤ st
        · have h1' : decide (xs[k].since ≤ st) = true := decide_eq_true h1
          have HK := Lib.hid (filt_yes (p := chP pos st) (f := (·.code)) hlt (by simp [chP, h0, h1]))
          clear h0 h1
          go_wp2_with (at_builtin; refine wpList_push rfl _ _ _ rfl 3 (.int .i64 0) 8 Tryd.underlying31 infoI rfl xs[k].code rfl (ho.below (by first | exact ((Below.refl _ _).alloc (Nat.le_refl _) (.cells #[.int .i64 xs[k].row, .int .i64 xs[k].col, .int .i64 xs[k].code, .int .i64 xs[k].since] 43)) | exact Below.refl _ _)) _ rfl (by simp) rfl (by omega) (by omega) (by simp at *; omega) ?_; intro v1 w1 hown1 hbel1)
          go_roundw
          case rel => exact ⟨k + 1, by omega, by go_num, by rw [HK.out]; exact hown1, (hb.trans (((Below.refl _ _).alloc (Nat.le_refl _) (.cells #[.int .i64 xs[k].row, .int .i64 xs[k].col, .int .i64 xs[k].code, .int .i64 xs[k].since] 43)).mono hb.size)).trans hbel1⟩
          case measure => simp [intOf]; omega
        · have HK := Lib.hid (filt_no (p := chP pos st) (f := (·.code)) hlt (by simp [chP, h1]))
          have h1' : decide (xs[k].since ≤ st) = false := decide_eq_false h1
          clear h0 h1
          go_wp2_with fail
          go_roundw
          case rel => exact ⟨k + 1, by omega, by go_num, by rw [HK.out]; exact ho.below ((Below.refl _ _).alloc (Nat.le_refl _) (.cells #[.int .i64 xs[k].row, .int .i64 xs[k].col, .int .i64 xs[k].code, .int .i64 xs[k].since] 43)), hb.trans (((Below.refl _ _).alloc (Nat.le_refl _) (.cells #[.int .i64 xs[k].row, .int .i64 xs[k].col, .int .i64 xs[k].code, .int .i64 xs[k].since] 43)).mono hb.size)⟩
          case measure => simp [intOf]; omega
      · have HK := Lib.hid (filt_no (p := chP pos st) (f := (·.code)) hlt (by simp [chP, h0]))
        have h0' : (10 * xs[k].row + xs[k].col == pos) = false := by simpa using h0
        clear h0
        go_wp2_with fail
        go_roundw
        case rel => exact ⟨k + 1, by omega, by go_num, by rw [HK.out]; exact ho.below ((Below.refl _ _).alloc (Nat.le_refl _) (.cells #[.int .i64 xs[k].row, .int .i64 xs[k].col, .int .i64 xs[k].code, .int .i64 xs[k].since] 43)), hb.trans (((Below.refl _ _).alloc (Nat.le_refl _) (.cells #[.int .i64 xs[k].row, .int .i64 xs[k].col, .int .i64 xs[k].code, .int .i64 xs[k].since] 43)).mono hb.size)⟩
        case measure => simp [intOf]; omega
    · have hke : xs.length ≤ k := by omega
      rw [filt_all hke] at ho
      obtain ⟨B, c', rfl, hO, hcc⟩ := ho.ownC
      go_wp2_with fail
      go_returns
      exact ⟨B, c', ret_sl (by rw [HV.out]), hb, hO.cast HV.out.symm, by rw [HV.out]; exact hcc⟩
end Go.Proofs.YtgjehnjpbekoeaaDoor
