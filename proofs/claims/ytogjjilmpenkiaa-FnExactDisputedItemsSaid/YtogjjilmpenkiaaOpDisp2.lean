/- Which items are disputed: the contract of the program's DisputedItems. No condition but the sizes. -/
import Derived.Test.YtogjjilmpenkiaaOpDisp
import Derived.Test.YtogjjilmpenkiaaOpSort
namespace Go.Proofs.Ytogjjilmpenkiaa
set_option linter.unusedVariables false
set_option linter.unusedSimpArgs false
open Go.RowKit
attribute [local irreducible] wpQuiet
set_option maxRecDepth 100000 in
set_option maxHeartbeats 1600000 in
theorem implDisputedItems_c (xs : List Opinion) (A : Option Addr) (c : Nat) (d : Int) (w : World) (hr : Rd encOpinion 5 w.heap.size w A xs) (hn : xs.length ≤ 1048576) (hw : ∀ x ∈ xs, x.expert.size ≤ 9223372036854775807) (hd : -9223372036854775808 ≤ d ∧ d ≤ 9223372036854775807) :
    Calls Try.prog 7 #[.slice A xs.length c, .int .i64 d] w (RetL encI 1 (dispV xs d) (dispB xs d) w) := by
  have HW := Lib.hid hw
  clear hw
  by_cases hF : goodO xs = false
  · go_enter Try.func7, Try.ntmps7
    have hbg := Below.refl w.heap.size w
    go_wp2_with fail
    refine (areOpinions_c xs _ _ _ (hr.go hbg) hn HW.out).mono ?_
    rintro e wg0 ⟨rfl, hb0⟩
    have hbg := below_via hbg hb0
    go_wp2_with fail
    go_returns
    have HB : dispB xs d = false := by simp [dispB, hF]
    exact ⟨_, _, ret_list (by simp [dispV, HB]) HB.symm, hbg, Own.none_ (by simp [dispV, HB]) (Nat.le_refl _)⟩
  have G0 : goodO xs = true := by simpa using hF
  clear hF
  by_cases hF : inR d 0 4000 = false
  · go_enter Try.func7, Try.ntmps7
    have hbg := Below.refl w.heap.size w
    go_wp2_with fail
    refine (areOpinions_c xs _ _ _ (hr.go hbg) hn HW.out).mono ?_
    rintro e wg0 ⟨rfl, hb0⟩
    have hbg := below_via hbg hb0
    go_wp2_with fail
    refine (isDay_c _ _).mono ?_
    rintro e wp1 ⟨rfl, rfl⟩
    go_wp2_with fail
    go_returns
    have HB : dispB xs d = false := by simp [dispB, hF]
    exact ⟨_, _, ret_list (by simp [dispV, HB]) HB.symm, hbg, Own.none_ (by simp [dispV, HB]) (Nat.le_refl _)⟩
  have G1 : inR d 0 4000 = true := by simpa using hF
  clear hF
  go_enter Try.func7, Try.ntmps7
  have hbg := Below.refl w.heap.size w
  go_wp2_with fail
  refine (areOpinions_c xs _ _ _ (hr.go hbg) hn HW.out).mono ?_
  rintro e wg0 ⟨rfl, hb0⟩
  have hbg := below_via hbg hb0
  go_wp2_with fail
  refine (isDay_c _ _).mono ?_
  rintro e wp1 ⟨rfl, rfl⟩
  have HB := Lib.hid (show dispB xs d = true by simp [dispB, G0, G1])
  have HV := Lib.hid (show dispV xs d = puts (dispT xs d xs.length) by unfold dispV; rw [if_pos HB.out])
  have HG := Lib.hid G0
  go_wp2_with fail
  clear G0 G1
  go_loopw [6, 21] (fun v i wr => ∃ k : Nat, k ≤ xs.length ∧ i = .int .i64 k ∧ Out (Value.int .i64) 3 w.heap.size v (dispT xs d k) wr ∧ Below w.heap.size w wr) (fun _ i _ => xs.length - (intOf i).toNat)
  case atStart => exact ⟨0, Nat.zero_le _, rfl, Out.nil _, hbg⟩
  case round =>
    obtain ⟨k, hk, rfl, ho, hb⟩ := hrel
    clear hbg
    have hl := disp_len xs d k
    have hbz := hb.size
    by_cases hlt : k < xs.length
    · obtain ⟨b, off, rfl, hbs, d0, d1, d2, d3, d4⟩ := (hr.below hb).atOpinion hlt
      have hbw : b < wr.heap.size := Nat.lt_of_lt_of_le hbs hb.size
      have hk0 : (0 : Int) ≤ (k : Int) := by omega
      have hk1 : (k : Int) < (xs.length : Int) := by omega
      cases h1 : viewD xs xs[k].item d with
      | true =>
        have HO := Lib.hid (disp_yes hlt h1)
        have HD := Lib.hid h1
        clear h1
        go_wp2_with fail
        refine (viewOf_c xs _ _ _ _ _ ((hr.below hb).more hb.size |>.go ((Below.refl _ _).alloc (Nat.le_refl _) _)) hn HG.out).mono ?_
        rw [HD.out]
        rintro e wc ⟨rfl, hbc⟩
        obtain ⟨hcc, hff⟩ := bcell hbc
        have hcs := hbc.size
        simp only [World.size_alloc] at hcs
        have hbA : Below w.heap.size w wc := (hb.trans ((Below.refl _ _).alloc hb.size _)).trans (hbc.mono (by simp; omega))
        have hoA := (ho.below ((Below.refl _ _).alloc (Nat.le_refl _) _)).below hbc
        have hx0 := (hcc wr.heap.size 0 (by simp)).trans (World.cell?_alloc_new _ _ _ _)
        go_wp2_with (at_builtin; refine wpList_push rfl _ _ _ rfl 3 (.int .i64 0) 8 Try.underlying24 infoI rfl xs[k].item rfl hoA _ rfl (by simp) rfl (by omega) (by omega) (by omega) ?_; intro v1 w1 hown1 hbel1)
        go_roundw
        case rel => exact ⟨k + 1, by omega, by go_num, by rw [HO.out]; exact hown1, hbA.trans hbel1⟩
        case measure => simp [intOf]; omega
      | false =>
        have HO := Lib.hid (disp_no hlt h1)
        have HD := Lib.hid h1
        clear h1
        go_wp2_with fail
        refine (viewOf_c xs _ _ _ _ _ ((hr.below hb).more hb.size |>.go ((Below.refl _ _).alloc (Nat.le_refl _) _)) hn HG.out).mono ?_
        rw [HD.out]
        rintro e wc ⟨rfl, hbc⟩
        obtain ⟨hcc, hff⟩ := bcell hbc
        have hbA : Below w.heap.size w wc := (hb.trans ((Below.refl _ _).alloc hb.size _)).trans (hbc.mono (by simp; omega))
        have hoA := (ho.below ((Below.refl _ _).alloc (Nat.le_refl _) _)).below hbc
        go_wp2_with fail
        go_roundw
        case rel => exact ⟨k + 1, by omega, by go_num, by rw [HO.out]; exact hoA, hbA⟩
        case measure => simp [intOf]; omega
    · have hke : k = xs.length := by omega
      subst hke
      obtain ⟨L, hL⟩ : ∃ L, dispT xs d xs.length = L := ⟨_, rfl⟩
      rw [hL] at ho hl
      have HV := Lib.hid (show dispV xs d = Go.Lib.compact (L.mergeSort fun x y => decide (x ≤ y)) by rw [compact_puts, ← hL]; exact HV.out)
      clear hL
      have hl2 : (L.mergeSort fun x y => decide (x ≤ y)).length = L.length := List.length_mergeSort L
      go_wp2_with fail
      refine (sortOwn_c w.heap.size _ L _ 3 ho hbz (by omega)).mono ?_
      rintro e ws ⟨rfl, hbs1, hos⟩
      go_wp2_with fail
      have hbS := hb.trans hbs1
      refine (compactOwn_c w.heap.size _ _ _ 3 hos hbS.size (by rw [hl2]; omega)).mono ?_
      rintro e wk ⟨v', rfl, hbs2, hok⟩
      rw [← HV.out] at hok
      obtain ⟨B, c', rfl, hO⟩ := hok.own
      go_wp2_with fail
      go_returns
      exact ⟨B, c', ret_list rfl HB.out.symm, hbS.trans hbs2, hO⟩
end Go.Proofs.Ytogjjilmpenkiaa
