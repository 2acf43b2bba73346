/- Which items are disputed: plain words, and the contract of the reference's DisputedItems. No condition but the sizes. -/
import Derived.Test.YtpnkeaeikcobfaaGreatDoorOpView
import Derived.Test.YtpnkeaeikcobfaaGreatDoorOpTop
import Derived.Test.YtpnkeaeikcobfaaGreatDoorPutPlain
namespace Go.Proofs.YtpnkeaeikcobfaaGreatDoor
set_option linter.unusedVariables false
set_option linter.unusedSimpArgs false
open Go.RowKit
attribute [local irreducible] wpQuiet
def dispP (xs : List Opinion) (d : Int) (x : Opinion) : Bool := viewD xs x.item d
def dispT (xs : List Opinion) (d : Int) (k : Nat) : List Int := ((xs.take k).filter (dispP xs d)).map (·.item)
def dispB (xs : List Opinion) (d : Int) : Bool := goodO xs && inR d 0 4000
def dispV (xs : List Opinion) (d : Int) : List Int := if dispB xs d = true then puts (dispT xs d xs.length) else []
theorem disp_yes {xs : List Opinion} {d : Int} {k : Nat} (hk : k < xs.length) (h : viewD xs xs[k].item d = true) : dispT xs d (k + 1) = dispT xs d k ++ [xs[k].item] := by
  unfold dispT; exact filt_yes (p := dispP xs d) (f := (·.item)) hk h
theorem disp_no {xs : List Opinion} {d : Int} {k : Nat} (hk : k < xs.length) (h : viewD xs xs[k].item d = false) : dispT xs d (k + 1) = dispT xs d k := by
  unfold dispT; exact filt_no (p := dispP xs d) (f := (·.item)) hk h
theorem disp_len (xs : List Opinion) (d : Int) (k : Nat) : (dispT xs d k).length ≤ k := by unfold dispT; exact filt_len
theorem dispV_len {xs : List Opinion} {d : Int} : (dispV xs d).length ≤ 2097152 := by
  unfold dispV
  split
  · rename_i h
    simp only [dispB, Bool.and_eq_true] at h
    have := goodO_len h.1
    have := puts_len (dispT xs d xs.length)
    have := disp_len xs d xs.length
    omega
  · simp
set_option maxRecDepth 100000 in
set_option maxHeartbeats 1600000 in
theorem specDisputedItems_c (xs : List Opinion) (A : Option Addr) (c : Nat) (d : Int) (w : World) (hr : Rd encOpinion 5 w.heap.size w A xs) (hn : xs.length ≤ 1048576) (hw : ∀ x ∈ xs, x.expert.size ≤ 9223372036854775807) (hd : -9223372036854775808 ≤ d ∧ d ≤ 9223372036854775807) :
    Calls Tryz.prog 9 #[.slice A xs.length c, .int .i64 d] w (RetL encI 1 (dispV xs d) (dispB xs d) w) := by
  have HW := Lib.hid hw
  clear hw
  by_cases hF : goodO xs = false
  · go_enter Tryz.func9, Tryz.ntmps9
    have hbg := (show Below w.heap.size w (w.alloc (.cells #[] 3)) by go_grown)
    have hbx := Below.refl (w.alloc (.cells #[] 3)).heap.size (w.alloc (.cells #[] 3))
    go_wp2_with fail
    refine (l17Good_c xs _ _ _ (hr.go hbg) hn HW.out).mono ?_
    rintro e wg0 ⟨rfl, hb0⟩
    have hbg := below_via hbg hb0
    have hbx := below_via hbx hb0
    go_wp2_with fail
    go_returns
    have HB : dispB xs d = false := by simp [dispB, hF]
    exact ⟨_, _, ret_list (by simp [dispV, HB]) HB.symm, hbg, Own.none_ (by simp [dispV, HB]) (Nat.le_refl _)⟩
  have G0 : goodO xs = true := by simpa using hF
  clear hF
  by_cases hF : inR d 0 4000 = false
  · go_enter Tryz.func9, Tryz.ntmps9
    have hbg := (show Below w.heap.size w (w.alloc (.cells #[] 3)) by go_grown)
    have hbx := Below.refl (w.alloc (.cells #[] 3)).heap.size (w.alloc (.cells #[] 3))
    go_wp2_with fail
    refine (l17Good_c xs _ _ _ (hr.go hbg) hn HW.out).mono ?_
    rintro e wg0 ⟨rfl, hb0⟩
    have hbg := below_via hbg hb0
    have hbx := below_via hbx hb0
    go_wp2_with fail
    refine (l2Day_c _ _).mono ?_
    rintro e wp1 ⟨rfl, rfl⟩
    go_wp2_with fail
    go_returns
    have HB : dispB xs d = false := by simp [dispB, hF]
    exact ⟨_, _, ret_list (by simp [dispV, HB]) HB.symm, hbg, Own.none_ (by simp [dispV, HB]) (Nat.le_refl _)⟩
  have G1 : inR d 0 4000 = true := by simpa using hF
  clear hF
  go_enter Tryz.func9, Tryz.ntmps9
  have hbg := (show Below w.heap.size w (w.alloc (.cells #[] 3)) by go_grown)
  have hbx := Below.refl (w.alloc (.cells #[] 3)).heap.size (w.alloc (.cells #[] 3))
  go_wp2_with fail
  refine (l17Good_c xs _ _ _ (hr.go hbg) hn HW.out).mono ?_
  rintro e wg0 ⟨rfl, hb0⟩
  have hbg := below_via hbg hb0
  have hbx := below_via hbx hb0
  go_wp2_with fail
  refine (l2Day_c _ _).mono ?_
  rintro e wp1 ⟨rfl, rfl⟩
  have HB := Lib.hid (show dispB xs d = true by simp [dispB, G0, G1])
  have HV := Lib.hid (show dispV xs d = puts (dispT xs d xs.length) by unfold dispV; rw [if_pos HB.out])
  have HG := Lib.hid G0
  go_wp2_with fail
  clear G0 G1
  have h0 : Own encI 1 w.heap.size wg0.heap.size wg0 (some ⟨w.heap.size, 0, none⟩) (puts (dispT xs d 0)) := by
    have : dispT xs d 0 = [] := by simp [dispT]
    rw [this]; exact Own.nil (Nat.le_refl _)
  go_loopw [6, 7] (fun v i wr => ∃ (k : Nat) (B : Option Addr) (c' : Nat), k ≤ xs.length ∧ i = .int .i64 k ∧ v = .slice B (puts (dispT xs d k)).length c' ∧ (puts (dispT xs d k)).length ≤ c' ∧ Own encI 1 w.heap.size wr.heap.size wr B (puts (dispT xs d k)) ∧ Below w.heap.size w wr) (fun _ i _ => xs.length - (intOf i).toNat)
  case atStart => exact ⟨0, _, 0, Nat.zero_le _, rfl, by simp [dispT, puts], by simp [dispT, puts], h0, hbg⟩
  case round =>
    obtain ⟨k, B, c', hk, rfl, rfl, hcl, ho, hb⟩ := hrel
    clear hbg hbx h0
    have hbz := hb.size
    by_cases hlt : k < xs.length
    · obtain ⟨bk, off, rfl, hbs, d0, d1, d2, d3, d4⟩ := (hr.below hb).atOpinion hlt
      obtain ⟨L, hL⟩ : ∃ L, puts (dispT xs d k) = L := ⟨_, rfl⟩
      have hll : L.length ≤ k := by rw [← hL]; exact Nat.le_trans (puts_len _) (disp_len _ _ _)
      have HL := Lib.hid hL
      rw [hL] at ho hcl
      rw [hL]
      clear hL
      cases h1 : viewD xs xs[k].item d with
      | true =>
        have HO := Lib.hid (disp_yes hlt h1)
        go_wp2_with fail
        refine (l17View_c xs _ _ _ _ _ ((hr.below hb).more hb.size) hn HG.out).mono ?_
        rw [h1]
        clear h1
        rintro e wv ⟨rfl, rfl⟩
        go_wp2_with fail
        refine (l1Put_c L _ _ _ _ w.heap.size _ ho hb.size hcl (by omega)).mono ?_
        rintro e wp ⟨B', c'', rfl, hbp, hop, hcp⟩
        have HP := Lib.hid (show puts (dispT xs d (k + 1)) = putI L xs[k].item by rw [HO.out, puts_snoc, HL.out])
        obtain ⟨L', hL'⟩ : ∃ L', putI L xs[k].item = L' := ⟨_, rfl⟩
        rw [hL'] at HP hop hcp
        rw [hL']
        clear hL'
        go_wp2_with fail
        go_roundw
        case rel => exact ⟨k + 1, B', c'', by omega, by go_num, by rw [HP.out], by rw [HP.out]; exact hcp, by rw [HP.out]; exact hop, below_via hb hbp⟩
        case measure => simp [intOf]; omega
      | false =>
        have HO := Lib.hid (disp_no hlt h1)
        have HP := Lib.hid (show puts (dispT xs d (k + 1)) = L by rw [HO.out, HL.out])
        go_wp2_with fail
        refine (l17View_c xs _ _ _ _ _ ((hr.below hb).more hb.size) hn HG.out).mono ?_
        rw [h1]
        clear h1
        rintro e wv ⟨rfl, rfl⟩
        go_wp2_with fail
        go_roundw
        case rel => exact ⟨k + 1, _, c', by omega, by go_num, by rw [HP.out], by rw [HP.out]; exact hcl, by rw [HP.out]; exact ho, hb⟩
        case measure => simp [intOf]; omega
    · have hke : k = xs.length := by omega
      subst hke
      rw [← HV.out] at *
      obtain ⟨L, hL⟩ : ∃ L, dispV xs d = L := ⟨_, rfl⟩
      rw [hL] at ho hcl ⊢
      have HL := Lib.hid hL
      clear hL
      go_wp2_with fail
      go_returns
      exact ⟨B, c', ret_list (by first | rfl | rw [HL.out]) HB.out.symm, hb, ho.cast HL.out.symm⟩
end Go.Proofs.YtpnkeaeikcobfaaGreatDoor
