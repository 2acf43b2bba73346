/- The walk of the law FnOdds. No condition but that the code is one that can be, and that the table of powers lies as it is listed. -/
import Derived.Test.YtdekdjpdpknelaaDoorTrFnO
import Derived.Test.YtdekdjpdpknelaaDoorVFn
import Derived.Test.YtdekdjpdpknelaaDoorTrDraw4
import Derived.Test.YtdekdjpdpknelaaDoorTrChance
import Derived.Test.YtdekdjpdpknelaaDoorTrLaw1
import Derived.Test.YtdekdjpdpknelaaDoorTxOdds
import Derived.Test.YtdekdjpdpknelaaDoorAppH
import Derived.Deep.DeepCutAuto
namespace Go.Proofs.YtdekdjpdpknelaaDoor
set_option linter.unusedVariables false
set_option linter.unusedSimpArgs false
open Go.RowKit
attribute [local irreducible] wpQuiet
theorem rev_take_s {α : Type} {l : List α} {j k : Nat} (h : j + 1 + k = l.length) : l.reverse.take (k + 1) = l.reverse.take k ++ [l[j]'(by omega)] := by
  have hk : k < l.reverse.length := by simp; omega
  rw [List.take_succ_eq_append_getElem hk, List.getElem_reverse]
  congr 3
  omega
theorem share_facts {a b : Int} (h : isOd a b = true) : (1 ≤ a ∧ a ≤ 1000 ∧ 1 ≤ b ∧ b ≤ 1000) ∧ 0 ≤ share1 a b * (a + b) ∧ share1 a b * (a + b) ≤ 100000000 ∧ 0 ≤ share2 a b * a ∧ share2 a b * a ≤ 100000000 ∧ share1 a b * (a + b) = share2 a b * a := by
  have hb := isOd_bd h
  have hg := gc_posL (a + b) hb.1
  unfold share1 share2
  rw [if_pos h, if_pos h]
  have l1 := share_law a b
  have n1 : 0 ≤ a / gc a (a + b) := Int.ediv_nonneg (by omega) (by omega)
  have n2 : a / gc a (a + b) ≤ a := Int.ediv_le_self _ (by omega)
  generalize a / gc a (a + b) = x at *
  generalize (a + b) / gc a (a + b) = y at *
  have m1 : 0 ≤ x * (a + b) := Int.mul_nonneg n1 (by omega)
  have m2 : x * (a + b) ≤ 1000 * 2000 := Int.mul_le_mul (by omega) (by omega) (by omega) (by omega)
  rw [← l1]
  exact ⟨hb, m1, by omega, m1, by omega, rfl⟩
theorem rd_one (w : World) (E : TypeId) : Rd encB 1 (w.alloc (.cells #[.bool true] E)).heap.size (w.alloc (.cells #[.bool true] E)) (some ⟨w.heap.size, 0, none⟩) [true] := rd_new (x := true) (vs := [.bool true]) rfl rfl
set_option maxRecDepth 100000 in
set_option maxHeartbeats 1600000 in
theorem lawFnOdds_c (bs : List Int) (A : Option Addr) (c : Nat) (w : World) (hr : Rd encY 1 w.heap.size w A bs) (hm : bs.length ≤ 9223372036854775807) (hc : bs.length ≤ c) (hb : ∀ b ∈ bs, ByteI b) (ht : Pow w) :
    Calls Tryd.prog 3 #[.slice A bs.length c] w (Ret (.bool true) w) := by
  have HB := Lib.hid hb
  clear hb
  have HT := Lib.hid ht
  clear ht
  by_cases hbig : 65536 < bs.length
  · have hd : decide (65536 < bs.length) = true := decide_eq_true hbig
    go_enter Tryd.func3, Tryd.ntmps3
    go_wp2_with (go_at_call 4; refine (vBig_c _ _ _ _).mono ?_; rw [hd]; rintro e w' ⟨rfl, rfl⟩)
    go_returns
    exact ⟨rfl, Below.refl _ _⟩
  have hd : decide (65536 < bs.length) = false := decide_eq_false hbig
  have hn : bs.length ≤ 65536 := by omega
  clear hbig
  go_enter Tryd.func3, Tryd.ntmps3
  go_wp2_with (go_at_call 4; refine (vBig_c _ _ _ _).mono ?_; rw [hd]; rintro e w' ⟨rfl, rfl⟩)
  clear hd
  refine (drawOddsAfter_c bs _ _ _ hr hn hc HB.out).mono ?_
  rintro e w1 ⟨B1, c1, xs, od, B2, c2, us, rfl, hl1, hl2, _, _, ho1, ho2, hx⟩
  have hr1 := ho1.rd
  have hr2 := ho2.rd
  clear ho1 ho2
  go_upto_region 4 with fail
  have hA := (Below.refl w1.heap.size w1).alloc (Nat.le_refl _) (.cells #[.int .i64 od.real, .int .i64 od.fake] 26)
  have hbx := boxV_at (w1.heap.size + 1) w1 [.int .i64 od.real, .int .i64 od.fake] 26 (by omega)
  simp only [List.toArray] at hbx
  have p4c0 := hbx.2.2.2 0 _ rfl
  have p4c1 := hbx.2.2.2 1 _ rfl
  have hsp4 : w1.heap.size < (w1.alloc (.cells #[.int .i64 od.real, .int .i64 od.fake] 26)).heap.size := by simp
  replace hx := below_step hx hA
  replace hr1 := hr1.go hA
  replace hr2 := hr2.go hA
  clear hbx hA
  generalize w1.alloc (.cells #[.int .i64 od.real, .int .i64 od.fake] 26) = Wp4 at *
  generalize w1.heap.size = p4 at *
  go_wp2_with fail
  refine (implOddsAfter_c xs _ _ od us _ _ _ hr1 (by omega) hr2 (by omega)).mono ?_
  rintro e w2 ⟨rfl, hbn⟩
  replace hx := below_step hx hbn
  replace p4c0 := (hbn.cell (p := ⟨p4, 0, none⟩) hsp4).trans p4c0
  replace p4c1 := (hbn.cell (p := ⟨p4, 1, none⟩) hsp4).trans p4c1
  replace hsp4 := Nat.lt_of_lt_of_le hsp4 hbn.size
  replace hr1 := hr1.go hbn
  replace hr2 := hr2.go hbn
  rw [oddsV_eq]
  have HO := Lib.hid (show oddsOk xs od us = true → oddsR xs od us = oddsF xs od us xs.length from fun h => by simp [oddsR, h])
  have HQ := Lib.hid (fun (v : World) (h1 : Rd encTrial 3 v.heap.size v B1 xs) (h2 : Rd encB 1 v.heap.size v B2 us) => specOddsAfter_c xs B1 c1 od us B2 c2 v h1 (by omega) h2 (by omega))
  simp only [oddsV_eq] at HQ
  obtain ⟨R, hR⟩ : ∃ R, oddsR xs od us = R := ⟨_, rfl⟩
  obtain ⟨K, hK⟩ : ∃ K, oddsOk xs od us = K := ⟨_, rfl⟩
  rw [hR, hK] at HO HQ
  rw [hR, hK]
  have HK := Lib.hid hK
  clear hR hK
  go_upto_region 5 with fail
  have hA := (Below.refl w2.heap.size w2).alloc (Nat.le_refl _) (.cells #[.int .i64 R.real, .int .i64 R.fake] 26)
  have hbx := boxV_at (w2.heap.size + 1) w2 [.int .i64 R.real, .int .i64 R.fake] 26 (by omega)
  simp only [List.toArray] at hbx
  have p6c0 := hbx.2.2.2 0 _ rfl
  have p6c1 := hbx.2.2.2 1 _ rfl
  have hsp6 : w2.heap.size < (w2.alloc (.cells #[.int .i64 R.real, .int .i64 R.fake] 26)).heap.size := by simp
  replace hx := below_step hx hA
  replace p4c0 := (hA.cell (p := ⟨p4, 0, none⟩) hsp4).trans p4c0
  replace p4c1 := (hA.cell (p := ⟨p4, 1, none⟩) hsp4).trans p4c1
  replace hsp4 := Nat.lt_of_lt_of_le hsp4 hA.size
  replace hr1 := hr1.go hA
  replace hr2 := hr2.go hA
  clear hbx hA
  generalize w2.alloc (.cells #[.int .i64 R.real, .int .i64 R.fake] 26) = Wp6 at *
  generalize w2.heap.size = p6 at *
  go_wp2_with fail
  refine (HQ.out _ hr1 hr2).mono ?_
  rintro e w3 ⟨rfl, hbn⟩
  replace hx := below_step hx hbn
  replace p4c0 := (hbn.cell (p := ⟨p4, 0, none⟩) hsp4).trans p4c0
  replace p4c1 := (hbn.cell (p := ⟨p4, 1, none⟩) hsp4).trans p4c1
  replace hsp4 := Nat.lt_of_lt_of_le hsp4 hbn.size
  replace p6c0 := (hbn.cell (p := ⟨p6, 0, none⟩) hsp6).trans p6c0
  replace p6c1 := (hbn.cell (p := ⟨p6, 1, none⟩) hsp6).trans p6c1
  replace hsp6 := Nat.lt_of_lt_of_le hsp6 hbn.size
  replace hr1 := hr1.go hbn
  replace hr2 := hr2.go hbn
  clear HQ
  go_upto_region 6 with fail
  have hA := (Below.refl w3.heap.size w3).alloc (Nat.le_refl _) (.cells #[.int .i64 R.real, .int .i64 R.fake] 26)
  have hbx := boxV_at (w3.heap.size + 1) w3 [.int .i64 R.real, .int .i64 R.fake] 26 (by omega)
  simp only [List.toArray] at hbx
  have p8c0 := hbx.2.2.2 0 _ rfl
  have p8c1 := hbx.2.2.2 1 _ rfl
  have hsp8 : w3.heap.size < (w3.alloc (.cells #[.int .i64 R.real, .int .i64 R.fake] 26)).heap.size := by simp
  replace hx := below_step hx hA
  replace p4c0 := (hA.cell (p := ⟨p4, 0, none⟩) hsp4).trans p4c0
  replace p4c1 := (hA.cell (p := ⟨p4, 1, none⟩) hsp4).trans p4c1
  replace hsp4 := Nat.lt_of_lt_of_le hsp4 hA.size
  replace p6c0 := (hA.cell (p := ⟨p6, 0, none⟩) hsp6).trans p6c0
  replace p6c1 := (hA.cell (p := ⟨p6, 1, none⟩) hsp6).trans p6c1
  replace hsp6 := Nat.lt_of_lt_of_le hsp6 hA.size
  replace hr1 := hr1.go hA
  replace hr2 := hr2.go hA
  clear hbx hA
  generalize w3.alloc (.cells #[.int .i64 R.real, .int .i64 R.fake] 26) = Wp8 at *
  generalize w3.heap.size = p8 at *
  have H1 : Hid (∀ x : World, Calls Tryd.prog 8 #[.slice B1 xs.length c1] (over Wp8 x) (Ret (.bool (goodT xs)) (over Wp8 x))) := Lib.hid (fun x => implAreTrials_c xs _ _ _ (hr1.go (over_below Wp8 x)) (by omega))
  have H2 : Hid (∀ x : World, Calls Tryd.prog 9 #[.slice B1 xs.length c1] (over Wp8 x) (Ret (.bool (goodT xs)) (over Wp8 x))) := Lib.hid (fun x => specAreTrials_c xs _ _ _ (hr1.go (over_below Wp8 x)) (by omega))
  have H3 : Hid (∀ x : World, Calls Tryd.prog 10 #[.agg #[.int .i64 od.real, .int .i64 od.fake]] (over Wp8 x) (Ret (.bool (isOd od.real od.fake)) (over Wp8 x))) := Lib.hid (fun x => implAreOdds_c _ _ _)
  have H4 : Hid (∀ x : World, Calls Tryd.prog 11 #[.agg #[.int .i64 od.real, .int .i64 od.fake]] (over Wp8 x) (Ret (.bool (isOd od.real od.fake)) (over Wp8 x))) := Lib.hid (fun x => specAreOdds_c _ _ _)
  have hov := over_cell Wp8
  generalize hgt : goodT xs = gt at *
  generalize hio : isOd od.real od.fake = io at *
  refine wp_region_over (by kernel_rfl) (by kernel_rfl) ?_
  repeat (go_big_quiet_step (((first | (go_at_call 8; exact Calls.over_of (H1.out _)) | (go_at_call 9; exact Calls.over_of (H2.out _)) | (go_at_call 10; exact Calls.over_of (H3.out _)) | (go_at_call 11; exact Calls.over_of (H4.out _))))))
  refine wpQuiet_nil ?_
  intro _ hwx1
  obtain ⟨x1, hwx1⟩ := hwx1
  subst hwx1
  have hbo := over_below Wp8 x1
  generalize over Wp8 x1 = W9 at *
  clear H1 H2 H3 H4 hov hgt hio
  replace hx := below_step hx hbo
  replace p4c0 := (hbo.cell (p := ⟨p4, 0, none⟩) hsp4).trans p4c0
  replace p4c1 := (hbo.cell (p := ⟨p4, 1, none⟩) hsp4).trans p4c1
  replace hsp4 := Nat.lt_of_lt_of_le hsp4 hbo.size
  replace p6c0 := (hbo.cell (p := ⟨p6, 0, none⟩) hsp6).trans p6c0
  replace p6c1 := (hbo.cell (p := ⟨p6, 1, none⟩) hsp6).trans p6c1
  replace hsp6 := Nat.lt_of_lt_of_le hsp6 hbo.size
  replace p8c0 := (hbo.cell (p := ⟨p8, 0, none⟩) hsp8).trans p8c0
  replace p8c1 := (hbo.cell (p := ⟨p8, 1, none⟩) hsp8).trans p8c1
  replace hsp8 := Nat.lt_of_lt_of_le hsp8 hbo.size
  replace hr1 := hr1.go hbo
  replace hr2 := hr2.go hbo
  clear hbo
  clear p8c0 p8c1 hsp8
  go_upto_if 84 with fail
  go_cut [] (fun wx => Below W9.heap.size W9 wx)
  case first => as_aux_lemma =>
    cases K
    · go_wp2_with fail
      go_meet
      exact Below.refl _ _
    have hK := HK.out
    obtain ⟨rv1, rv2⟩ := odds_rev hK
    have hRR := HO.out rfl
    have hpos := odds_pos hK
    rw [← hRR] at rv2 hpos
    obtain ⟨pR, pF⟩ := hpos
    have hlen : us.length = xs.length := by
      unfold oddsOk at hK
      simp only [Bool.and_eq_true, decide_eq_true_eq] at hK
      exact hK.2
    have HRV := Lib.hid (show oddsOk xs.reverse od us.reverse = true ∧ oddsR xs.reverse od us.reverse = R from ⟨rv1, by unfold oddsR; rw [if_pos rv1]; exact rv2⟩)
    have HLEN := Lib.hid hlen
    have dR : decide (R.real < 1) = false := decide_eq_false (by omega)
    have dF : decide (R.fake < 1) = false := decide_eq_false (by omega)
    clear hK rv1 rv2 hRR hlen HK HO pR pF
    have hE0 := OutR.empty (enc := encTrial) (k := 3) (E := 35) (base := W9.heap.size) W9 (Nat.le_refl _)
    have hbA := (Below.refl W9.heap.size W9).alloc (Nat.le_refl _) (.cells #[] 35)
    have hE1 := hE0.below ((Below.refl _ _).alloc (Nat.le_refl _) (.cells #[] 4))
    have hE2 := OutR.emptyH (enc := encB) (k := 1) (E := 4) (base := W9.heap.size) (W9.alloc (.cells #[] 35)) (W9.heap.size + 1) (by simp) (by omega)
    have hbA2 := hbA.alloc (by simp) (.cells #[] 4)
    go_wp2_with fail
    go_loopw [10, 11, 12] (fun u v i wr => ∃ k : Nat, k ≤ xs.length ∧ i = .int .i64 ((xs.length : Int) - 1 - k) ∧ OutR encTrial 3 35 W9.heap.size u (xs.reverse.take k) wr ∧ OutR encB 1 4 W9.heap.size v (us.reverse.take k) wr ∧ (∀ g, u.ownBlock = some g → v.ownBlock ≠ some g) ∧ Below W9.heap.size W9 wr) (fun _ _ i _ => (intOf i + 1).toNat)
    case atStart => exact ⟨0, Nat.zero_le _, vi (by omega), hE1, hE2, (fun g h e => by simp [Value.ownBlock] at h e; omega), hbA2⟩
    case round => as_aux_lemma =>
      obtain ⟨k, hk, rfl, ho1, ho2, hnb, hb⟩ := hrel
      have hlen := HLEN.out
      clear hE0 hE1 hE2 hbA hbA2
      by_cases hlt : k < xs.length
      · obtain ⟨j, hj⟩ : ∃ j : Nat, (xs.length : Int) - 1 - k = j := ⟨xs.length - 1 - k, by omega⟩
        have hjl : j < xs.length := by omega
        have hju : j < us.length := by omega
        have hjk : j + 1 + k = xs.length := by omega
        have hju2 : j + 1 + k = us.length := by omega
        rw [hj]
        obtain ⟨b1, o1, hAe, hbs1, d0, d1, d2⟩ := (hr1.below hb).atTrial hjl
        subst hAe
        obtain ⟨b2, o2, hAe, hbs2, g0⟩ := (hr2.below hb).at_ hju
        subst hAe
        have g0 := g0 0 _ rfl
        simp only [Nat.mul_one, Nat.add_zero] at g0
        have hj0 : (0 : Int) ≤ (j : Int) := by omega
        have hj1 : (j : Int) < (xs.length : Int) := by omega
        have hj2 : (j : Int) < (us.length : Int) := by omega
        have HT1 := Lib.hid (show xs.reverse.take (k + 1) = xs.reverse.take k ++ [xs[j]] from rev_take_s hjk)
        have HT2 := Lib.hid (show us.reverse.take (k + 1) = us.reverse.take k ++ [us[j]] from rev_take_s hju2)
        have l1 : (xs.reverse.take k).length ≤ 100 := by rw [List.length_take, List.length_reverse]; omega
        have l2 : (us.reverse.take k).length ≤ 100 := by rw [List.length_take, List.length_reverse]; omega
        have hbz := hb.size
        generalize xs.reverse.take k = YS at *
        generalize us.reverse.take k = VS at *
        have HJ := Lib.hid hj
        clear hjk hju2 hj hlen
        obtain ⟨X, hX⟩ : ∃ X, xs[j] = X := ⟨_, rfl⟩
        obtain ⟨Y, hY⟩ : ∃ Y, us[j] = Y := ⟨_, rfl⟩
        rw [hX] at d0 d1 d2 HT1
        rw [hY] at g0 HT2
        clear hX hY
        go_upto_region 14 with (at_builtin; refine wp_appW rfl (.tmp 94) (.tmp 99) _ rfl 35 (.agg #[.int .i64 0, .int .i64 0, .int .i64 0]) 3 24 Tryd.underlying24 infoTrial rfl (by decide) encTrial_len oneT (base := W9.heap.size) (m := 1) (ys := YS) (zs := [X]) rfl rfl rfl (ho1.below ((Below.refl _ _).alloc (Nat.le_refl _) _)) (rd_new (x := X) (vs := [.int .i64 X.real, .int .i64 X.fake, .int .i64 X.price]) rfl rfl) (by omega) (by omega) (by simp; omega) ?_; intro v6 w6 ho6 hg6 hd6)
        have ho2' := ho2
        have hlo6 := ho6.lt_
        have ho2 := (ho2.below ((Below.refl _ _).alloc (Nat.le_refl _) (.cells #[.int .i64 X.real, .int .i64 X.fake, .int .i64 X.price] 35))).kept_ hg6 (fun g h e => hnb g e h)
        have hlo2 := ho2.lt_
        have hb6 := below_grown (hb.alloc hbz (.cells #[.int .i64 X.real, .int .i64 X.fake, .int .i64 X.price] 35)) (Nat.le_refl _) hg6 ho1.from_
        have hnb6 : ∀ g, v6.ownBlock = some g → u11.ownBlock ≠ some g := fun g h e => by
          rcases hd6 with hd | hd
          · exact hnb g (hd ▸ h) e
          · have h2 : some g = some (wr.alloc (.cells #[.int .i64 X.real, .int .i64 X.fake, .int .i64 X.price] 35)).heap.size := h.symm.trans hd
            injection h2 with h2
            have h3 : g < wr.heap.size := ho2'.lt_ g e
            simp at h2
            omega
        replace g0 := (hb6.cell (p := ⟨b2, o2 + j, none⟩) hbs2).trans ((hb.cell (p := ⟨b2, o2 + j, none⟩) hbs2).symm.trans g0)
        have hbz6 := hb6.size
        clear hg6 hd6 hnb ho1 hb d0 d1 d2
        go_wp2_with (at_builtin; refine wp_appW rfl (.tmp 101) (.tmp 106) _ rfl 4 (.bool false) 1 1 Tryd.underlying27 infoBo rfl (by decide) (fun _ => rfl) oneB_ (base := W9.heap.size) (m := 1) (ys := VS) (zs := [Y]) rfl rfl rfl (ho2.below ((Below.refl _ _).alloc (Nat.le_refl _) _)) (rd_new (x := Y) (vs := [.bool Y]) rfl rfl) (by omega) (by omega) (by simp; omega) ?_; intro v7 w7' ho7 hg7 hd7)
        have ho6 := (ho6.below ((Below.refl _ _).alloc (Nat.le_refl _) (.cells #[.bool Y] 4))).kept_ hg7 (fun g h e => hnb6 g h e)
        have hb7 := below_grown (hb6.alloc hbz6 (.cells #[.bool Y] 4)) (Nat.le_refl _) hg7 ho2.from_
        have hnb7 : ∀ g, v6.ownBlock = some g → v7.ownBlock ≠ some g := fun g h e => by
          rcases hd7 with hd | hd
          · exact hnb6 g h (hd ▸ e)
          · have h2 : some g = some (w6.alloc (.cells #[.bool Y] 4)).heap.size := e.symm.trans hd
            injection h2 with h2
            have h3 : g < w6.heap.size := hlo6 g h
            simp at h2
            omega
        clear hg7 hd7 hnb6
        have hj := HJ.out
        go_roundw
        case rel => exact ⟨k + 1, by omega, vi (by omega), by rw [HT1.out]; exact ho6, by rw [HT2.out]; exact ho7, hnb7, hb7⟩
        case measure => simp only [intOf]; omega
      · obtain rfl : k = xs.length := by omega
        have hm1 : (xs.length : Int) - 1 - (xs.length : Int) = -1 := by omega
        rw [hm1]
        have hkl : us.reverse.length ≤ xs.length := by simp; omega
        rw [List.take_of_length_le (by simp)] at ho1
        rw [List.take_of_length_le hkl] at ho2
        have q0 := (hb.cell (p := ⟨p4, 0, none⟩) hsp4).trans p4c0
        have q1 := (hb.cell (p := ⟨p4, 1, none⟩) hsp4).trans p4c1
        have q2 := (hb.cell (p := ⟨p6, 0, none⟩) hsp6).trans p6c0
        have q3 := (hb.cell (p := ⟨p6, 1, none⟩) hsp6).trans p6c1
        have hs6 : p6 < wr.heap.size := Nat.lt_of_lt_of_le hsp6 hb.size
        have HR := HRV.out
        obtain ⟨RX, hRX⟩ : ∃ r, xs.reverse = r := ⟨_, rfl⟩
        obtain ⟨RU, hRU⟩ : ∃ r, us.reverse = r := ⟨_, rfl⟩
        have hl3 : RX.length ≤ 100 := by rw [← hRX, List.length_reverse]; omega
        have hl4 : RU.length ≤ 100 := by rw [← hRU, List.length_reverse]; omega
        rw [hRX] at ho1 HR
        rw [hRU] at ho2 HR
        have HR := Lib.hid HR
        clear hRX hRU HRV
        obtain ⟨A10, c10, rfl, hw10, _⟩ := ho1.own encTrial_len
        obtain ⟨A11, c11, rfl, hw11, _⟩ := ho2.own (fun _ => rfl)
        clear ho1 ho2 hnb hkl hm1 hlen
        go_wp2_with fail
        refine (implOddsAfter_c RX _ _ od RU _ _ _ hw10.rd (by omega) hw11.rd (by omega)).mono ?_
        rw [oddsV_eq, HR.out.1, HR.out.2]
        rintro e wq ⟨rfl, hbq⟩
        have q2 := (hbq.cell (p := ⟨p6, 0, none⟩) hs6).trans q2
        have q3 := (hbq.cell (p := ⟨p6, 1, none⟩) hs6).trans q3
        have hbx := hb.trans (hbq.mono hb.size)
        have hs6 : p6 < wq.heap.size := Nat.lt_of_lt_of_le hs6 hbq.size
        clear hb hbq q0 q1
        go_upto_region 16 with fail
        have hA := (Below.refl wq.heap.size wq).alloc (Nat.le_refl _) (.cells #[.int .i64 R.real, .int .i64 R.fake] 26)
        have hby := boxV_at (wq.heap.size + 1) wq [.int .i64 R.real, .int .i64 R.fake] 26 (by omega)
        simp only [List.toArray] at hby
        have r0 := hby.2.2.2 0 _ rfl
        have r1 := hby.2.2.2 1 _ rfl
        have q2 := (hA.cell (p := ⟨p6, 0, none⟩) hs6).trans q2
        have q3 := (hA.cell (p := ⟨p6, 1, none⟩) hs6).trans q3
        have hbx := hbx.trans (hA.mono hbx.size)
        clear hA hby
        generalize wq.alloc (.cells #[.int .i64 R.real, .int .i64 R.fake] 26) = wz at *
        generalize wq.heap.size = p13 at *
        go_wp2_with fail
        go_meet
        exact hbx
  case rest => as_aux_lemma =>
    have hcut : Below W9.heap.size W9 wc := hcut
    replace hx := below_step hx hcut
    replace p4c0 := (hcut.cell (p := ⟨p4, 0, none⟩) hsp4).trans p4c0
    replace p4c1 := (hcut.cell (p := ⟨p4, 1, none⟩) hsp4).trans p4c1
    replace hsp4 := Nat.lt_of_lt_of_le hsp4 hcut.size
    replace p6c0 := (hcut.cell (p := ⟨p6, 0, none⟩) hsp6).trans p6c0
    replace p6c1 := (hcut.cell (p := ⟨p6, 1, none⟩) hsp6).trans p6c1
    replace hsp6 := Nat.lt_of_lt_of_le hsp6 hcut.size
    replace hr1 := hr1.go hcut
    replace hr2 := hr2.go hcut
    clear hcut
    clear p6c0 p6c1 hsp6
    go_upto_region 18 with fail
    go_wp2_with fail
    have HC := Lib.hid (show chOk xs od us = true → 1 ≤ chV1 xs od us ∧ chV1 xs od us ≤ chV2 xs od us from fun h => chance_law h)
    have HQ := Lib.hid (fun (v : World) (h1 : Rd encTrial 3 v.heap.size v B1 xs) (h2 : Rd encB 1 v.heap.size v B2 us) => specResultChance_c xs B1 c1 od us B2 c2 v h1 (by omega) h2 (by omega))
    have HP := Lib.hid (fun (v : World) (h1 : Rd encTrial 3 v.heap.size v B1 xs) (h2 : Rd encB 1 v.heap.size v B2 us) => implResultChance_c xs B1 c1 od us B2 c2 v h1 (by omega) h2 (by omega))
    generalize chV1 xs od us = V1 at *
    generalize chV2 xs od us = V2 at *
    generalize chOk xs od us = G2 at *
    refine (HP.out _ hr1 hr2).mono ?_
    rintro e w4 ⟨rfl, hbn⟩
    replace hx := below_step hx hbn
    replace p4c0 := (hbn.cell (p := ⟨p4, 0, none⟩) hsp4).trans p4c0
    replace p4c1 := (hbn.cell (p := ⟨p4, 1, none⟩) hsp4).trans p4c1
    replace hsp4 := Nat.lt_of_lt_of_le hsp4 hbn.size
    replace hr1 := hr1.go hbn
    replace hr2 := hr2.go hbn
    clear hbn
    go_wp2_with fail
    refine (HQ.out _ hr1 hr2).mono ?_
    rintro e w5 ⟨rfl, hbn⟩
    replace hx := below_step hx hbn
    replace p4c0 := (hbn.cell (p := ⟨p4, 0, none⟩) hsp4).trans p4c0
    replace p4c1 := (hbn.cell (p := ⟨p4, 1, none⟩) hsp4).trans p4c1
    replace hsp4 := Nat.lt_of_lt_of_le hsp4 hbn.size
    replace hr1 := hr1.go hbn
    replace hr2 := hr2.go hbn
    clear hbn HP HQ hr1 hr2 HO HK
    clear p4c0 p4c1 hsp4
    go_upto_region 20 with fail
    go_cut [172] (fun v wx => v = .bool false ∧ w5 = wx)
    case first => as_aux_lemma =>
      cases G2
      · go_wp2_with fail
        go_meet
        exact ⟨rfl, rfl⟩
      · obtain ⟨f1, f2⟩ := HC.out rfl
        have e1 : decide (V1 < 1) = false := decide_eq_false (by omega)
        have e2 : decide (V2 < V1) = false := decide_eq_false (by omega)
        go_wp2_with fail
        go_meet
        exact ⟨rfl, rfl⟩
    case rest => as_aux_lemma =>
      obtain ⟨hcv, hcw⟩ := hcut
      subst hcv
      subst hcw
      clear HC
      go_upto_region 22 with fail
      go_wp2_with fail
      refine (drawShareReal_c bs _ _ _ (hr.go hx) hn hc HB.out).mono ?_
      rintro e w6 ⟨y, rfl, hOy, hbn⟩
      replace hx := below_step hx hbn
      clear hbn hOy
      go_upto_region 23 with fail
      have hA := (Below.refl w6.heap.size w6).alloc (Nat.le_refl _) (.cells #[.int .i64 y.real, .int .i64 y.fake] 26)
      have hbx := boxV_at (w6.heap.size + 1) w6 [.int .i64 y.real, .int .i64 y.fake] 26 (by omega)
      simp only [List.toArray] at hbx
      have p21c0 := hbx.2.2.2 0 _ rfl
      have p21c1 := hbx.2.2.2 1 _ rfl
      have hsp21 : w6.heap.size < (w6.alloc (.cells #[.int .i64 y.real, .int .i64 y.fake] 26)).heap.size := by simp
      replace hx := below_step hx hA
      clear hbx hA
      generalize w6.alloc (.cells #[.int .i64 y.real, .int .i64 y.fake] 26) = Wp21 at *
      generalize w6.heap.size = p21 at *
      go_wp2_with fail
      have HF := Lib.hid (fun h : isOd y.real y.fake = true => share_facts h)
      have HQ := Lib.hid (fun (v : World) => specShareReal_c y.real y.fake v)
      have HP := Lib.hid (fun (v : World) => implShareReal_c y.real y.fake v)
      simp only [shareV_eq] at HQ HP
      generalize share1 y.real y.fake = N1 at *
      generalize share2 y.real y.fake = N2 at *
      generalize isOd y.real y.fake = G3 at *
      refine (HP.out _).mono ?_
      rintro e w7 ⟨rfl, hbn⟩
      replace hx := below_step hx hbn
      replace p21c0 := (hbn.cell (p := ⟨p21, 0, none⟩) hsp21).trans p21c0
      replace p21c1 := (hbn.cell (p := ⟨p21, 1, none⟩) hsp21).trans p21c1
      replace hsp21 := Nat.lt_of_lt_of_le hsp21 hbn.size
      clear hbn
      go_wp2_with fail
      refine (HQ.out _).mono ?_
      rintro e w8 ⟨rfl, hbn⟩
      replace hx := below_step hx hbn
      replace p21c0 := (hbn.cell (p := ⟨p21, 0, none⟩) hsp21).trans p21c0
      replace p21c1 := (hbn.cell (p := ⟨p21, 1, none⟩) hsp21).trans p21c1
      replace hsp21 := Nat.lt_of_lt_of_le hsp21 hbn.size
      clear hbn HP HQ
      go_upto_region 25 with fail
      go_cut [216] (fun v wx => v = .bool false ∧ w8 = wx)
      case first => as_aux_lemma =>
        cases G3
        · go_wp2_with fail
          go_meet
          exact ⟨rfl, rfl⟩
        · obtain ⟨⟨b1, b2, b3, b4⟩, m1, m2, m3, m4, m5⟩ := HF.out rfl
          rw [← m5] at m3 m4
          have m6 : (N1 * (y.real + y.fake) != N2 * y.real) = false := by rw [m5]; simp
          have w1' : IntKind.i64.wrap (y.real + y.fake) = y.real + y.fake := by rw [IntKind.wrap_i64]; omega
          have w2' : IntKind.i64.wrap (N1 * (y.real + y.fake)) = N1 * (y.real + y.fake) := by rw [IntKind.wrap_i64]; omega
          have w3' : IntKind.i64.wrap (N2 * y.real) = N2 * y.real := by rw [← m5, IntKind.wrap_i64]; omega
          go_wp2_with fail
          go_meet
          exact ⟨rfl, rfl⟩
      case rest => as_aux_lemma =>
        obtain ⟨hcv, hcw⟩ := hcut
        subst hcv
        subst hcw
        clear HF
        clear p21c0 p21c1 hsp21
        go_upto_region 27 with fail
        go_wp2_with fail
        refine (drawDoesHelp_c bs _ _ _ (hr.go hx) hn hc HB.out).mono ?_
        rintro e w9 ⟨t, rfl, hOt, hbn⟩
        replace hx := below_step hx hbn
        clear hbn hOt
        go_upto_region 28 with fail
        have hA := (Below.refl w9.heap.size w9).alloc (Nat.le_refl _) (.cells #[.int .i64 t.real, .int .i64 t.fake, .int .i64 t.price] 35)
        have hbx := boxV_at (w9.heap.size + 1) w9 [.int .i64 t.real, .int .i64 t.fake, .int .i64 t.price] 35 (by omega)
        simp only [List.toArray] at hbx
        have p28c0 := hbx.2.2.2 0 _ rfl
        have p28c1 := hbx.2.2.2 1 _ rfl
        have p28c2 := hbx.2.2.2 2 _ rfl
        have hsp28 : w9.heap.size < (w9.alloc (.cells #[.int .i64 t.real, .int .i64 t.fake, .int .i64 t.price] 35)).heap.size := by simp
        replace hx := below_step hx hA
        clear hbx hA
        generalize w9.alloc (.cells #[.int .i64 t.real, .int .i64 t.fake, .int .i64 t.price] 35) = Wp28 at *
        generalize w9.heap.size = p28 at *
        go_wp2_with fail
        have HF := Lib.hid (fun h : isTr t.real t.fake t.price = true => help_law h)
        have HQ := Lib.hid (fun (v : World) => specDoesHelp_c t.real t.fake t.price v)
        have HP := Lib.hid (fun (v : World) => implDoesHelp_c t.real t.fake t.price v)
        simp only [helpV] at HQ HP
        generalize isTr t.real t.fake t.price = G4 at *
        obtain ⟨D4, hD4⟩ : ∃ D, decide (t.fake < t.real) = D := ⟨_, rfl⟩
        rw [hD4] at HQ HP HF
        clear hD4
        refine (HP.out _).mono ?_
        rintro e w10 ⟨rfl, hbn⟩
        replace hx := below_step hx hbn
        replace p28c0 := (hbn.cell (p := ⟨p28, 0, none⟩) hsp28).trans p28c0
        replace p28c1 := (hbn.cell (p := ⟨p28, 1, none⟩) hsp28).trans p28c1
        replace p28c2 := (hbn.cell (p := ⟨p28, 2, none⟩) hsp28).trans p28c2
        replace hsp28 := Nat.lt_of_lt_of_le hsp28 hbn.size
        clear hbn
        go_wp2_with fail
        refine (HQ.out _).mono ?_
        rintro e w11 ⟨rfl, hbn⟩
        replace hx := below_step hx hbn
        replace p28c0 := (hbn.cell (p := ⟨p28, 0, none⟩) hsp28).trans p28c0
        replace p28c1 := (hbn.cell (p := ⟨p28, 1, none⟩) hsp28).trans p28c1
        replace p28c2 := (hbn.cell (p := ⟨p28, 2, none⟩) hsp28).trans p28c2
        replace hsp28 := Nat.lt_of_lt_of_le hsp28 hbn.size
        clear hbn HP HQ
        go_upto_region 30 with fail
        go_cut [236] (fun v wx => v = .bool false ∧ w11 = wx)
        case first => as_aux_lemma =>
          go_wp2_with fail
          go_meet
          exact ⟨rfl, rfl⟩
        case rest => as_aux_lemma =>
          obtain ⟨hcv, hcw⟩ := hcut
          subst hcv
          subst hcw
          go_upto_if 237 with fail
          go_cut [] (fun wx => Below w11.heap.size w11 wx)
          case first => as_aux_lemma =>
            cases G4
            · go_wp2_with fail
              go_meet
              exact Below.refl _ _
            · obtain ⟨g1, g2⟩ := HF.out rfl
              have HG := Lib.hid (show oddsOk [(⟨t.real, t.fake, t.price⟩ : Trial)] ⟨1, 1⟩ [true] = true ∧ D4 = decide ((oddsR [(⟨t.real, t.fake, t.price⟩ : Trial)] ⟨1, 1⟩ [true]).fake < (oddsR [(⟨t.real, t.fake, t.price⟩ : Trial)] ⟨1, 1⟩ [true]).real) from ⟨g1, by unfold oddsR; rw [if_pos g1]; exact g2⟩)
              clear g1 g2 HF
              go_wp2_with fail
              have hbA := (Below.refl w11.heap.size w11).alloc (Nat.le_refl _) (.cells #[.int .i64 t.real, .int .i64 t.fake, .int .i64 t.price] 35)
              have rA := rd_new (enc := encTrial) (k := 3) (w := w11) (x := (⟨t.real, t.fake, t.price⟩ : Trial)) (vs := [.int .i64 t.real, .int .i64 t.fake, .int .i64 t.price]) (E := 35) rfl rfl
              simp only [List.toArray] at rA
              have hs1 : w11.heap.size + 1 = (w11.alloc (.cells #[.int .i64 t.real, .int .i64 t.fake, .int .i64 t.price] 35)).heap.size := by simp
              generalize w11.alloc (.cells #[.int .i64 t.real, .int .i64 t.fake, .int .i64 t.price] 35) = WA at *
              have hbB := (Below.refl WA.heap.size WA).alloc (Nat.le_refl _) (.cells #[.bool true] 4)
              have rB := rd_one WA 4
              rw [← hs1] at rB
              have rA := rA.go hbB
              have hbx := hbA.trans (hbB.mono hbA.size)
              generalize WA.alloc (.cells #[.bool true] 4) = WB at *
              have hX := implOddsAfter_c [(⟨t.real, t.fake, t.price⟩ : Trial)] _ 1 ⟨1, 1⟩ [true] _ 1 WB rA (by simp) rB (by simp)
              rw [oddsV_eq, HG.out.1] at hX
              obtain ⟨E4, hE4⟩ : ∃ E, oddsR [(⟨t.real, t.fake, t.price⟩ : Trial)] ⟨1, 1⟩ [true] = E := ⟨_, rfl⟩
              have hDD := HG.out.2
              rw [hE4] at hX hDD
              simp only [List.length_cons, List.length_nil, Nat.zero_add] at hX
              clear hE4 HG rA rB hbA hbB hs1
              refine hX.mono ?_
              rintro e wq ⟨rfl, hbq⟩
              have hbx := hbx.trans (hbq.mono hbx.size)
              clear hbq hX
              go_upto_region 34 with fail
              have hby := boxV_at (wq.heap.size + 1) wq [.int .i64 E4.real, .int .i64 E4.fake] 26 (by omega)
              simp only [List.toArray] at hby
              have r0 := hby.2.2.2 0 _ rfl
              have r1 := hby.2.2.2 1 _ rfl
              have hbx := hbx.alloc hbx.size (.cells #[.int .i64 E4.real, .int .i64 E4.fake] 26)
              clear hby
              generalize wq.alloc (.cells #[.int .i64 E4.real, .int .i64 E4.fake] 26) = wz at *
              generalize wq.heap.size = p33 at *
              subst hDD
              go_wp2_with fail
              go_meet
              exact hbx
          case rest => as_aux_lemma =>
            have hcut : Below w11.heap.size w11 wc := hcut
            replace hx := below_step hx hcut
            replace p28c0 := (hcut.cell (p := ⟨p28, 0, none⟩) hsp28).trans p28c0
            replace p28c1 := (hcut.cell (p := ⟨p28, 1, none⟩) hsp28).trans p28c1
            replace p28c2 := (hcut.cell (p := ⟨p28, 2, none⟩) hsp28).trans p28c2
            replace hsp28 := Nat.lt_of_lt_of_le hsp28 hcut.size
            clear hcut HF
            clear p28c0 p28c1 p28c2 hsp28
            go_wp2_with fail
            refine (drawOddsText_c bs _ _ _ (hr.go hx) hn hc HB.out).mono ?_
            rintro e w12 ⟨z, rfl, hOz, hbn⟩
            replace hx := below_step hx hbn
            clear hbn hOz
            go_upto_region 37 with fail
            have hA := (Below.refl w12.heap.size w12).alloc (Nat.le_refl _) (.cells #[.int .i64 z.real, .int .i64 z.fake] 26)
            have hbx := boxV_at (w12.heap.size + 1) w12 [.int .i64 z.real, .int .i64 z.fake] 26 (by omega)
            simp only [List.toArray] at hbx
            have p35c0 := hbx.2.2.2 0 _ rfl
            have p35c1 := hbx.2.2.2 1 _ rfl
            have hsp35 : w12.heap.size < (w12.alloc (.cells #[.int .i64 z.real, .int .i64 z.fake] 26)).heap.size := by simp
            replace hx := below_step hx hA
            clear hbx hA
            generalize w12.alloc (.cells #[.int .i64 z.real, .int .i64 z.fake] 26) = Wp35 at *
            generalize w12.heap.size = p35 at *
            go_wp2_with fail
            have HQ := Lib.hid (fun (v : World) => specOddsText_c z.real z.fake v)
            have HP := Lib.hid (fun (v : World) (h : Pow v) => implOddsText_c z.real z.fake v h)
            generalize otV z.real z.fake = S5 at *
            generalize isOd z.real z.fake = G5 at *
            refine (HP.out _ (HT.out.go hx)).mono ?_
            rintro e w13 ⟨rfl, hbn⟩
            replace hx := below_step hx hbn
            replace p35c0 := (hbn.cell (p := ⟨p35, 0, none⟩) hsp35).trans p35c0
            replace p35c1 := (hbn.cell (p := ⟨p35, 1, none⟩) hsp35).trans p35c1
            replace hsp35 := Nat.lt_of_lt_of_le hsp35 hbn.size
            clear hbn
            go_wp2_with fail
            refine (HQ.out _).mono ?_
            rintro e w14 ⟨rfl, hbn⟩
            replace hx := below_step hx hbn
            replace p35c0 := (hbn.cell (p := ⟨p35, 0, none⟩) hsp35).trans p35c0
            replace p35c1 := (hbn.cell (p := ⟨p35, 1, none⟩) hsp35).trans p35c1
            replace hsp35 := Nat.lt_of_lt_of_le hsp35 hbn.size
            clear hbn HP HQ
            go_wp2_with fail
            go_returns
            exact ⟨ret_bool (by simp), hx⟩
end Go.Proofs.YtdekdjpdpknelaaDoor
