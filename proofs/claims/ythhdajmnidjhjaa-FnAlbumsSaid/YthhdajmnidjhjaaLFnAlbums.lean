/- The walk of the law FnAlbums. No condition but that the code is one that can be. -/
import Derived.Test.YthhdajmnidjhjaaAlDraws
import Derived.Test.YthhdajmnidjhjaaAlSort
import Derived.Test.YthhdajmnidjhjaaAlSmall
import Derived.Test.YthhdajmnidjhjaaAlPit
import Derived.Test.YthhdajmnidjhjaaAlTak
import Derived.Test.YthhdajmnidjhjaaAlTakS
import Derived.Test.YthhdajmnidjhjaaAlTop
import Derived.Deep.DeepCutAuto
import Derived.Deep.RegionHeld3
namespace Go.Proofs.Ythhdajmnidjhjaa
set_option linter.unusedVariables false
set_option linter.unusedSimpArgs false
open Go.RowKit
attribute [local irreducible] wpQuiet
theorem ptV_hw {xs : List Page} {id z : Int} (hok : ∀ x ∈ xs, OkP x) (hz : 0 ≤ z ∧ z ≤ 1000) : ∀ x ∈ ptV xs id z, x.title.size ≤ 9223372036854775807 ∧ x.items.length ≤ 9223372036854775807 ∧ ∀ y ∈ x.items, Fits y := by
  cases hB : ptB xs id z with
  | false => rw [ptV_no hB]; simp
  | true =>
    obtain ⟨_, _, j, hj, _, hL, _⟩ := pt_of hB
    rw [ptV_yes hB, hL]
    intro x hx
    rcases List.mem_or_eq_of_mem_set hx with h | rfl
    · exact hw_okP hok x h
    · obtain ⟨_, h2, _, h4, h5⟩ := hok _ (List.getElem_mem hj)
      refine ⟨show xs[j].title.size ≤ _ by omega, ?_, fun y hy => ?_⟩
      · have := putI_len xs[j].items z
        show (putI xs[j].items z).length ≤ _
        omega
      · rcases (putI_mem _ _ _).1 hy with h | h
        · have := h5 y h; unfold Fits; omega
        · unfold Fits; omega
theorem tkV_small (xs : List Page) (z : Int) : (tkV xs z).length ≤ 1048576 := by
  cases hB : tkB xs z with
  | false => rw [tkV_no hB]; simp
  | true =>
    have hg : goodA xs = true := by unfold tkB at hB; exact (Bool.and_eq_true _ _ ▸ hB).1
    rcases tk_of xs z hg with ⟨j, hj, _, _, _, hL, _⟩ | ⟨_, h⟩
    · rw [tkV_yes hB, hL, List.length_set]; have := goodA_len hg; omega
    · rw [hB] at h; cases h
theorem ptV_small (xs : List Page) (id z : Int) : (ptV xs id z).length ≤ 12 ∧ sumI (ptV xs id z) ≤ 96 := by
  cases hB : ptB xs id z with
  | false => rw [ptV_no hB]; simp [sumI]
  | true => rw [ptV_yes hB]; exact ⟨goodA_len (ptB_good hB), goodA_sum (ptB_good hB)⟩
set_option maxRecDepth 100000 in
set_option maxHeartbeats 1600000 in
theorem lawFnAlbums_c (bs : List Int) (A : Option Addr) (c : Nat) (w : World) (hr : Rd encY 1 w.heap.size w A bs) (hm : bs.length ≤ 9223372036854775807) (hc : bs.length ≤ c) (hb : ∀ b ∈ bs, ByteI b) :
    Calls Try.prog 4 #[.slice A bs.length c] w (Ret (.bool true) w) := by
  have HB := Lib.hid hb
  clear hb
  by_cases hbig : 65536 < bs.length
  · have hd : decide (65536 < bs.length) = true := decide_eq_true hbig
    go_enter Try.func4, Try.ntmps4
    go_wp2_with (go_at_call 12; refine (rBig_c _ _ _ _).mono ?_; rw [hd]; rintro e w' ⟨rfl, rfl⟩)
    go_returns
    exact ⟨rfl, Below.refl _ _⟩
  have hd : decide (65536 < bs.length) = false := decide_eq_false hbig
  have hn : bs.length ≤ 65536 := by omega
  clear hbig
  go_enter Try.func4, Try.ntmps4
  go_wp2_with (go_at_call 12; refine (rBig_c _ _ _ _).mono ?_; rw [hd]; rintro e w' ⟨rfl, rfl⟩)
  clear hd
  refine (dPutItem_c bs _ _ _ hr hn hc HB.out).mono ?_
  rintro e w1 ⟨B1, c1, xs, id, it, rfl, hcap, hl, hok, hid, hit, hr1, hx⟩
  have hsum : sumI xs ≤ 1048576 := by have := sum_okP hok; omega
  have HW1 := Lib.hid (hw_okP hok)
  have HP := Lib.hid (fun (v : World) (h : RdP v.heap.size v B1 xs) => implPutItemC_c xs B1 c1 id it v h hcap (by omega) hsum HW1.out (by omega) (by omega))
  have HQ := Lib.hid (fun (v : World) (h : RdP v.heap.size v B1 xs) => specPutItem_c xs B1 c1 id it v h hcap (by omega) hsum HW1.out (by omega) (by omega))
  have HI1 := Lib.hid (fun (v : World) (h : RdP v.heap.size v B1 xs) => implIsAlbum_c xs B1 c1 v h hcap (by omega) hsum HW1.out)
  have HI2 := Lib.hid (fun (v : World) (h : RdP v.heap.size v B1 xs) => specIsAlbum_c xs B1 c1 v h hcap (by omega) hsum HW1.out)
  obtain ⟨hL1, hL2⟩ := ptV_small xs id it
  have HWL := Lib.hid (ptV_hw (id := id) hok hit)
  have HPL := Lib.hid (fun (h : ptB xs id it = true) => (ptV_yes h).symm ▸ put_law h)
  have HPP := Lib.hid (fun (h : ptB xs id it = true) (i : Nat) (hi : i < xs.length) => (ptV_yes h).symm ▸ put_part h hi)
  have HOK := Lib.hid (fun (i : Nat) (hi : i < xs.length) => (hok _ (List.getElem_mem hi)).1)
  clear hok
  generalize ptV xs id it = L at *
  generalize ptB xs id it = pb at *
  generalize goodA xs = gx at *
  go_wp2_with fail
  refine (HP.out _ hr1).mono ?_
  rintro e w2 ⟨P1, p1, rfl, hbn, hq1o, hcp⟩
  replace hx := below_step hx hbn
  replace hr1 := hr1.go hbn
  have hq1 := hq1o.rd
  clear hbn hq1o
  go_wp2_with fail
  refine (HQ.out _ hr1).mono ?_
  rintro e w3 ⟨P2, p2, rfl, hbn, hq2o⟩
  replace hx := below_step hx hbn
  replace hr1 := hr1.go hbn
  replace hq1 := hq1.go hbn
  have hq2 := hq2o.rd
  clear hbn hq2o
  clear HP HQ
  go_wp2_with fail
  refine (rAlbum_c L P1 P2 p1 p2 _ hq1 hq2 (by omega) (by omega)).mono ?_
  rintro e w4 ⟨rfl, hbn⟩
  replace hx := below_step hx hbn
  replace hr1 := hr1.go hbn
  replace hq1 := hq1.go hbn
  replace hq2 := hq2.go hbn
  clear hbn hq2
  go_upto_if 69 with fail
  go_cut [10, 11, 12, 13, 14] (fun _ _ _ _ _ wx => Below w4.heap.size w4 wx)
  case first => as_aux_lemma =>
    cases pb
    · go_wp2_with fail
      go_meet
      exact Below.refl _ _
    obtain ⟨g1, g2, g3, g4, g5⟩ := HPL.out rfl
    have HPA := Lib.hid (HPP.out rfl)
    clear HPL HPP
    have HA := Lib.hid (fun (v : World) (h : RdP v.heap.size v P1 L) => implPageWith_c L P1 p1 it v h hcp (by omega) (by omega) HWL.out (by omega))
    have HT := Lib.hid (fun (v : World) (h : RdP v.heap.size v P1 L) => implTakeItem_c L P1 p1 it v h hcp (by omega) (by omega) HWL.out (by omega))
    have HO := Lib.hid (fun (z : Int) (hz : -9223372036854775808 ≤ z ∧ z ≤ 9223372036854775807) (v : World) (h : RdP v.heap.size v P1 L) => implPartOf_c L P1 p1 z v h hcp (by omega) (by omega) HWL.out hz)
    have HU := Lib.hid (fun (z : Int) (hz : -9223372036854775808 ≤ z ∧ z ≤ 9223372036854775807) (v : World) (h : RdP v.heap.size v P1 L) => implItemsUnder_c L P1 p1 z v h hcp (by omega) (by omega) HWL.out hz)
    rw [g1, g2] at HA
    rw [g3, g4, g5] at HT
    clear g1 g2 g3 g4 g5 HWL
    have hy : Below w4.heap.size w4 w4 := Below.refl _ _
    go_wp2_with fail
    refine (HA.out _ hq1).mono ?_
    rintro e w5 ⟨rfl, hbn⟩
    replace hy := below_step hy hbn
    replace hr1 := hr1.go hbn
    replace hq1 := hq1.go hbn
    clear hbn HA
    go_wp2_with fail
    refine (HT.out _ hq1).mono ?_
    rintro e w6 ⟨P3, p3, rfl, hbn, hq3o⟩
    replace hy := below_step hy hbn
    replace hr1 := hr1.go hbn
    replace hq1 := hq1.go hbn
    have hq3 := hq3o.rd
    clear hbn hq3o
    clear HT
    go_wp2_with fail
    refine (rAlbum_c xs P3 B1 p3 c1 _ hq3 hr1 (by omega) (by omega)).mono ?_
    rintro e w7 ⟨rfl, hbn⟩
    replace hy := below_step hy hbn
    replace hr1 := hr1.go hbn
    replace hq1 := hq1.go hbn
    replace hq3 := hq3.go hbn
    clear hbn hq3
    go_wp2_with fail
    go_loopw [15] (fun i wr => ∃ k : Nat, k ≤ xs.length ∧ i = .int .i64 k ∧ Below w7.heap.size w7 wr) (fun i _ => xs.length - (intOf i).toNat)
    case atStart => exact ⟨0, Nat.zero_le _, rfl, Below.refl _ _⟩
    case round => as_aux_lemma =>
      obtain ⟨k, hk, rfl, hbr⟩ := hrel
      have hbl := hbr
      replace hr1 := hr1.go hbr
      replace hq1 := hq1.go hbr
      clear hbr
      by_cases hlt : k < xs.length
      · obtain ⟨a1, a2⟩ := HPA.out k hlt
        obtain ⟨b, off, Ai, ci, rfl, hbs, d0, _, _, _, _, _⟩ := hr1.page hlt
        have hz0 := HOK.out k hlt
        have HOk := Lib.hid (HO.out xs[k].id (by omega))
        have HUk := Lib.hid (HU.out xs[k].id (by omega))
        have hpl1 := paV_len L xs[k].id
        have hpl2 := iuV_len (xs := L) xs[k].id
        have hk0 : (0 : Int) ≤ (k : Int) := by omega
        have hk1 : (k : Int) < (xs.length : Int) := by omega
        rw [a1] at HOk HUk
        have HEQ := Lib.hid a2
        clear HPA HO HU a1 a2
        generalize paV L xs[k].id = PA at *
        generalize iuV L xs[k].id = IU at *
        generalize xs[k].id = zk at *
        go_wp2_with fail
        refine (HOk.out _ hq1).mono ?_
        rintro e v2 ⟨R1, r1, rfl, hbn, hu1o⟩
        have hu1 := hu1o.rd
        replace hbl := hbl.trans (hbn.mono hbl.size)
        replace d0 := (hbn.cell (p := ⟨b, _, none⟩) hbs).trans d0
        have hbs2 : b < v2.heap.size := Nat.lt_of_lt_of_le hbs hbn.size
        replace hq1 := hq1.go hbn
        clear hu1o hbn HOk
        go_wp2_with fail
        refine (HUk.out _ hq1).mono ?_
        rintro e v3 ⟨R2, r2, rfl, hbn, hu2o⟩
        have hu2 := hu2o.rd
        replace hbl := hbl.trans (hbn.mono hbl.size)
        replace hu1 := hu1.go hbn
        clear hu2o hbn HUk d0 hbs hbs2 hq1
        have HH1 := Lib.hid (fun (v : World) (h : Rd encI 1 v.heap.size v R1 PA) => rHas_c PA R1 r1 id v h hpl1)
        have HH2 := Lib.hid (fun (v : World) (h : Rd encI 1 v.heap.size v R2 IU) => rHas_c IU R2 r2 it v h hpl2)
        rw [HEQ.out] at HH1
        generalize decide (it ∈ IU) = bv at *
        obtain ⟨tok, _⟩ : ∃ t : Nat, True := ⟨0, trivial⟩
        go_wp2_with fail
        refine (HH1.out _ hu1).mono ?_
        rintro e v4 ⟨rfl, hbn⟩
        replace hbl := hbl.trans (hbn.mono hbl.size)
        replace hu2 := hu2.go hbn
        clear hbn HH1
        go_wp2_with fail
        refine (HH2.out _ hu2).mono ?_
        rintro e v5 ⟨rfl, hbn⟩
        replace hbl := hbl.trans (hbn.mono hbl.size)
        clear hbn HH2
        have hbb : (bv != bv) = false := by simp
        go_wp2_with fail
        go_roundw
        case rel => exact ⟨k + 1, by omega, by go_num, hbl⟩
        case measure => simp [intOf]; omega
      · obtain rfl : k = xs.length := by omega
        go_wp2_with fail
        go_meet
        exact hy.trans (hbl.mono hy.size)
  case rest => as_aux_lemma =>
    have hcut : Below w4.heap.size w4 wc := hcut
    clear HPL HPP HOK HWL
    clear hq1
    replace hx := below_step hx hcut
    replace hr1 := hr1.go hcut
    clear hcut
    go_wp2_with fail
    refine (dTakeItem_c bs _ _ _ (hr.go hx) hn hc HB.out).mono ?_
    rintro e w20 ⟨B2, c2, ys, i2, rfl, hcap2, hl2, hok2, hi2, hr2, hbn⟩
    replace hx := below_step hx hbn
    replace hr1 := hr1.go hbn
    clear hbn
    have hsum2 : sumI ys ≤ 1048576 := by have := sum_okP hok2; omega
    have HW2 := Lib.hid (hw_okP hok2)
    have HP := Lib.hid (fun (v : World) (h : RdP v.heap.size v B2 ys) => implTakeItem_c ys B2 c2 i2 v h hcap2 (by omega) hsum2 HW2.out (by omega))
    have HQ := Lib.hid (fun (v : World) (h : RdP v.heap.size v B2 ys) => specTakeItem_c ys B2 c2 i2 v h hcap2 (by omega) hsum2 HW2.out (by omega))
    have hk1 : (tkV ys i2).length ≤ 1048576 ∧ sumI (tkV ys i2) ≤ 2097152 := ⟨tkV_small ys i2, tkV_sum ys i2⟩
    obtain ⟨hk1, hk2⟩ := hk1
    clear hok2
    generalize tkV ys i2 = K at *
    generalize tkN ys i2 = kn at *
    generalize tkB ys i2 = kb at *
    go_wp2_with fail
    refine (HP.out _ hr2).mono ?_
    rintro e w21 ⟨P4, p4, rfl, hbn, hq4o⟩
    replace hx := below_step hx hbn
    replace hr1 := hr1.go hbn
    replace hr2 := hr2.go hbn
    have hq4 := hq4o.rd
    clear hbn hq4o
    go_wp2_with fail
    refine (HQ.out _ hr2).mono ?_
    rintro e w22 ⟨P5, p5, rfl, hbn, hq5o⟩
    replace hx := below_step hx hbn
    replace hr1 := hr1.go hbn
    replace hr2 := hr2.go hbn
    replace hq4 := hq4.go hbn
    have hq5 := hq5o.rd
    clear hbn hq5o
    clear HP HQ
    go_wp2_with fail
    refine (rAlbum_c K P4 P5 p4 p5 _ hq4 hq5 hk1 hk2).mono ?_
    rintro e w23 ⟨rfl, hbn⟩
    replace hx := below_step hx hbn
    replace hr1 := hr1.go hbn
    replace hr2 := hr2.go hbn
    replace hq4 := hq4.go hbn
    replace hq5 := hq5.go hbn
    clear hbn hq4 hq5 hr2
    clear hk1 hk2 hsum2 HW2 hcap2
    go_wp2_with fail
    refine (dPartOf_c bs _ _ _ (hr.go hx) hn hc HB.out).mono ?_
    rintro e w24 ⟨B3, c3, zs, i3, rfl, hcap3, hl3, hok3, hi3, hr3, hbn⟩
    replace hx := below_step hx hbn
    replace hr1 := hr1.go hbn
    clear hbn
    have hsum3 : sumI zs ≤ 1048576 := by have := sum_okP hok3; omega
    have HW3 := Lib.hid (hw_okP hok3)
    have HP := Lib.hid (fun (v : World) (h : RdP v.heap.size v B3 zs) => implPartOf_c zs B3 c3 i3 v h hcap3 (by omega) hsum3 HW3.out (by omega))
    have HQ := Lib.hid (fun (v : World) (h : RdP v.heap.size v B3 zs) => specPartOf_c zs B3 c3 i3 v h hcap3 (by omega) hsum3 HW3.out (by omega))
    have HU1 := Lib.hid (fun (v : World) (h : RdP v.heap.size v B3 zs) => implItemsUnder_c zs B3 c3 i3 v h hcap3 (by omega) hsum3 HW3.out (by omega))
    have HU2 := Lib.hid (fun (v : World) (h : RdP v.heap.size v B3 zs) => specItemsUnder_c zs B3 c3 i3 v h hcap3 (by omega) hsum3 HW3.out (by omega))
    have hp1 := paV_len zs i3
    have hp2 := iuV_len (xs := zs) i3
    clear hok3
    generalize paV zs i3 = PA at *
    generalize iuV zs i3 = IU at *
    generalize lvB zs i3 = lb at *
    go_wp2_with fail
    refine (HP.out _ hr3).mono ?_
    rintro e w25 ⟨P6, p6, rfl, hbn, hq6o⟩
    replace hx := below_step hx hbn
    replace hr1 := hr1.go hbn
    replace hr3 := hr3.go hbn
    have hq6 := hq6o.rd
    clear hbn hq6o
    go_wp2_with fail
    refine (HQ.out _ hr3).mono ?_
    rintro e w26 ⟨P7, p7, rfl, hbn, hq7o⟩
    replace hx := below_step hx hbn
    replace hr1 := hr1.go hbn
    replace hr3 := hr3.go hbn
    replace hq6 := hq6.go hbn
    have hq7 := hq7o.rd
    clear hbn hq7o
    clear HP HQ
    go_wp2_with fail
    refine (rInts_c PA P6 P7 p6 p7 _ hq6 hq7 hp1).mono ?_
    rintro e w27 ⟨rfl, hbn⟩
    replace hx := below_step hx hbn
    replace hr1 := hr1.go hbn
    replace hr3 := hr3.go hbn
    replace hq6 := hq6.go hbn
    replace hq7 := hq7.go hbn
    clear hbn hq6 hq7
    go_wp2_with fail
    refine (HU1.out _ hr3).mono ?_
    rintro e w28 ⟨P8, p8, rfl, hbn, hq8o⟩
    replace hx := below_step hx hbn
    replace hr1 := hr1.go hbn
    replace hr3 := hr3.go hbn
    have hq8 := hq8o.rd
    clear hbn hq8o
    go_wp2_with fail
    refine (HU2.out _ hr3).mono ?_
    rintro e w29 ⟨P9, p9, rfl, hbn, hq9o⟩
    replace hx := below_step hx hbn
    replace hr1 := hr1.go hbn
    replace hr3 := hr3.go hbn
    replace hq8 := hq8.go hbn
    have hq9 := hq9o.rd
    clear hbn hq9o
    clear HU1 HU2
    go_wp2_with fail
    refine (rInts_c IU P8 P9 p8 p9 _ hq8 hq9 hp2).mono ?_
    rintro e w30 ⟨rfl, hbn⟩
    replace hx := below_step hx hbn
    replace hr1 := hr1.go hbn
    replace hr3 := hr3.go hbn
    replace hq8 := hq8.go hbn
    replace hq9 := hq9.go hbn
    clear hbn hq8 hq9 hr3
    go_wp2_with fail
    refine (HI1.out _ hr1).mono ?_
    rintro e w31 ⟨rfl, hbn⟩
    replace hx := below_step hx hbn
    replace hr1 := hr1.go hbn
    clear hbn HI1
    go_wp2_with fail
    refine (HI2.out _ hr1).mono ?_
    rintro e w32 ⟨rfl, hbn⟩
    replace hx := below_step hx hbn
    replace hr1 := hr1.go hbn
    clear hbn HI2
    go_wp2_with fail
    go_returns
    exact ⟨ret_bool (by simp), hx⟩
end Go.Proofs.Ythhdajmnidjhjaa
