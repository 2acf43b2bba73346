/- The walk of the law FnLeaves. No condition but that the code is one that can be, and that the table of powers lies as it is listed. -/
import Derived.Test.YtpjnlcppjcnlgaaGreatDoorAlDrawV
import Derived.Test.YtpjnlcppjcnlgaaGreatDoorAlAdd
import Derived.Test.YtpjnlcppjcnlgaaGreatDoorAlSmallV
import Derived.Test.YtpjnlcppjcnlgaaGreatDoorAlMgC
import Derived.Test.YtpjnlcppjcnlgaaGreatDoorAlMgS
import Derived.Test.YtpjnlcppjcnlgaaGreatDoorAlMov
import Derived.Test.YtpjnlcppjcnlgaaGreatDoorAlTop
import Derived.Test.YtpjnlcppjcnlgaaGreatDoorTxNum
import Derived.Deep.DeepCutAuto
import Derived.Deep.RegionHeld3
namespace Go.Proofs.YtpjnlcppjcnlgaaGreatDoor
set_option linter.unusedVariables false
set_option linter.unusedSimpArgs false
open Go.RowKit
attribute [local irreducible] wpQuiet
theorem ifA_small {ps : List Page} {b : Bool} (h : b = true → goodA ps = true) : (ifA ps b).length ≤ 12 ∧ sumI (ifA ps b) ≤ 96 := by
  unfold ifA; split
  · rename_i hb; exact ⟨goodA_len (h hb), goodA_sum (h hb)⟩
  · simp [sumI]
theorem apV_small (xs : List Page) (t : ByteArray) (u : Int) : (apV xs t u).length ≤ 12 ∧ sumI (apV xs t u) ≤ 96 := ifA_small apB_good
theorem mgV_small (xs : List Page) (a b : Int) : (mgV xs a b).length ≤ 12 ∧ sumI (mgV xs a b) ≤ 96 := ifA_small mgB_good
theorem mvV_small (xs : List Page) (a b : Int) : (mvV xs a b).length ≤ 12 ∧ sumI (mvV xs a b) ≤ 96 := ifA_small mvB_good
theorem apV_hw {xs : List Page} {t : ByteArray} {u : Int} (hok : ∀ x ∈ xs, OkP x) (ht : t.size ≤ 10) : ∀ x ∈ apV xs t u, x.title.size ≤ 9223372036854775807 ∧ x.items.length ≤ 9223372036854775807 ∧ ∀ y ∈ x.items, Fits y := by
  unfold apV ifA; split
  · intro x hx
    unfold apL at hx
    rcases List.mem_append.1 hx with h | h
    · exact hw_okP hok x h
    · simp at h; subst h
      exact ⟨show t.size ≤ _ by omega, Nat.zero_le _, fun y hy => by cases hy⟩
  · simp
theorem apN_bd {xs : List Page} {t : ByteArray} {u : Int} (hok : ∀ x ∈ xs, OkP x) : 0 ≤ apN xs t u ∧ apN xs t u ≤ 101 := by
  unfold apN; split
  · rcases Nat.eq_zero_or_pos xs.length with h | h
    · rw [apId_0 h]; omega
    · rw [apId_s h]
      have := (hok _ (List.getElem_mem (show xs.length - 1 < xs.length by omega))).1
      omega
  · omega
theorem mgV_hw {xs : List Page} {a b : Int} (hok : ∀ x ∈ xs, OkP x) : ∀ x ∈ mgV xs a b, x.title.size ≤ 9223372036854775807 ∧ x.items.length ≤ 9223372036854775807 ∧ ∀ y ∈ x.items, Fits y := by
  cases hB : mgB xs a b with
  | false => rw [mgV_no hB]; simp
  | true =>
    have h' := hB
    simp only [mgB, Bool.and_eq_true] at h'
    obtain ⟨⟨⟨h1, h2⟩, _⟩, _⟩ := h'
    have hg : goodA xs = true := by unfold lvB at h1; exact (Bool.and_eq_true _ _ ▸ h1).1
    rcases lv_of xs a hg with ⟨i, hi, e1, f1, _, _⟩ | ⟨_, hb, _⟩
    · rcases lv_of xs b hg with ⟨k, hk, e2, f2, _, _⟩ | ⟨_, hb, _⟩
      · rw [mgV_yes hB, mgL_at e1 e2]
        exact (mgW_hw hg hi hk (hw_okP hok)).1
      · rw [h2] at hb; cases hb
    · rw [h1] at hb; cases hb
theorem lvV_bd (xs : List Page) (z : Int) : 0 ≤ lvV xs z ∧ lvV xs z ≤ 1000 := by
  unfold lvV; split
  · rename_i h
    have hg : goodA xs = true := by unfold lvB at h; exact (Bool.and_eq_true _ _ ▸ h).1
    have h1 := goodA_len hg
    have h2 := levF_le xs xs.length z
    unfold levA
    omega
  · omega
set_option maxRecDepth 100000 in
set_option maxHeartbeats 3200000 in
theorem lawFnLeaves_c (bs : List Int) (A : Option Addr) (c : Nat) (w : World) (hr : Rd encY 1 w.heap.size w A bs) (hm : bs.length ≤ 9223372036854775807) (hc : bs.length ≤ c) (hb : ∀ b ∈ bs, ByteI b) (ht : Pow w) :
    Calls Tryz.prog 3 #[.slice A bs.length c] w (Ret (.bool true) w) := by
  have HB := Lib.hid hb
  have HT := Lib.hid ht
  clear hb ht
  by_cases hbig : 65536 < bs.length
  · have hd : decide (65536 < bs.length) = true := decide_eq_true hbig
    go_enter Tryz.func3, Tryz.ntmps3
    go_wp2_with (go_at_call 4; refine (rBig_c _ _ _ _).mono ?_; rw [hd]; rintro e w' ⟨rfl, rfl⟩)
    go_returns
    exact ⟨rfl, Below.refl _ _⟩
  have hd : decide (65536 < bs.length) = false := decide_eq_false hbig
  have hn : bs.length ≤ 65536 := by omega
  clear hbig
  go_enter Tryz.func3, Tryz.ntmps3
  go_wp2_with (go_at_call 4; refine (rBig_c _ _ _ _).mono ?_; rw [hd]; rintro e w' ⟨rfl, rfl⟩)
  clear hd
  refine (dAddPage_c bs _ _ _ hr hn hc HB.out).mono ?_
  rintro e w1 ⟨B1, c1, xs, t, u, rfl, hcap, hl, hok, htl, hul, hr1, hx⟩
  have hsum : sumI xs ≤ 1048576 := by have := sum_okP hok; omega
  have HW1 := Lib.hid (hw_okP hok)
  have HP := Lib.hid (fun (v : World) (h : RdP v.heap.size v B1 xs) => implAddPageC_c xs B1 c1 t u v h hcap (by omega) hsum HW1.out (by omega) (by omega))
  have HQ := Lib.hid (fun (v : World) (h : RdP v.heap.size v B1 xs) => specAddPage_c xs B1 c1 t u v h hcap (by omega) hsum HW1.out (by omega) (by omega))
  obtain ⟨hL1, hL2⟩ := apV_small xs t u
  have HWL := Lib.hid (apV_hw (u := u) hok htl)
  have hnb := apN_bd (t := t) (u := u) hok
  have HPL := Lib.hid (fun (h : apB xs t u = true) => add_law h)
  clear hok
  generalize apV xs t u = L at *
  generalize apN xs t u = nn at *
  generalize apB xs t u = pb at *
  go_wp2_with fail
  refine (HP.out _ hr1).mono ?_
  rintro e w2 ⟨P1, p1, rfl, hbn, hq1o, hcp⟩
  replace hx := below_step hx hbn
  replace hr1 := hr1.go hbn
  have hq1 := hq1o.rd
  clear hbn hq1o
  go_wp2_with fail
  refine (HQ.out _ hr1).mono ?_
  rintro e w3 ⟨P2, p2, rfl, hbn, hq2o⟩
  replace hx := below_step hx hbn
  replace hr1 := hr1.go hbn
  replace hq1 := hq1.go hbn
  have hq2 := hq2o.rd
  clear hbn hq2o
  clear HP HQ
  go_wp2_with fail
  refine (rAlbum_c L P1 P2 p1 p2 _ hq1 hq2 (by omega) (by omega)).mono ?_
  rintro e w4 ⟨rfl, hbn⟩
  replace hx := below_step hx hbn
  replace hr1 := hr1.go hbn
  replace hq1 := hq1.go hbn
  replace hq2 := hq2.go hbn
  clear hbn hq2 hr1
  clear hsum HW1 hcap
  go_upto_if 90 with fail
  go_cut [12, 13, 14, 15] (fun _ _ _ _ wx => Below w4.heap.size w4 wx)
  case first => as_aux_lemma =>
    cases pb
    · go_wp2_with fail
      go_meet
      exact Below.refl _ _
    obtain ⟨g1, g2, g3⟩ := HPL.out rfl
    have HA := Lib.hid (fun (v : World) (h : RdP v.heap.size v P1 L) => implLevelOf_c L P1 p1 nn v h hcp (by omega) (by omega) HWL.out (by omega))
    have HU := Lib.hid (fun (v : World) (h : RdP v.heap.size v P1 L) => implLevelOf_c L P1 p1 u v h hcp (by omega) (by omega) HWL.out (by omega))
    have hvb := lvV_bd L u
    rw [g1] at HA
    clear HPL HWL g1
    have hy : Below w4.heap.size w4 w4 := Below.refl _ _
    by_cases hu0 : u = 0
    · have g4 := g2 hu0
      clear g2 g3
      rw [g4] at HA
      clear g4
      generalize lvV L u = lu at *
      generalize lvB L u = bu at *
      subst hu0
      go_wp2_with fail
      refine (HA.out _ hq1).mono ?_
      rintro e v2 ⟨rfl, hbn⟩
      replace hq1 := hq1.go hbn
      replace hy := hy.trans (hbn.mono hy.size)
      clear hbn HA
      go_wp2_with fail
      refine (HU.out _ hq1).mono ?_
      rintro e v3 ⟨rfl, hbn⟩
      replace hy := hy.trans (hbn.mono hy.size)
      clear hbn HU
      go_wp2_with fail
      go_meet
      exact hy
    · obtain ⟨g4, g5⟩ := g3 hu0
      clear g2 g3
      rw [g5] at HA
      rw [g4] at HU
      clear g4 g5
      have hu1 : (u == 0) = false := by simpa using hu0
      have hu2 : (u != 0) = true := by simpa using hu0
      clear hu0
      generalize lvV L u = lu at *
      have hl1 : IntKind.i64.wrap (lu + 1) = lu + 1 := by rw [IntKind.wrap_i64]; omega
      go_wp2_with fail
      refine (HA.out _ hq1).mono ?_
      rintro e v2 ⟨rfl, hbn⟩
      replace hq1 := hq1.go hbn
      replace hy := hy.trans (hbn.mono hy.size)
      clear hbn HA
      go_wp2_with fail
      refine (HU.out _ hq1).mono ?_
      rintro e v3 ⟨rfl, hbn⟩
      replace hy := hy.trans (hbn.mono hy.size)
      clear hbn HU
      go_wp2_with fail
      go_meet
      exact hy
  case rest => as_aux_lemma =>
    have hcut : Below w4.heap.size w4 wc := hcut
    clear HPL HWL hL1 hL2 hcp hnb
    clear hq1
    replace hx := below_step hx hcut
    clear hcut
    go_wp2_with fail
    refine (dMergePages_c bs _ _ _ (hr.go hx) hn hc HB.out).mono ?_
    rintro e w20 ⟨B2, c2, ys, ia, ib, rfl, hcap2, hl2, hok2, hia, hib, hr2, hbn⟩
    replace hx := below_step hx hbn
    clear hbn
    have hsum2 : sumI ys ≤ 1048576 := by have := sum_okP hok2; omega
    have HW2 := Lib.hid (hw_okP hok2)
    have HP := Lib.hid (fun (v : World) (h : RdP v.heap.size v B2 ys) => implMergePagesC_c ys B2 c2 ia ib v h hcap2 (by omega) hsum2 HW2.out (by omega) (by omega))
    have HQ := Lib.hid (fun (v : World) (h : RdP v.heap.size v B2 ys) => specMergePages_c ys B2 c2 ia ib v h hcap2 (by omega) hsum2 HW2.out (by omega) (by omega))
    have HC1 := Lib.hid (fun (v : World) (h : RdP v.heap.size v B2 ys) => implLevelCounts_c ys B2 c2 v h hcap2 (by omega) hsum2 HW2.out)
    have HC2 := Lib.hid (fun (v : World) (h : RdP v.heap.size v B2 ys) => specLevelCounts_c ys B2 c2 v h hcap2 (by omega) hsum2 HW2.out)
    have HX1 := Lib.hid (fun (v : World) (h : RdP v.heap.size v B2 ys) (hp : Pow v) => implAlbumText_c ys B2 c2 v h hcap2 (by omega) hsum2 HW2.out hp)
    have HX2 := Lib.hid (fun (v : World) (h : RdP v.heap.size v B2 ys) => specAlbumText_c ys B2 c2 v h hcap2 (by omega) hsum2 HW2.out)
    obtain ⟨hK1, hK2⟩ := mgV_small ys ia ib
    have HWK := Lib.hid (mgV_hw (a := ia) (b := ib) hok2)
    have HML := Lib.hid (fun (h : mgB ys ia ib = true) => merge_law h)
    have hly := lcV_bd ys
    have HLY := Lib.hid hly.2
    have hly := hly.1
    clear hok2
    generalize mgV ys ia ib = K at *
    generalize mgB ys ia ib = mb at *
    generalize goodA ys = gy at *
    go_wp2_with fail
    refine (HP.out _ hr2).mono ?_
    rintro e w21 ⟨P3, p3, rfl, hbn, hq3o, hcp3⟩
    replace hx := below_step hx hbn
    replace hr2 := hr2.go hbn
    have hq3 := hq3o.rd
    clear hbn hq3o
    go_wp2_with fail
    refine (HQ.out _ hr2).mono ?_
    rintro e w22 ⟨P4, p4, rfl, hbn, hq4o⟩
    replace hx := below_step hx hbn
    replace hr2 := hr2.go hbn
    replace hq3 := hq3.go hbn
    have hq4 := hq4o.rd
    clear hbn hq4o
    clear HP HQ
    go_wp2_with fail
    refine (rAlbum_c K P3 P4 p3 p4 _ hq3 hq4 (by omega) (by omega)).mono ?_
    rintro e w23 ⟨rfl, hbn⟩
    replace hx := below_step hx hbn
    replace hr2 := hr2.go hbn
    replace hq3 := hq3.go hbn
    replace hq4 := hq4.go hbn
    clear hbn hq4
    go_wp2_with fail
    refine (HC1.out _ hr2).mono ?_
    rintro e w24 ⟨P5, p5, rfl, hbn, hq5o⟩
    replace hx := below_step hx hbn
    replace hr2 := hr2.go hbn
    replace hq3 := hq3.go hbn
    have hq5 := hq5o.rd
    clear hbn hq5o
    go_wp2_with fail
    refine (HC2.out _ hr2).mono ?_
    rintro e w25 ⟨P6, p6, rfl, hbn, hq6o⟩
    replace hx := below_step hx hbn
    replace hr2 := hr2.go hbn
    replace hq3 := hq3.go hbn
    replace hq5 := hq5.go hbn
    have hq6 := hq6o.rd
    clear hbn hq6o
    clear HC1 HC2
    go_wp2_with fail
    refine (rInts_c (lcV ys) P5 P6 p5 p6 _ hq5 hq6 (by omega)).mono ?_
    rintro e w26 ⟨rfl, hbn⟩
    replace hx := below_step hx hbn
    replace hr2 := hr2.go hbn
    replace hq3 := hq3.go hbn
    replace hq5 := hq5.go hbn
    replace hq6 := hq6.go hbn
    clear hbn hq6
    go_upto_if 175 with fail
    go_cut [27, 28] (fun _ _ wx => Below w26.heap.size w26 wx)
    case first => as_aux_lemma =>
      cases mb
      · go_wp2_with fail
        go_meet
        exact Below.refl _ _
      obtain ⟨g1, g2, g3, g4⟩ := HML.out rfl
      have HA := Lib.hid (fun (v : World) (h : RdP v.heap.size v P3 K) => implLevelCounts_c K P3 p3 v h hcp3 (by omega) (by omega) HWK.out)
      rw [g2] at HA
      have hlk := lcV_bd K
      have hlk1 := hlk.1
      have HR1 := Lib.hid (fun (R : Option Addr) (q : Nat) (v : World) (h : Rd encI 1 v.heap.size v R (lcV K)) => rSum_c (lcV K) R q v h hlk1 hlk.2)
      have HR2 := Lib.hid (fun (v : World) (h : Rd encI 1 v.heap.size v P5 (lcV ys)) => rSum_c (lcV ys) P5 p5 v h hly HLY.out)
      rw [g4] at HR1
      clear HML HWK hlk g2 g4 HX1 HX2
      have hsub : IntKind.i64.wrap ((ys.length : Int) - 1) = (K.length : Int) := by rw [IntKind.wrap_i64]; omega
      have hsub2 : ((K.length : Int) != (ys.length : Int) - 1) = false := by simp; omega
      clear g3
      subst g1
      have hy : Below w26.heap.size w26 w26 := Below.refl _ _
      generalize (lcV ys).sum = sm at *
      generalize lcV K = LK at *
      generalize lcV ys = LY at *
      go_wp2_with fail
      refine (HA.out _ hq3).mono ?_
      rintro e v2 ⟨R1, r1, rfl, hbn, hu1o⟩
      have hu1 := hu1o.rd
      replace hy := hy.trans (hbn.mono hy.size)
      replace hq5 := hq5.go hbn
      clear hu1o hbn HA
      go_wp2_with fail
      refine (HR1.out _ _ _ hu1).mono ?_
      rintro e v3 ⟨rfl, hbn⟩
      replace hy := hy.trans (hbn.mono hy.size)
      replace hq5 := hq5.go hbn
      clear hbn HR1
      go_wp2_with fail
      refine (HR2.out _ hq5).mono ?_
      rintro e v4 ⟨rfl, hbn⟩
      replace hy := hy.trans (hbn.mono hy.size)
      clear hbn HR2
      have hbb : (sm != sm) = false := by simp
      go_wp2_with fail
      go_meet
      exact hy
    case rest => as_aux_lemma =>
      have hcut : Below w26.heap.size w26 wc := hcut
      clear HML HWK HLY hly hK1 hK2 hcp3
      clear hq3 hq5
      replace hx := below_step hx hcut
      replace hr2 := hr2.go hcut
      clear hcut
      go_wp2_with fail
      refine (dMovePage_c bs _ _ _ (hr.go hx) hn hc HB.out).mono ?_
      rintro e w40 ⟨B3, c3, zs, i3, u3, rfl, hcap3, hl3, hok3, hi3, hu3, hr3, hbn⟩
      replace hx := below_step hx hbn
      replace hr2 := hr2.go hbn
      clear hbn
      have hsum3 : sumI zs ≤ 1048576 := by have := sum_okP hok3; omega
      have HW3 := Lib.hid (hw_okP hok3)
      have HP := Lib.hid (fun (v : World) (h : RdP v.heap.size v B3 zs) => implMovePage_c zs B3 c3 i3 u3 v h hcap3 (by omega) hsum3 HW3.out (by omega) (by omega))
      have HQ := Lib.hid (fun (v : World) (h : RdP v.heap.size v B3 zs) => specMovePage_c zs B3 c3 i3 u3 v h hcap3 (by omega) hsum3 HW3.out (by omega) (by omega))
      obtain ⟨hM1, hM2⟩ := mvV_small zs i3 u3
      clear hok3
      generalize mvV zs i3 u3 = M at *
      generalize mvB zs i3 u3 = vb at *
      go_wp2_with fail
      refine (HP.out _ hr3).mono ?_
      rintro e w41 ⟨P7, p7, rfl, hbn, hq7o⟩
      replace hx := below_step hx hbn
      replace hr2 := hr2.go hbn
      replace hr3 := hr3.go hbn
      have hq7 := hq7o.rd
      clear hbn hq7o
      go_wp2_with fail
      refine (HQ.out _ hr3).mono ?_
      rintro e w42 ⟨P8, p8, rfl, hbn, hq8o⟩
      replace hx := below_step hx hbn
      replace hr2 := hr2.go hbn
      replace hr3 := hr3.go hbn
      replace hq7 := hq7.go hbn
      have hq8 := hq8o.rd
      clear hbn hq8o
      clear HP HQ
      go_wp2_with fail
      refine (rAlbum_c M P7 P8 p7 p8 _ hq7 hq8 (by omega) (by omega)).mono ?_
      rintro e w43 ⟨rfl, hbn⟩
      replace hx := below_step hx hbn
      replace hr2 := hr2.go hbn
      replace hr3 := hr3.go hbn
      replace hq7 := hq7.go hbn
      replace hq8 := hq8.go hbn
      clear hbn hq7 hq8 hr3
      clear hM1 hM2 hsum3 HW3 hcap3
      go_wp2_with fail
      refine (dLevelOf_c bs _ _ _ (hr.go hx) hn hc HB.out).mono ?_
      rintro e w44 ⟨B4, c4, us, i4, rfl, hcap4, hl4, hok4, hi4, hr4, hbn⟩
      replace hx := below_step hx hbn
      replace hr2 := hr2.go hbn
      clear hbn
      have hsum4 : sumI us ≤ 1048576 := by have := sum_okP hok4; omega
      have HW4 := Lib.hid (hw_okP hok4)
      have HP := Lib.hid (fun (v : World) (h : RdP v.heap.size v B4 us) => implLevelOf_c us B4 c4 i4 v h hcap4 (by omega) hsum4 HW4.out (by omega))
      have HQ := Lib.hid (fun (v : World) (h : RdP v.heap.size v B4 us) => specLevelOf_c us B4 c4 i4 v h hcap4 (by omega) hsum4 HW4.out (by omega))
      clear hok4
      generalize lvV us i4 = lv4 at *
      generalize lvB us i4 = lb4 at *
      go_wp2_with fail
      refine (HP.out _ hr4).mono ?_
      rintro e w45 ⟨rfl, hbn⟩
      replace hx := below_step hx hbn
      replace hr2 := hr2.go hbn
      replace hr4 := hr4.go hbn
      clear hbn
      go_wp2_with fail
      refine (HQ.out _ hr4).mono ?_
      rintro e w46 ⟨rfl, hbn⟩
      replace hx := below_step hx hbn
      replace hr2 := hr2.go hbn
      replace hr4 := hr4.go hbn
      clear hbn hr4
      clear HP HQ HW4 hsum4 hcap4
      go_wp2_with fail
      refine (dPageWith_c bs _ _ _ (hr.go hx) hn hc HB.out).mono ?_
      rintro e w47 ⟨B5, c5, vs, i5, rfl, hcap5, hl5, hok5, hi5, hr5, hbn⟩
      replace hx := below_step hx hbn
      replace hr2 := hr2.go hbn
      clear hbn
      have hsum5 : sumI vs ≤ 1048576 := by have := sum_okP hok5; omega
      have HW5 := Lib.hid (hw_okP hok5)
      have HP := Lib.hid (fun (v : World) (h : RdP v.heap.size v B5 vs) => implPageWith_c vs B5 c5 i5 v h hcap5 (by omega) hsum5 HW5.out (by omega))
      have HQ := Lib.hid (fun (v : World) (h : RdP v.heap.size v B5 vs) => specPageWith_c vs B5 c5 i5 v h hcap5 (by omega) hsum5 HW5.out (by omega))
      clear hok5
      generalize pwV vs i5 = pv5 at *
      generalize pwB vs i5 = pb5 at *
      go_wp2_with fail
      refine (HP.out _ hr5).mono ?_
      rintro e w48 ⟨rfl, hbn⟩
      replace hx := below_step hx hbn
      replace hr2 := hr2.go hbn
      replace hr5 := hr5.go hbn
      clear hbn
      go_wp2_with fail
      refine (HQ.out _ hr5).mono ?_
      rintro e w49 ⟨rfl, hbn⟩
      replace hx := below_step hx hbn
      replace hr2 := hr2.go hbn
      replace hr5 := hr5.go hbn
      clear hbn hr5
      clear HP HQ HW5 hsum5 hcap5
      generalize txV ys = tx at *
      go_wp2_with fail
      refine (HX1.out _ hr2 (HT.out.go hx)).mono ?_
      rintro e w50 ⟨rfl, hbn⟩
      replace hx := below_step hx hbn
      replace hr2 := hr2.go hbn
      clear hbn HX1
      go_wp2_with fail
      refine (HX2.out _ hr2).mono ?_
      rintro e w51 ⟨rfl, hbn⟩
      replace hx := below_step hx hbn
      replace hr2 := hr2.go hbn
      clear hbn HX2
      go_wp2_with fail
      go_returns
      exact ⟨ret_bool (by simp), hx⟩
end Go.Proofs.YtpjnlcppjcnlgaaGreatDoor
