/- The walk of the law FnViews. No condition but that the code is one that can be, and that the table of powers lies as it is listed. -/
import Derived.Test.YtpnkeaeikcobfaaGreatDoorOpDrawV
import Derived.Test.YtpnkeaeikcobfaaGreatDoorOpFnV
import Derived.Test.YtpnkeaeikcobfaaGreatDoorOpSmallV
import Derived.Test.YtpnkeaeikcobfaaGreatDoorOpTop
import Derived.Test.YtpnkeaeikcobfaaGreatDoorOpAgree2
import Derived.Test.YtpnkeaeikcobfaaGreatDoorOpComp
import Derived.Test.YtpnkeaeikcobfaaGreatDoorTxCert
import Derived.Test.YtpnkeaeikcobfaaGreatDoorExImp
import Derived.Test.YtpnkeaeikcobfaaGreatDoorExSp
import Derived.Deep.DeepCutAuto
import Derived.Deep.RegionHeld3
namespace Go.Proofs.YtpnkeaeikcobfaaGreatDoor
set_option linter.unusedVariables false
set_option linter.unusedSimpArgs false
open Go.RowKit
attribute [local irreducible] wpQuiet
theorem hw_O {xs : List Opinion} (h : ∀ x ∈ xs, OkO x) : ∀ x ∈ xs, x.expert.size ≤ 9223372036854775807 := fun x hx => by have := (h x hx).1; omega
set_option maxRecDepth 100000 in
set_option maxHeartbeats 3200000 in
theorem lawFnViews_c (bs : List Int) (A : Option Addr) (c : Nat) (w : World) (hr : Rd encY 1 w.heap.size w A bs) (hm : bs.length ≤ 9223372036854775807) (hc : bs.length ≤ c) (hb : ∀ b ∈ bs, ByteI b) (ht : Pow w) :
    Calls Tryz.prog 3 #[.slice A bs.length c] w (Ret (.bool true) w) := by
  have HB := Lib.hid hb
  have HT := Lib.hid ht
  clear hb ht
  by_cases hbig : 65536 < bs.length
  · have hd : decide (65536 < bs.length) = true := decide_eq_true hbig
    go_enter Tryz.func3, Tryz.ntmps3
    go_wp2_with (go_at_call 4; refine (rBig_c _ _ _ _).mono ?_; rw [hd]; rintro e w' ⟨rfl, rfl⟩)
    go_returns
    exact ⟨rfl, Below.refl _ _⟩
  have hd : decide (65536 < bs.length) = false := decide_eq_false hbig
  have hn : bs.length ≤ 65536 := by omega
  clear hbig
  go_enter Tryz.func3, Tryz.ntmps3
  go_wp2_with (go_at_call 4; refine (rBig_c _ _ _ _).mono ?_; rw [hd]; rintro e w' ⟨rfl, rfl⟩)
  clear hd
  refine (drawViewOf_c bs _ _ _ hr hn hc HB.out).mono ?_
  rintro e w1 ⟨B1, c1, xs, z, d, rfl, hl, hok, hz, hdd, hown, hx⟩
  have hr1 := hown.rd
  clear hown
  have HW1 := Lib.hid (hw_O hok)
  clear hok
  have HP := Lib.hid (fun (v : World) (h : Rd encOpinion 5 v.heap.size v B1 xs) => implViewOf_c xs B1 c1 z d v h (by omega) HW1.out (by omega) (by omega))
  have HQ := Lib.hid (fun (v : World) (h : Rd encOpinion 5 v.heap.size v B1 xs) => specViewOf_c xs B1 c1 z d v h (by omega) HW1.out (by omega) (by omega))
  have HD1 := Lib.hid (fun (v : World) (h : Rd encOpinion 5 v.heap.size v B1 xs) => implDisputedItems_c xs B1 c1 d v h (by omega) HW1.out (by omega))
  have HD2 := Lib.hid (fun (v : World) (h : Rd encOpinion 5 v.heap.size v B1 xs) => specDisputedItems_c xs B1 c1 d v h (by omega) HW1.out (by omega))
  have HS1 := Lib.hid (fun (v : World) (h : Rd encOpinion 5 v.heap.size v B1 xs) => implStanding_c xs B1 c1 z d v h (by omega) HW1.out (by omega) (by omega))
  have HS2 := Lib.hid (fun (v : World) (h : Rd encOpinion 5 v.heap.size v B1 xs) => specStanding_c xs B1 c1 z d v h (by omega) HW1.out (by omega) (by omega))
  have HE1 := Lib.hid (fun (v : World) (h : Rd encOpinion 5 v.heap.size v B1 xs) => implExpertNames_c xs B1 c1 v h (by omega) HW1.out)
  have HE2 := Lib.hid (fun (v : World) (h : Rd encOpinion 5 v.heap.size v B1 xs) => specExpertNames_c xs B1 c1 v h (by omega) HW1.out)
  have HC1 := Lib.hid (fun (v : World) (h : Rd encOpinion 5 v.heap.size v B1 xs) (hp : Pow v) => implCertificateText_c xs B1 c1 z d v h (by omega) HW1.out (by omega) (by omega) hp)
  have HC2 := Lib.hid (fun (v : World) (h : Rd encOpinion 5 v.heap.size v B1 xs) => specCertificateText_c xs B1 c1 z d v h (by omega) HW1.out (by omega) (by omega))
  have HVL := Lib.hid (fun (h : stB xs z d = true) => vw_law h)
  have HAT := Lib.hid (fun (h : stB xs z d = true) (v : Int) (hv : v ∈ stV xs z d) => st_at h v hv)
  have HGD := Lib.hid (fun (h : stB xs z d = true) => st_good h)
  have hdl := dispV_len (xs := xs) (d := d)
  have hsl := stV_len (xs := xs) (z := z) (d := d) (by omega)
  have hel := exV_len (xs := xs)
  generalize vwV xs z d = vv at *
  generalize dispV xs d = DV at *
  generalize stV xs z d = SV at *
  generalize exV xs = EV at *
  generalize ctV xs z d = CT at *
  generalize stB xs z d = sb at *
  generalize dispB xs d = db at *
  go_wp2_with fail
  refine (HP.out _ hr1).mono ?_
  rintro e w2 ⟨rfl, hbn⟩
  replace hx := below_step hx hbn
  replace hr1 := hr1.go hbn
  clear hbn
  go_wp2_with fail
  refine (HQ.out _ hr1).mono ?_
  rintro e w3 ⟨rfl, hbn⟩
  replace hx := below_step hx hbn
  replace hr1 := hr1.go hbn
  clear hbn HP HQ
  go_wp2_with fail
  refine (HD1.out _ hr1).mono ?_
  rintro e w4 ⟨P1, p1, rfl, hbn, hq1o⟩
  replace hx := below_step hx hbn
  replace hr1 := hr1.go hbn
  have hq1 := hq1o.rd
  clear hbn hq1o
  go_wp2_with fail
  refine (HD2.out _ hr1).mono ?_
  rintro e w5 ⟨P2, p2, rfl, hbn, hq2o⟩
  replace hx := below_step hx hbn
  replace hr1 := hr1.go hbn
  replace hq1 := hq1.go hbn
  have hq2 := hq2o.rd
  clear hbn hq2o
  clear HD1 HD2
  go_wp2_with fail
  refine (rInts_c DV P1 P2 p1 p2 _ hq1 hq2 hdl).mono ?_
  rintro e w6 ⟨rfl, hbn⟩
  replace hx := below_step hx hbn
  replace hr1 := hr1.go hbn
  replace hq1 := hq1.go hbn
  replace hq2 := hq2.go hbn
  clear hbn hq2
  go_wp2_with fail
  refine (HS1.out _ hr1).mono ?_
  rintro e w7 ⟨P3, p3, rfl, hbn, hq3o⟩
  replace hx := below_step hx hbn
  replace hr1 := hr1.go hbn
  replace hq1 := hq1.go hbn
  have hq3 := hq3o.rd
  clear hbn hq3o
  go_wp2_with fail
  refine (HS2.out _ hr1).mono ?_
  rintro e w8 ⟨P4, p4, rfl, hbn, hq4o⟩
  replace hx := below_step hx hbn
  replace hr1 := hr1.go hbn
  replace hq1 := hq1.go hbn
  replace hq3 := hq3.go hbn
  have hq4 := hq4o.rd
  clear hbn hq4o
  clear HS1 HS2
  go_wp2_with fail
  refine (rInts_c SV P3 P4 p3 p4 _ hq3 hq4 hsl).mono ?_
  rintro e w9 ⟨rfl, hbn⟩
  replace hx := below_step hx hbn
  replace hr1 := hr1.go hbn
  replace hq1 := hq1.go hbn
  replace hq3 := hq3.go hbn
  replace hq4 := hq4.go hbn
  clear hbn hq4
  go_upto_if 123 with fail
  go_cut [18, 19, 20, 21] (fun _ _ _ _ wx => Below w9.heap.size w9 wx)
  case first => as_aux_lemma =>
    cases sb
    · go_wp2_with fail
      go_meet
      exact Below.refl _ _
    obtain ⟨g1, g2, g3⟩ := HVL.out rfl
    replace HAT := Lib.hid (HAT.out rfl)
    have HG := Lib.hid (HGD.out rfl)
    have HH := Lib.hid (fun (v : World) (h : Rd encI 1 v.heap.size v P1 DV) => rHas_c DV P1 p1 z v h hdl)
    rw [g3] at HH
    have HG2 := Lib.hid g2
    clear HVL HGD g3 g2 HE1 HE2 HC1 HC2
    subst g1
    go_wp2_with fail
    go_loopw [18, 19, 20] (fun a b i wr => ∃ k : Nat, k ≤ SV.length ∧ i = .int .i64 k ∧ (∃ p q : Int, a = .int .i64 p ∧ b = .int .i64 q ∧ Hid (viewN xs (SV.take k) = (p, q))) ∧ Below w9.heap.size w9 wr) (fun _ _ i _ => SV.length - (intOf i).toNat)
    case atStart => exact ⟨0, Nat.zero_le _, rfl, ⟨9, 0, rfl, rfl, Lib.hid rfl⟩, Below.refl _ _⟩
    case round => as_aux_lemma =>
      obtain ⟨k, hk, rfl, ⟨p0, q0, rfl, rfl, HPQ⟩, hbr⟩ := hrel
      replace hr1 := hr1.go hbr
      replace hq1 := hq1.go hbr
      replace hq3 := hq3.go hbr
      by_cases hlt : k < SV.length
      · obtain ⟨m, hm, hv⟩ := HAT.out _ (List.getElem_mem hlt)
        obtain ⟨bS, oS, rfl, hbS, e0⟩ := hq3.int hlt
        obtain ⟨bO, oO, rfl, hbO, d0, d1, d2, d3, d4⟩ := hr1.atOpinion hm
        have HS := Lib.hid (show viewN xs (SV.take (k + 1)) = (min p0 xs[m].says, max q0 xs[m].says) by rw [take_succ_get SV k hlt, viewN_snoc, HPQ.out, hv, saysO_nat hm])
        rw [hv] at e0
        have hk0 : (0 : Int) ≤ (k : Int) := by omega
        have hk1 : (k : Int) < (SV.length : Int) := by omega
        have hm0 : (0 : Int) ≤ (m : Int) := by omega
        have hm1 : (m : Int) < (xs.length : Int) := by omega
        clear HPQ hv d0 d1 d2 d4 HH HG HG2
        generalize xs[m].says = n at *
        by_cases h1 : n < p0
        · have HM1 := Lib.hid (show min p0 n = n by omega)
          by_cases h2 : q0 < n
          · have HN := Lib.hid (show viewN xs (SV.take (k + 1)) = (n, n) by rw [HS.out, HM1.out, show max q0 n = n by omega])
            go_wp2_with fail
            go_roundw
            case rel => exact ⟨k + 1, by omega, by go_num, ⟨n, n, rfl, rfl, HN⟩, hbr⟩
            case measure => simp [intOf]; omega
          · have HN := Lib.hid (show viewN xs (SV.take (k + 1)) = (n, q0) by rw [HS.out, HM1.out, show max q0 n = q0 by omega])
            go_wp2_with fail
            go_roundw
            case rel => exact ⟨k + 1, by omega, by go_num, ⟨n, q0, rfl, rfl, HN⟩, hbr⟩
            case measure => simp [intOf]; omega
        · have HM1 := Lib.hid (show min p0 n = p0 by omega)
          by_cases h2 : q0 < n
          · have HN := Lib.hid (show viewN xs (SV.take (k + 1)) = (p0, n) by rw [HS.out, HM1.out, show max q0 n = n by omega])
            go_wp2_with fail
            go_roundw
            case rel => exact ⟨k + 1, by omega, by go_num, ⟨p0, n, rfl, rfl, HN⟩, hbr⟩
            case measure => simp [intOf]; omega
          · have HN := Lib.hid (show viewN xs (SV.take (k + 1)) = (p0, q0) by rw [HS.out, HM1.out, show max q0 n = q0 by omega])
            go_wp2_with fail
            go_roundw
            case rel => exact ⟨k + 1, by omega, by go_num, ⟨p0, q0, rfl, rfl, HN⟩, hbr⟩
            case measure => simp [intOf]; omega
      · have hkl : k = SV.length := by omega
        have HF := Lib.hid (show viewN xs SV = (p0, q0) by rw [← HPQ.out, hkl, List.take_length])
        have hvq : vv = q0 := by rw [← HG2.out, HF.out]
        rw [HF.out] at HH
        clear HPQ HF HG2
        subst hvq
        have hvv : (vv != vv) = false := by simp
        simp only at HH
        have h4 : (decide (p0 < vv) != decide (p0 < vv)) = false := by simp
        go_wp2_with fail
        refine (HH.out _ hq1).mono ?_
        rintro e v5 ⟨rfl, hbn⟩
        have hb9 := hbr.trans (hbn.mono hbr.size)
        clear hbn HH
        by_cases h5 : p0 < vv
        · have h5d : decide (p0 < vv) = true := decide_eq_true h5
          go_wp2_with fail
          go_meet
          exact hb9
        · have h5d : decide (p0 < vv) = false := decide_eq_false h5
          go_wp2_with fail
          go_meet
          exact hb9
  case rest => as_aux_lemma =>
    have hcut : Below w9.heap.size w9 wc := hcut
    clear HVL HAT HGD
    clear hq1 hq3
    replace hx := below_step hx hcut
    replace hr1 := hr1.go hcut
    clear hcut
    go_wp2_with fail
    refine (drawAgreeShare_c bs _ _ _ (hr.go hx) hn hc HB.out).mono ?_
    rintro e w20 ⟨B2, c2, ys, sa, sb2, d2, rfl, hl2, hok2, hsa, hsb, hd2, hown, hbn⟩
    replace hx := below_step hx hbn
    replace hr1 := hr1.go hbn
    have hr2 := hown.rd
    clear hown hbn
    have HW2 := Lib.hid (hw_O hok2)
    clear hok2
    have HP := Lib.hid (fun (v : World) (h : Rd encOpinion 5 v.heap.size v B2 ys) => implAgreeShare_c ys B2 c2 sa sb2 d2 v h (by omega) HW2.out (by omega) (by omega) (by omega))
    have HQ := Lib.hid (fun (v : World) (h : Rd encOpinion 5 v.heap.size v B2 ys) => specAgreeShare_c ys B2 c2 sa sb2 d2 v h (by omega) HW2.out (by omega) (by omega) (by omega))
    obtain ⟨ha1, ha2, ha3⟩ := ag_law ys sa sb2 d2
    generalize agS ys sa sb2 d2 = ga at *
    generalize agN ys sa sb2 d2 = gn at *
    generalize agB ys sa sb2 d2 = gb at *
    go_wp2_with fail
    refine (HP.out _ hr2).mono ?_
    rintro e w21 ⟨rfl, hbn⟩
    replace hx := below_step hx hbn
    replace hr1 := hr1.go hbn
    replace hr2 := hr2.go hbn
    clear hbn
    go_wp2_with fail
    refine (HQ.out _ hr2).mono ?_
    rintro e w22 ⟨rfl, hbn⟩
    replace hx := below_step hx hbn
    replace hr1 := hr1.go hbn
    replace hr2 := hr2.go hbn
    clear hbn hr2
    clear HP HQ HW2
    have ha4 : ¬ gn < ga := by omega
    go_wp2_with fail
    clear ha1 ha2 ha3 ha4
    refine (drawFirstView_c bs _ _ _ (hr.go hx) hn hc HB.out).mono ?_
    rintro e w23 ⟨B3, c3, us, z3, s3, rfl, hl3, hok3, hz3, hs3, hown, hbn⟩
    replace hx := below_step hx hbn
    replace hr1 := hr1.go hbn
    have hr3 := hown.rd
    clear hown hbn
    have HW3 := Lib.hid (hw_O hok3)
    clear hok3
    have HP := Lib.hid (fun (v : World) (h : Rd encOpinion 5 v.heap.size v B3 us) => implFirstView_c us B3 c3 z3 s3 v h (by omega) HW3.out (by omega) (by omega))
    have HQ := Lib.hid (fun (v : World) (h : Rd encOpinion 5 v.heap.size v B3 us) => specFirstView_c us B3 c3 z3 s3 v h (by omega) HW3.out (by omega) (by omega))
    have HV := Lib.hid (fun (h : fvB us z3 s3 = true) (v : World) (hh : Rd encOpinion 5 v.heap.size v B3 us) => (show Calls Tryz.prog 6 #[.slice B3 us.length c3, .int .i64 z3, .int .i64 (fvV us z3 s3)] v (Ret (.tuple #[.int .i64 s3, .bool true]) v) by
      obtain ⟨f1, f2, f3, f4⟩ := fv_law h
      have h0 := implViewOf_c us B3 c3 z3 (fvV us z3 s3) v hh (by omega) HW3.out (by omega) (by omega)
      rw [f1, f2] at h0
      exact h0))
    generalize fvV us z3 s3 = fv at *
    generalize fvB us z3 s3 = fb at *
    go_wp2_with fail
    refine (HP.out _ hr3).mono ?_
    rintro e w24 ⟨rfl, hbn⟩
    replace hx := below_step hx hbn
    replace hr1 := hr1.go hbn
    replace hr3 := hr3.go hbn
    clear hbn
    go_wp2_with fail
    refine (HQ.out _ hr3).mono ?_
    rintro e w25 ⟨rfl, hbn⟩
    replace hx := below_step hx hbn
    replace hr1 := hr1.go hbn
    replace hr3 := hr3.go hbn
    clear hbn HP HQ HW3
    go_upto_if 233 with fail
    go_cut [39, 40] (fun _ _ wx => Below w25.heap.size w25 wx)
    case first => as_aux_lemma =>
      cases fb
      · go_wp2_with fail
        go_meet
        exact Below.refl _ _
      replace HV := Lib.hid (HV.out rfl)
      have hss : (s3 != s3) = false := by simp
      go_wp2_with fail
      refine (HV.out _ hr3).mono ?_
      rintro e v2 ⟨rfl, hbn⟩
      go_wp2_with fail
      go_meet
      exact hbn
    case rest => as_aux_lemma =>
      have hcut : Below w25.heap.size w25 wc := hcut
      clear HV
      clear hr3
      replace hx := below_step hx hcut
      replace hr1 := hr1.go hcut
      clear hcut
      go_wp2_with fail
      refine (HE1.out _ hr1).mono ?_
      rintro e w51 ⟨P5, p5, rfl, hbn, hq5o⟩
      replace hx := below_step hx hbn
      replace hr1 := hr1.go hbn
      have hq5 := hq5o.rd
      clear hbn hq5o
      go_wp2_with fail
      refine (HE2.out _ hr1).mono ?_
      rintro e w52 ⟨P6, p6, rfl, hbn, hq6o⟩
      replace hx := below_step hx hbn
      replace hr1 := hr1.go hbn
      replace hq5 := hq5.go hbn
      have hq6 := hq6o.rd
      clear hbn hq6o
      clear HE1 HE2
      go_wp2_with fail
      refine (HC1.out _ hr1 (HT.out.go hx)).mono ?_
      rintro e w53 ⟨rfl, hbn⟩
      replace hx := below_step hx hbn
      replace hr1 := hr1.go hbn
      replace hq5 := hq5.go hbn
      replace hq6 := hq6.go hbn
      clear hbn HC1
      go_wp2_with fail
      refine (HC2.out _ hr1).mono ?_
      rintro e w54 ⟨rfl, hbn⟩
      replace hx := below_step hx hbn
      replace hr1 := hr1.go hbn
      replace hq5 := hq5.go hbn
      replace hq6 := hq6.go hbn
      clear hbn HC2
      go_wp2_with fail
      refine (rTexts_c EV P5 P6 p5 p6 _ hq5 hq6 hel).mono ?_
      rintro e w55 ⟨rfl, hbn⟩
      replace hx := below_step hx hbn
      replace hr1 := hr1.go hbn
      replace hq5 := hq5.go hbn
      replace hq6 := hq6.go hbn
      clear hbn hq5 hq6
      go_wp2_with fail
      go_returns
      exact ⟨ret_bool (by simp), hx⟩
end Go.Proofs.YtpnkeaeikcobfaaGreatDoor
