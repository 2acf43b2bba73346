/- The walk of the law FnPlates. No condition but that the code is one that can be, and that the table of powers lies as it is listed. -/
import Derived.Test.YtgjehnjpbekoeaaDoorFlDrawS
import Derived.Test.YtgjehnjpbekoeaaDoorFlPos
import Derived.Test.YtgjehnjpbekoeaaDoorTxNum
import Derived.Test.YtgjehnjpbekoeaaDoorFlSheet2
import Derived.Test.YtgjehnjpbekoeaaDoorPutN
import Derived.Test.YtgjehnjpbekoeaaDoorVFn
import Derived.Deep.DeepCutAuto
import Derived.Deep.RegionHeld3
namespace Go.Proofs.YtgjehnjpbekoeaaDoor
set_option linter.unusedVariables false
set_option linter.unusedSimpArgs false
open Go.RowKit
attribute [local irreducible] wpQuiet
set_option maxRecDepth 100000 in
set_option maxHeartbeats 1600000 in
theorem lawFnPlates_c (bs : List Int) (A : Option Addr) (c : Nat) (w : World) (hr : Rd encY 1 w.heap.size w A bs) (hm : bs.length ≤ 9223372036854775807) (hc : bs.length ≤ c) (hb : ∀ b ∈ bs, ByteI b) (ht : Pow w) :
    Calls Tryd.prog 3 #[.slice A bs.length c] w (Ret (.bool true) w) := by
  have HB := Lib.hid hb
  have HT := Lib.hid ht
  clear hb ht
  by_cases hbig : 65536 < bs.length
  · have hd : decide (65536 < bs.length) = true := decide_eq_true hbig
    go_enter Tryd.func3, Tryd.ntmps3
    go_wp2_with (go_at_call 4; refine (vBig_c _ _ _ _).mono ?_; rw [hd]; rintro e w' ⟨rfl, rfl⟩)
    go_returns
    exact ⟨rfl, Below.refl _ _⟩
  have hd : decide (65536 < bs.length) = false := decide_eq_false hbig
  have hn : bs.length ≤ 65536 := by omega
  clear hbig
  go_enter Tryd.func3, Tryd.ntmps3
  go_wp2_with (go_at_call 4; refine (vBig_c _ _ _ _).mono ?_; rw [hd]; rintro e w' ⟨rfl, rfl⟩)
  clear hd
  refine (dLookAlikes_c bs _ _ _ hr hn hc HB.out).mono ?_
  rintro e w1 ⟨B1, c1, xs, st, rfl, hl, hok, hcap, hst, hown, hx⟩
  have hr1 := hown.rd
  clear hown hok hcap
  have HP := Lib.hid (fun (v : World) (h : Rd encFlaw 4 v.heap.size v B1 xs) => implLookAlikes_c xs B1 c1 st v h (by omega) (by omega))
  have HQ := Lib.hid (fun (v : World) (h : Rd encFlaw 4 v.heap.size v B1 xs) => specLookAlikes_c xs B1 c1 st v h (by omega) (by omega))
  have HC := Lib.hid (fun (z : Int) (v : World) (h : Rd encFlaw 4 v.heap.size v B1 xs) => implCodesAt_c xs B1 c1 z st v h (by omega))
  have HE1 := Lib.hid (fun (v : World) (h : Rd encFlaw 4 v.heap.size v B1 xs) => implEarlyFlaws_c xs B1 c1 st v h (by omega))
  have HE2 := Lib.hid (fun (v : World) (h : Rd encFlaw 4 v.heap.size v B1 xs) => specEarlyFlaws_c xs B1 c1 st v h (by omega))
  have HE3 := Lib.hid (fun (v : World) (h : Rd encFlaw 4 v.heap.size v B1 xs) => implEarlyFlaws_c xs B1 c1 (st + 1) v h (by omega))
  have HN1 := Lib.hid (fun (v : World) (h : Rd encFlaw 4 v.heap.size v B1 xs) => implCleanPositions_c xs B1 c1 st v h (by omega))
  have HN2 := Lib.hid (fun (v : World) (h : Rd encFlaw 4 v.heap.size v B1 xs) => specCleanPositions_c xs B1 c1 st v h (by omega))
  have HLA := Lib.hid (fun (p : List Int) (hp : p ∈ laV xs st) => la_law hp)
  have HLL := Lib.hid (laV_len2 xs st)
  have HEL := Lib.hid (fun (p : List Int) (hp : p ∈ laV xs st) => Nat.le_trans (laV_elen hp) (show 100 ≤ 2097152 by decide))
  have HVL := Lib.hid (earV_len xs st)
  have HVL3 := Lib.hid (earV_len xs (st + 1))
  have HCL := Lib.hid (fun (h : laB xs st = true) => clean_law h)
  have HMO := Lib.hid (fun (h : laB xs st = true) (h' : laB xs (st + 1) = true) => more_law h h')
  generalize laV xs st = LA at *
  generalize earV xs st = EV at *
  generalize earV xs (st + 1) = EW at *
  generalize clnV xs st = CV at *
  generalize laB xs (st + 1) = lc at *
  generalize laB xs st = lb at *
  go_wp2_with fail
  refine (HP.out _ hr1).mono ?_
  rintro e w2 ⟨P1, p1, rfl, hbn, hq1o⟩
  replace hx := below_step hx hbn
  replace hr1 := hr1.go hbn
  have hq1 := hq1o.rd
  clear hbn hq1o
  go_wp2_with fail
  refine (HQ.out _ hr1).mono ?_
  rintro e w3 ⟨P2, p2, rfl, hbn, hq2o⟩
  replace hx := below_step hx hbn
  replace hr1 := hr1.go hbn
  replace hq1 := hq1.go hbn
  have hq2 := hq2o.rd
  clear hbn hq2o
  clear HP HQ
  go_wp2_with fail
  refine (vGrid_c LA P1 P2 p1 p2 _ hq1 hq2 HLL.out HEL.out).mono ?_
  rintro e w4 ⟨rfl, hbn⟩
  replace hx := below_step hx hbn
  replace hr1 := hr1.go hbn
  replace hq1 := hq1.go hbn
  replace hq2 := hq2.go hbn
  clear hbn hq2
  go_wp2_with fail
  go_loopw [9] (fun i wr => ∃ k : Nat, k ≤ LA.length ∧ i = .int .i64 k ∧ Below w4.heap.size w4 wr) (fun i _ => LA.length - (intOf i).toNat)
  case atStart => exact ⟨0, Nat.zero_le _, rfl, Below.refl _ _⟩
  case round => as_aux_lemma =>
    obtain ⟨k, hk, rfl, hbr⟩ := hrel
    have hbl := hbr
    replace hx := below_step hx hbr
    replace hr1 := hr1.go hbr
    replace hq1 := hq1.go hbr
    clear hbr
    have hll : LA.length ≤ 2097152 := HLL.out
    by_cases hlt : k < LA.length
    · obtain ⟨hlb, h2, h100, CS, hne, hcl, hall⟩ := HLA.out _ (List.getElem_mem hlt)
      subst hlb
      clear HLA HLL HEL HE1 HE2 HE3 HN1 HN2 HVL HVL3 HCL HMO
      obtain ⟨b, off, Ai, ci, rfl, hbs, d0, hci, hri⟩ := hq1.at_ hlt
      have HA := Lib.hid hall
      clear hall hq1
      generalize LA[k] = gp at *
      have hk0 : (0 : Int) ≤ (k : Int) := by omega
      have hk1 : (k : Int) < (LA.length : Int) := by omega
      have hce : ((CS.length : Int) == 0) = false := by simp only [beq_eq_false_iff_ne, ne_eq]; omega
      have HCC := Lib.hid (fun (z : Int) (hz : z ∈ gp) (v : World) (h : Rd encFlaw 4 v.heap.size v B1 xs) => (show Calls Tryd.prog 9 #[.slice B1 xs.length c1, .int .i64 z, .int .i64 st] v (RetL encI 1 CS true v) by
        have h0 := HC.out z v h
        rw [(HA.out z hz).2.2.1, (HA.out z hz).2.2.2] at h0
        exact h0))
      clear HC
      obtain ⟨b2, o2, hAi, hb2, e0⟩ := hri.int (show 0 < gp.length by omega)
      rw [Nat.add_zero] at e0
      have hm0 : gp[0] ∈ gp := List.getElem_mem _
      have hgp0 : (0 : Int) < (gp.length : Int) := by omega
      have HRI := Lib.hid hri
      generalize hg0 : gp[0] = z0 at *
      clear hri hg0 hne
      subst hAi
      have hy : Below wr.heap.size wr wr := Below.refl _ _
      go_wp2_with fail
      refine (HCC.out z0 hm0 _ hr1).mono ?_
      rintro e v2 ⟨R1, r1, rfl, hbn, hu1o⟩
      replace hy := below_step hy hbn
      replace hr1 := hr1.go hbn
      have hu1 := hu1o.rd
      clear hbn hu1o
      replace d0 := (hy.cell (p := ⟨b, _, none⟩) hbs).trans d0
      have hri := HRI.out.go hy
      have hbV : b < v2.heap.size := Nat.lt_of_lt_of_le hbs hy.size
      have hbZ := hbl.trans (hy.mono hbl.size)
      clear HRI e0 hm0 hy hbl hbs hb2
      go_wp2_with fail
      go_loopw [12] (fun i wx => ∃ j : Nat, 1 ≤ j ∧ j ≤ gp.length ∧ i = .int .i64 j ∧ Below v2.heap.size v2 wx) (fun i _ => gp.length - (intOf i).toNat)
      case atStart => exact ⟨1, by omega, by omega, rfl, Below.refl _ _⟩
      case round => as_aux_lemma =>
        obtain ⟨j, hj1, hj, rfl, hbx⟩ := hrel
        replace d0 := (hbx.cell (p := ⟨b, _, none⟩) hbV).trans d0
        replace hr1 := hr1.go hbx
        replace hri := hri.go hbx
        replace hu1 := hu1.go hbx
        have hj0 : (0 : Int) ≤ (j : Int) := by omega
        by_cases hjl : j < gp.length
        · obtain ⟨b3, o3, hA3, hb3, e0⟩ := hri.int hjl
          injection hA3 with hA3
          injection hA3 with hA4 hA5
          subst hA4 hA5
          have hmj : gp[j] ∈ gp := List.getElem_mem hjl
          have hj2 : (j : Int) < (gp.length : Int) := by omega
          clear hri
          generalize gp[j] = zj at *
          go_wp2_with fail
          refine (HCC.out zj hmj _ hr1).mono ?_
          rintro e v3 ⟨R2, r2, rfl, hbn, huo⟩
          have hu2 := huo.rd
          have hu3 := hu1.go hbn
          have hb4 := hbx.trans (hbn.mono hbx.size)
          clear huo hbn e0 hr1 hu1
          go_wp2_with fail
          refine (vInts_c CS R1 R2 r1 r2 _ hu3 hu2 hcl).mono ?_
          rintro e v4 ⟨rfl, hbn⟩
          have hb5 := hb4.trans (hbn.mono hb4.size)
          clear hbn hb4 hu2 hu3
          go_wp2_with fail
          go_roundw
          case rel => exact ⟨j + 1, by omega, by omega, by go_num, hb5⟩
          case measure => simp [intOf]; omega
        · obtain rfl : j = gp.length := by omega
          have hj3 : ¬ ((gp.length : Int) < (gp.length : Int)) := by omega
          go_wp2_with fail
          go_roundw
          case rel => exact ⟨k + 1, by omega, by go_num, hbZ.trans (hbx.mono hbZ.size)⟩
          case measure => simp [intOf]; omega
    · obtain rfl : k = LA.length := by omega
      clear HC HLA HEL hq1
      clear hll
      go_wp2_with fail
      refine (HE1.out _ hr1).mono ?_
      rintro e w5 ⟨P3, p3, rfl, hbn, hq3o⟩
      replace hx := below_step hx hbn
      replace hr1 := hr1.go hbn
      have hq3 := hq3o.rd
      clear hbn hq3o
      go_wp2_with fail
      refine (HE2.out _ hr1).mono ?_
      rintro e w6 ⟨P4, p4, rfl, hbn, hq4o⟩
      replace hx := below_step hx hbn
      replace hr1 := hr1.go hbn
      replace hq3 := hq3.go hbn
      have hq4 := hq4o.rd
      clear hbn hq4o
      clear HE1 HE2
      go_wp2_with fail
      refine (vInts_c EV P3 P4 p3 p4 _ hq3 hq4 HVL.out).mono ?_
      rintro e w7 ⟨rfl, hbn⟩
      replace hx := below_step hx hbn
      replace hr1 := hr1.go hbn
      replace hq3 := hq3.go hbn
      replace hq4 := hq4.go hbn
      clear hbn hq3 hq4
      go_wp2_with fail
      refine (HN1.out _ hr1).mono ?_
      rintro e w8 ⟨rfl, hbn⟩
      replace hx := below_step hx hbn
      replace hr1 := hr1.go hbn
      clear hbn
      go_wp2_with fail
      refine (HN2.out _ hr1).mono ?_
      rintro e w9 ⟨rfl, hbn⟩
      replace hx := below_step hx hbn
      replace hr1 := hr1.go hbn
      clear hbn HN1 HN2
      go_upto_region 24 with fail
      go_cut [188] (fun v wx => v = .bool false ∧ w9 = wx)
      case first => as_aux_lemma =>
        cases lb
        · go_wp2_with fail
          go_meet
          exact ⟨by simp <;> omega, by simp⟩
        · obtain ⟨n1, n2, n3⟩ := HCL.out rfl
          have n4 : EV.length ≤ 2097152 := HVL.out
          go_wp2_with fail
          go_meet
          exact ⟨by simp <;> omega, by simp⟩
      case rest => as_aux_lemma =>
        obtain ⟨hcv, hww⟩ := hcut
        subst hcv hww
        clear HCL
        go_wp2_with fail
        refine (HE3.out _ hr1).mono ?_
        rintro e w10 ⟨P5, p5, rfl, hbn, hq5o⟩
        replace hx := below_step hx hbn
        replace hr1 := hr1.go hbn
        have hq5 := hq5o.rd
        clear hbn hq5o
        clear HE3
        clear hq5
        clear hr1
        go_upto_region 27 with fail
        go_cut [206] (fun v wx => v = .bool false ∧ w10 = wx)
        case first => as_aux_lemma =>
          cases lb
          · go_wp2_with fail
            go_meet
            exact ⟨by simp <;> omega, by simp⟩
          · cases lc
            · go_wp2_with fail
              go_meet
              exact ⟨by simp <;> omega, by simp⟩
            · have n1 : EV.length ≤ EW.length := HMO.out rfl rfl
              have n4 : EV.length ≤ 2097152 := HVL.out
              have n5 : EW.length ≤ 2097152 := HVL3.out
              go_wp2_with fail
              go_meet
              exact ⟨by simp <;> omega, by simp⟩
        case rest => as_aux_lemma =>
          obtain ⟨hcv, hww⟩ := hcut
          subst hcv hww
          clear HMO HVL HVL3 HLL
          go_wp2_with fail
          refine (dSheetState_c bs _ _ _ (hr.go hx) hn hc HB.out).mono ?_
          rintro e w11 ⟨B2, c2, ys, D2, d2, qs, G2, g2, ps, rfl, hl2, hql, hpl, hpe, hr2, hd2, hg2, hbn⟩
          replace hx := below_step hx hbn
          clear hbn
          have hsum : sumS ps ≤ 1048576 := by
            have h1 := sum_bd ps 21 hpe
            have h2 : ps.length * 21 ≤ 6 * 21 := Nat.mul_le_mul_right 21 hpl
            unfold sumS
            omega
          have HP := Lib.hid (fun (v : World) (h : Rd encFlaw 4 v.heap.size v B2 ys) (h2 : Rd encI 1 v.heap.size v D2 qs) (h3 : RdSS v.heap.size v G2 ps) => implSheetState_c ys B2 c2 qs D2 d2 ps G2 g2 v h (by omega) h2 (by omega) h3 (by omega) hsum)
          have HQ := Lib.hid (fun (v : World) (h : Rd encFlaw 4 v.heap.size v B2 ys) (h2 : Rd encI 1 v.heap.size v D2 qs) (h3 : RdSS v.heap.size v G2 ps) => specSheetState_c ys B2 c2 qs D2 d2 ps G2 g2 v h (by omega) h2 (by omega) h3 (by omega) hsum)
          have HC := Lib.hid (fun (z : Int) (v : World) (h : Rd encFlaw 4 v.heap.size v B2 ys) => implCodesAt_c ys B2 c2 z (ssV1 ys qs ps) v h (by omega))
          have HS := Lib.hid (fun (h : ssO ys qs ps = true) => sheet_law h)
          have HPE := Lib.hid hpe
          clear hpe hsum
          generalize ssV1 ys qs ps = V1 at *
          generalize ssV2 ys qs ps = V2 at *
          generalize ssO ys qs ps = VO at *
          go_wp2_with fail
          refine (HP.out _ hr2 hd2 hg2).mono ?_
          rintro e w12 ⟨rfl, hbn⟩
          replace hx := below_step hx hbn
          replace hr2 := hr2.go hbn
          replace hd2 := hd2.go hbn
          replace hg2 := hg2.go hbn
          clear hbn
          go_wp2_with fail
          refine (HQ.out _ hr2 hd2 hg2).mono ?_
          rintro e w13 ⟨rfl, hbn⟩
          replace hx := below_step hx hbn
          replace hr2 := hr2.go hbn
          replace hd2 := hd2.go hbn
          replace hg2 := hg2.go hbn
          clear hbn HP HQ
          go_upto_if 242 with fail
          go_cut [] (fun wx => Below w13.heap.size w13 wx)
          case first => as_aux_lemma =>
            cases VO
            · go_wp2_with fail
              go_meet
              exact Below.refl _ _
            obtain ⟨hle, hat⟩ := HS.out rfl
            have HAT := Lib.hid hat
            have HLE := Lib.hid hle
            clear HS hat hle
            go_wp2_with fail
            go_loopw [34] (fun i wr => ∃ k : Nat, k ≤ qs.length ∧ i = .int .i64 k ∧ Below w13.heap.size w13 wr) (fun i _ => qs.length - (intOf i).toNat)
            case atStart => exact ⟨0, Nat.zero_le _, rfl, Below.refl _ _⟩
            case round => as_aux_lemma =>
              obtain ⟨k, hk, rfl, hbr⟩ := hrel
              have hr3 := hr2.go hbr
              have hd3 := hd2.go hbr
              have hg3 := hg2.go hbr
              have hk0 : (0 : Int) ≤ (k : Int) := by omega
              by_cases hlt : k < qs.length
              · have hltp : k < ps.length := by have := HLE.out; omega
                obtain ⟨f1, f2⟩ := HAT.out k hlt hltp
                obtain ⟨bD, oD, rfl, hbD, e0⟩ := hd3.int hlt
                have hpx := HPE.out _ (List.getElem_mem hltp)
                have hk1 : (k : Int) < (qs.length : Int) := by omega
                have hk2 : (k : Int) < (ps.length : Int) := by omega
                have HCz := Lib.hid (HC.out qs[k])
                have HG3 := Lib.hid hg3
                clear HAT HC hd3 hg3 hd2 hg2 hr2
                generalize qs[k] = z at *
                rw [f1, f2] at HCz
                clear f1 f2
                go_wp2_with fail
                refine (HCz.out _ hr3).mono ?_
                rintro e v2 ⟨R1, r1, rfl, hbn, huo⟩
                have hu1 := huo.rd
                obtain ⟨b, off, Ai, ci, rfl, hbs, d0, hci, hri⟩ := (HG3.out.go hbn).at_ hltp
                have hb4 := hbr.trans (hbn.mono hbr.size)
                clear huo hbn e0 hr3 HG3 HCz hbr
                generalize ps[k] = pk at *
                go_wp2_with fail
                refine (vInts_c pk R1 Ai r1 ci _ hu1 hri (by omega)).mono ?_
                rintro e v4 ⟨rfl, hbn⟩
                have hb5 := hb4.trans (hbn.mono hb4.size)
                clear hbn hb4 hu1 hri d0
                go_wp2_with fail
                go_roundw
                case rel => exact ⟨k + 1, by omega, by go_num, hb5⟩
                case measure => simp [intOf]; omega
              · obtain rfl : k = qs.length := by omega
                go_wp2_with fail
                go_meet
                exact hbr
          case rest => as_aux_lemma =>
            have hcut : Below w13.heap.size w13 wc := hcut
            clear HC HS HPE
            clear hr2 hd2 hg2
            replace hx := below_step hx hcut
            clear hcut
            go_wp2_with fail
            refine (dAddFlaw_c bs _ _ _ (hr.go hx) hn hc HB.out).mono ?_
            rintro e w14 ⟨B3, c3, zs, x, rfl, hl3, hok, hcap, hX, hown, hbn⟩
            replace hx := below_step hx hbn
            have hr3 := hown.rd
            clear hown hbn hok hX
            have HP := Lib.hid (fun (v : World) (h : Rd encFlaw 4 v.heap.size v B3 zs) => implAddFlaw_c zs B3 c3 x v h hcap (by omega))
            have HQ := Lib.hid (fun (v : World) (h : Rd encFlaw 4 v.heap.size v B3 zs) => (specAddFlawO_c zs B3 c3 x v h hcap (by omega)).mono fun e w' h => h.retL encFlaw_len)
            have HL := Lib.hid (afL_len zs x)
            generalize afL zs x = AL at *
            generalize afB zs x = AB at *
            have hW := New.of w14 [.int .i64 x.row, .int .i64 x.col, .int .i64 x.code, .int .i64 x.since] 43
            go_wp2_with fail
            generalize w14.alloc (.cells [.int .i64 x.row, .int .i64 x.col, .int .i64 x.code, .int .i64 x.since].toArray 43) = VA at *
            obtain ⟨hWb, hWl, hWc⟩ := hW
            have e0 := hWc 0 _ rfl
            have e1 := hWc 1 _ rfl
            have e2 := hWc 2 _ rfl
            have e3 := hWc 3 _ rfl
            clear hWc
            replace hx := below_step hx hWb
            replace hr3 := hr3.go hWb
            refine (HP.out _ hr3).mono ?_
            rintro e w15 ⟨P6, p6, rfl, hbn, hq6o⟩
            replace e0 := (hbn.cell (p := ⟨w14.heap.size, 0, none⟩) hWl).trans e0
            replace e1 := (hbn.cell (p := ⟨w14.heap.size, 1, none⟩) hWl).trans e1
            replace e2 := (hbn.cell (p := ⟨w14.heap.size, 2, none⟩) hWl).trans e2
            replace e3 := (hbn.cell (p := ⟨w14.heap.size, 3, none⟩) hWl).trans e3
            replace hx := below_step hx hbn
            replace hr3 := hr3.go hbn
            have hq6 := hq6o.rd
            clear hbn hq6o hWb hWl
            go_wp2_with fail
            refine (HQ.out _ hr3).mono ?_
            rintro e w16 ⟨P7, p7, rfl, hbn, hq7o⟩
            replace hx := below_step hx hbn
            replace hr3 := hr3.go hbn
            replace hq6 := hq6.go hbn
            have hq7 := hq7o.rd
            clear hbn hq7o
            clear HP HQ e0 e1 e2 e3
            go_wp2_with fail
            refine (vFlaws_c AL P6 P7 p6 p7 _ hq6 hq7 HL.out).mono ?_
            rintro e w17 ⟨rfl, hbn⟩
            replace hx := below_step hx hbn
            replace hr3 := hr3.go hbn
            replace hq6 := hq6.go hbn
            replace hq7 := hq7.go hbn
            clear hbn hq6 hq7 hr3
            clear HL
            go_wp2_with fail
            refine (dFlawText_c bs _ _ _ (hr.go hx) hn hc HB.out).mono ?_
            rintro e w18 ⟨y, rfl, hY, hbn⟩
            replace hx := below_step hx hbn
            clear hbn hY
            have HP := Lib.hid (fun (v : World) (h : Pow v) => implFlawText_c y v h)
            have HQ := Lib.hid (fun (v : World) => specFlawText_c y v)
            generalize ftV y = TX at *
            generalize y.ok = TO at *
            have hW := New.of w18 [.int .i64 y.row, .int .i64 y.col, .int .i64 y.code, .int .i64 y.since] 43
            go_wp2_with fail
            generalize w18.alloc (.cells [.int .i64 y.row, .int .i64 y.col, .int .i64 y.code, .int .i64 y.since].toArray 43) = VB at *
            obtain ⟨hWb, hWl, hWc⟩ := hW
            have e0 := hWc 0 _ rfl
            have e1 := hWc 1 _ rfl
            have e2 := hWc 2 _ rfl
            have e3 := hWc 3 _ rfl
            clear hWc
            replace hx := below_step hx hWb
            refine (HP.out _ (HT.out.go hx)).mono ?_
            rintro e w19 ⟨rfl, hbn⟩
            replace e0 := (hbn.cell (p := ⟨w18.heap.size, 0, none⟩) hWl).trans e0
            replace e1 := (hbn.cell (p := ⟨w18.heap.size, 1, none⟩) hWl).trans e1
            replace e2 := (hbn.cell (p := ⟨w18.heap.size, 2, none⟩) hWl).trans e2
            replace e3 := (hbn.cell (p := ⟨w18.heap.size, 3, none⟩) hWl).trans e3
            replace hx := below_step hx hbn
            clear hbn hWb hWl
            go_wp2_with fail
            refine (HQ.out _).mono ?_
            rintro e w20 ⟨rfl, hbn⟩
            replace hx := below_step hx hbn
            clear hbn HP HQ e0 e1 e2 e3
            go_wp2_with fail
            go_returns
            exact ⟨ret_bool (by simp), hx⟩
end Go.Proofs.YtgjehnjpbekoeaaDoor
