/- The walk of the law FnPositions. No condition but that the code is one that can be. -/
import Derived.Test.YtedehldojicimaaFlDrawP
import Derived.Test.YtedehldojicimaaFlFnP
import Derived.Test.YtedehldojicimaaFlSmall
import Derived.Test.YtedehldojicimaaVFn
import Derived.Deep.DeepCutAuto
import Derived.Deep.RegionHeld3
namespace Go.Proofs.Ytedehldojicimaa
set_option linter.unusedVariables false
set_option linter.unusedSimpArgs false
open Go.RowKit
attribute [local irreducible] wpQuiet
set_option maxRecDepth 100000 in
set_option maxHeartbeats 1600000 in
theorem lawFnPositions_c (bs : List Int) (A : Option Addr) (c : Nat) (w : World) (hr : Rd encY 1 w.heap.size w A bs) (hm : bs.length ≤ 9223372036854775807) (hc : bs.length ≤ c) (hb : ∀ b ∈ bs, ByteI b) :
    Calls Try.prog 3 #[.slice A bs.length c] w (Ret (.bool true) w) := by
  have HB := Lib.hid hb
  clear hb
  by_cases hbig : 65536 < bs.length
  · have hd : decide (65536 < bs.length) = true := decide_eq_true hbig
    go_enter Try.func3, Try.ntmps3
    go_wp2_with (go_at_call 4; refine (vBig_c _ _ _ _).mono ?_; rw [hd]; rintro e w' ⟨rfl, rfl⟩)
    go_returns
    exact ⟨rfl, Below.refl _ _⟩
  have hd : decide (65536 < bs.length) = false := decide_eq_false hbig
  have hn : bs.length ≤ 65536 := by omega
  clear hbig
  go_enter Try.func3, Try.ntmps3
  go_wp2_with (go_at_call 4; refine (vBig_c _ _ _ _).mono ?_; rw [hd]; rintro e w' ⟨rfl, rfl⟩)
  clear hd
  refine (dTellPosition_c bs _ _ _ hr hn hc HB.out).mono ?_
  rintro e w1 ⟨B1, c1, xs, D1, d1, cs, rfl, hl, hok, hcap, hl2, hown, hown2, hx⟩
  have hr1 := hown.rd
  have hs1 := hown2.rd
  clear hown hown2 hok hcap
  have HP := Lib.hid (fun (v : World) (h : Rd encFlaw 4 v.heap.size v B1 xs) (h2 : Rd encI 1 v.heap.size v D1 cs) => implTellPosition_c xs B1 c1 cs D1 d1 v h (by omega) h2 (by omega))
  have HQ := Lib.hid (fun (v : World) (h : Rd encFlaw 4 v.heap.size v B1 xs) (h2 : Rd encI 1 v.heap.size v D1 cs) => specTellPosition_c xs B1 c1 cs D1 d1 v h (by omega) h2 (by omega))
  have HA1 := Lib.hid (fun (v : World) (h : Rd encFlaw 4 v.heap.size v B1 xs) => implAreFlaws_c xs B1 c1 v h (by omega))
  have HA2 := Lib.hid (fun (v : World) (h : Rd encFlaw 4 v.heap.size v B1 xs) => specAreFlaws_c xs B1 c1 v h (by omega))
  have HF := Lib.hid (fun (z : Int) (v : World) (h : Rd encFlaw 4 v.heap.size v B1 xs) (h2 : Rd encI 1 v.heap.size v D1 cs) => implPositionsFor_c xs B1 c1 cs D1 d1 z v h (by omega) h2 (by omega))
  have HT := Lib.hid (fun (ht : telB xs cs = true) (k : Nat) (hk : k < 9) => (show ((k + 1 : Nat) : Int) = (k : Int) + 1 by omega) ▸ tel_law ht (k + 1) (by omega) (by omega))
  generalize telA xs cs = ta at *
  generalize telF xs cs = tf at *
  generalize telL xs cs = tl at *
  generalize telB xs cs = tb at *
  generalize goodFl xs = gx at *
  go_wp2_with fail
  refine (HP.out _ hr1 hs1).mono ?_
  rintro e w2 ⟨rfl, hbn⟩
  replace hx := below_step hx hbn
  replace hr1 := hr1.go hbn
  replace hs1 := hs1.go hbn
  clear hbn
  go_wp2_with fail
  refine (HQ.out _ hr1 hs1).mono ?_
  rintro e w3 ⟨rfl, hbn⟩
  replace hx := below_step hx hbn
  replace hr1 := hr1.go hbn
  replace hs1 := hs1.go hbn
  clear hbn HP HQ
  go_wp2_with fail
  refine (HA1.out _ hr1).mono ?_
  rintro e w4 ⟨rfl, hbn⟩
  replace hx := below_step hx hbn
  replace hr1 := hr1.go hbn
  replace hs1 := hs1.go hbn
  clear hbn
  go_wp2_with fail
  refine (HA2.out _ hr1).mono ?_
  rintro e w5 ⟨rfl, hbn⟩
  replace hx := below_step hx hbn
  replace hr1 := hr1.go hbn
  replace hs1 := hs1.go hbn
  clear hbn HA1 HA2
  go_upto_if 90 with fail
  go_cut [] (fun wx => Below w5.heap.size w5 wx)
  case first => as_aux_lemma =>
    cases tb
    · go_wp2_with fail
      go_meet
      exact Below.refl _ _
    replace HT := Lib.hid (HT.out rfl)
    go_wp2_with fail
    go_loopw [13] (fun i wr => ∃ k : Nat, k ≤ 9 ∧ i = .int .i64 ((k : Int) + 1) ∧ Below w5.heap.size w5 wr) (fun i _ => 10 - (intOf i).toNat)
    case atStart => exact ⟨0, Nat.zero_le _, rfl, Below.refl _ _⟩
    case round => as_aux_lemma =>
      obtain ⟨k, hk, rfl, hbr⟩ := hrel
      have hbl := hbr
      replace hr1 := hr1.go hbr
      replace hs1 := hs1.go hbr
      clear hbr
      by_cases hlt : k < 9
      · obtain ⟨e1, e2⟩ := HT.out k hlt
        have HFk := Lib.hid (HF.out ((k : Int) + 1))
        clear HF HT
        generalize posV xs cs ((k : Int) + 1) = PV at *
        generalize posB xs cs ((k : Int) + 1) = PB at *
        subst e1
        go_wp2_with fail
        refine (HFk.out _ hr1 hs1).mono ?_
        rintro e v2 ⟨Q, q, rfl, hbn, hqo⟩
        have hq := hqo.rd
        replace hbl := hbl.trans (hbn.mono hbl.size)
        clear hqo hbn
        have G1 : ((k : Int) + 1 ≥ tf) = (tf ≤ (k : Int) + 1) := rfl
        rcases e2 with ⟨rfl, e2⟩ | ⟨rfl, e2, e3⟩
        · by_cases h1 : tf ≤ (k : Int) + 1
          · have h2 : ¬ ((k : Int) + 1 ≤ tl) := fun h => e2 ⟨h1, h⟩
            clear e2
            go_wp2_with fail
            go_roundw
            case rel => exact ⟨k + 1, by omega, by go_num, hbl⟩
            case measure => simp [intOf]; omega
          · clear e2
            go_wp2_with fail
            go_roundw
            case rel => exact ⟨k + 1, by omega, by go_num, hbl⟩
            case measure => simp [intOf]; omega
        · obtain ⟨bD, oD, rfl, hbD, d0⟩ := hq.int (show 0 < [ta].length from Nat.lt_succ_self 0)
          simp only [List.getElem_cons_zero, Nat.add_zero] at d0
          go_wp2_with fail
          go_roundw
          case rel => exact ⟨k + 1, by omega, by go_num, hbl⟩
          case measure => simp [intOf]; omega
      · obtain rfl : k = 9 := by omega
        go_wp2_with fail
        go_meet
        exact hbl
  case rest => as_aux_lemma =>
    have hcut : Below w5.heap.size w5 wc := hcut
    clear HT HF
    clear hr1 hs1
    replace hx := below_step hx hcut
    clear hcut
    go_wp2_with fail
    refine (dPositionsFor_c bs _ _ _ (hr.go hx) hn hc HB.out).mono ?_
    rintro e w6 ⟨B2, c2, ys, D2, d2, es, st, rfl, hl6, hok, hcap, hle, hst, hr2o, hs2o, hbn⟩
    replace hx := below_step hx hbn
    have hr2 := hr2o.rd
    clear hr2o
    have hs2 := hs2o.rd
    clear hs2o
    clear hbn hok hcap
    have HP := Lib.hid (fun (v : World) (h : Rd encFlaw 4 v.heap.size v B2 ys) (h2 : Rd encI 1 v.heap.size v D2 es) => implPositionsFor_c ys B2 c2 es D2 d2 st v h (by omega) h2 (by omega))
    have HQ := Lib.hid (fun (v : World) (h : Rd encFlaw 4 v.heap.size v B2 ys) (h2 : Rd encI 1 v.heap.size v D2 es) => specPositionsFor_c ys B2 c2 es D2 d2 st v h (by omega) h2 (by omega))
    have HC := Lib.hid (fun (z : Int) (v : World) (h : Rd encFlaw 4 v.heap.size v B2 ys) => implCodesAt_c ys B2 c2 z st v h (by omega))
    have HS := Lib.hid (fun (z : Int) (v : World) (h : Rd encFlaw 4 v.heap.size v B2 ys) (h2 : Rd encI 1 v.heap.size v D2 es) => implStatesFor_c ys B2 c2 es D2 d2 z v h (by omega) h2 (by omega))
    have HZ := Lib.hid (fun (z : Int) (hz : z ∈ posV ys es st) => pos_at hz)
    have HL := Lib.hid (posV_len ys es st)
    generalize posV ys es st = PV at *
    generalize posB ys es st = PB at *
    go_wp2_with fail
    refine (HP.out _ hr2 hs2).mono ?_
    rintro e w7 ⟨P1, p1, rfl, hbn, hq1o⟩
    replace hx := below_step hx hbn
    replace hr2 := hr2.go hbn
    replace hs2 := hs2.go hbn
    have hq1 := hq1o.rd
    clear hbn hq1o
    go_wp2_with fail
    refine (HQ.out _ hr2 hs2).mono ?_
    rintro e w8 ⟨P2, p2, rfl, hbn, hq2o⟩
    replace hx := below_step hx hbn
    replace hr2 := hr2.go hbn
    replace hs2 := hs2.go hbn
    replace hq1 := hq1.go hbn
    have hq2 := hq2o.rd
    clear hbn hq2o
    clear HP HQ
    go_wp2_with fail
    refine (vInts_c PV P1 P2 p1 p2 _ hq1 hq2 HL.out).mono ?_
    rintro e w9 ⟨rfl, hbn⟩
    replace hx := below_step hx hbn
    replace hr2 := hr2.go hbn
    replace hs2 := hs2.go hbn
    replace hq1 := hq1.go hbn
    replace hq2 := hq2.go hbn
    clear hbn hq2
    go_wp2_with fail
    go_loopw [23] (fun i wr => ∃ k : Nat, k ≤ PV.length ∧ i = .int .i64 k ∧ Below w9.heap.size w9 wr) (fun i _ => PV.length - (intOf i).toNat)
    case atStart => exact ⟨0, Nat.zero_le _, rfl, Below.refl _ _⟩
    case round => as_aux_lemma =>
      obtain ⟨k, hk, rfl, hbr⟩ := hrel
      have hbl := hbr
      replace hx := below_step hx hbr
      replace hr2 := hr2.go hbr
      replace hs2 := hs2.go hbr
      replace hq1 := hq1.go hbr
      clear hbr
      have hdl : PV.length ≤ 2097152 := HL.out
      by_cases hlt : k < PV.length
      · obtain ⟨bD, oD, rfl, hbD, d0⟩ := hq1.int hlt
        obtain ⟨f1, f2, f3, f4, f5, f6⟩ := HZ.out _ (List.getElem_mem hlt)
        clear HZ
        generalize PV[k] = z at *
        have HCz := Lib.hid (HC.out z)
        have HSz := Lib.hid (HS.out z)
        have HSL := Lib.hid (sfoV_len ys es z)
        clear HC HS
        generalize catV ys z st = V at *
        generalize catB ys z st = K at *
        generalize sfoV ys es z = S at *
        generalize sfoB ys es z = T at *
        subst f3 f4 f5
        have hbD0 : bD < wr.heap.size := hbD
        have hy : Below wr.heap.size wr wr := Below.refl _ _
        go_wp2_with fail
        refine (HCz.out _ hr2).mono ?_
        rintro e v2 ⟨R1, q1, rfl, hbn, hu1o⟩
        replace hy := below_step hy hbn
        replace hr2 := hr2.go hbn
        replace hs2 := hs2.go hbn
        have hu1 := hu1o.rd
        clear hbn hu1o
        replace d0 := (hy.cell (p := ⟨bD, _, none⟩) hbD0).trans d0
        go_wp2_with fail
        refine (HSz.out _ hr2 hs2).mono ?_
        rintro e v3 ⟨R2, q2, rfl, hbn, hu2o⟩
        replace hy := below_step hy hbn
        replace hr2 := hr2.go hbn
        replace hs2 := hs2.go hbn
        replace hu1 := hu1.go hbn
        have hu2 := hu2o.rd
        clear hbn hu2o
        clear d0
        go_wp2_with fail
        refine (vInts_c V R1 D2 q1 d2 _ hu1 hs2 (by omega)).mono ?_
        rintro e v4 ⟨rfl, hbn⟩
        replace hy := below_step hy hbn
        replace hr2 := hr2.go hbn
        replace hs2 := hs2.go hbn
        replace hu1 := hu1.go hbn
        replace hu2 := hu2.go hbn
        clear hbn
        go_wp2_with fail
        have HH := Lib.hid (fun (v : World) (h : Rd encI 1 v.heap.size v R2 S) => vHas_c S R2 q2 st v h HSL.out)
        rw [decide_eq_true f6] at HH
        refine (HH.out _ hu2).mono ?_
        rintro e v5 ⟨rfl, hbn⟩
        replace hy := below_step hy hbn
        replace hr2 := hr2.go hbn
        replace hs2 := hs2.go hbn
        replace hu1 := hu1.go hbn
        replace hu2 := hu2.go hbn
        clear hbn
        go_wp2_with fail
        go_roundw
        case rel => exact ⟨k + 1, by omega, by go_num, hbl.trans (hy.mono hbl.size)⟩
        case measure => simp [intOf]; omega
      · obtain rfl : k = PV.length := by omega
        clear HC HS HZ hr2 hs2 hq1
        go_wp2_with fail
        refine (dStatesFor_c bs _ _ _ (hr.go hx) hn hc HB.out).mono ?_
        rintro e w10 ⟨B3, c3, zs, D3, d3, fs, pz, rfl, hl10, hok, hcap, hlf, hpz, hr3o, hs3o, hbn⟩
        replace hx := below_step hx hbn
        have hr3 := hr3o.rd
        clear hr3o
        have hs3 := hs3o.rd
        clear hs3o
        clear hbn hok hcap
        have HP := Lib.hid (fun (v : World) (h : Rd encFlaw 4 v.heap.size v B3 zs) (h2 : Rd encI 1 v.heap.size v D3 fs) => implStatesFor_c zs B3 c3 fs D3 d3 pz v h (by omega) h2 (by omega))
        have HQ := Lib.hid (fun (v : World) (h : Rd encFlaw 4 v.heap.size v B3 zs) (h2 : Rd encI 1 v.heap.size v D3 fs) => specStatesFor_c zs B3 c3 fs D3 d3 pz v h (by omega) h2 (by omega))
        have HL3 := Lib.hid (sfoV_len zs fs pz)
        generalize sfoV zs fs pz = SV at *
        generalize sfoB zs fs pz = SB at *
        go_wp2_with fail
        refine (HP.out _ hr3 hs3).mono ?_
        rintro e w11 ⟨P3, p3, rfl, hbn, hq3o⟩
        replace hx := below_step hx hbn
        replace hr3 := hr3.go hbn
        replace hs3 := hs3.go hbn
        have hq3 := hq3o.rd
        clear hbn hq3o
        go_wp2_with fail
        refine (HQ.out _ hr3 hs3).mono ?_
        rintro e w12 ⟨P4, p4, rfl, hbn, hq4o⟩
        replace hx := below_step hx hbn
        replace hr3 := hr3.go hbn
        replace hs3 := hs3.go hbn
        replace hq3 := hq3.go hbn
        have hq4 := hq4o.rd
        clear hbn hq4o
        clear HP HQ
        go_wp2_with fail
        refine (vInts_c SV P3 P4 p3 p4 _ hq3 hq4 HL3.out).mono ?_
        rintro e w13 ⟨rfl, hbn⟩
        replace hx := below_step hx hbn
        replace hr3 := hr3.go hbn
        replace hs3 := hs3.go hbn
        replace hq3 := hq3.go hbn
        replace hq4 := hq4.go hbn
        clear hbn hq3 hq4 hr3 hs3
        go_wp2_with fail
        refine (dCodesAt_c bs _ _ _ (hr.go hx) hn hc HB.out).mono ?_
        rintro e w14 ⟨B4, c4, us, pl, wh, rfl, hl14, hok, hcap, hpl, hwh, hr4o, hbn⟩
        replace hx := below_step hx hbn
        have hr4 := hr4o.rd
        clear hr4o
        clear hbn hok hcap
        have HP := Lib.hid (fun (v : World) (h : Rd encFlaw 4 v.heap.size v B4 us) => implCodesAt_c us B4 c4 pl wh v h (by omega))
        have HQ := Lib.hid (fun (v : World) (h : Rd encFlaw 4 v.heap.size v B4 us) => specCodesAt_c us B4 c4 pl wh v h (by omega))
        have HL4 := Lib.hid (catV_len us pl wh)
        generalize catV us pl wh = CV at *
        generalize catB us pl wh = CB at *
        go_wp2_with fail
        refine (HP.out _ hr4).mono ?_
        rintro e w15 ⟨P5, p5, rfl, hbn, hq5o⟩
        replace hx := below_step hx hbn
        replace hr4 := hr4.go hbn
        have hq5 := hq5o.rd
        clear hbn hq5o
        go_wp2_with fail
        refine (HQ.out _ hr4).mono ?_
        rintro e w16 ⟨P6, p6, rfl, hbn, hq6o⟩
        replace hx := below_step hx hbn
        replace hr4 := hr4.go hbn
        replace hq5 := hq5.go hbn
        have hq6 := hq6o.rd
        clear hbn hq6o
        clear HP HQ
        go_wp2_with fail
        refine (vInts_c CV P5 P6 p5 p6 _ hq5 hq6 HL4.out).mono ?_
        rintro e w17 ⟨rfl, hbn⟩
        replace hx := below_step hx hbn
        replace hr4 := hr4.go hbn
        replace hq5 := hq5.go hbn
        replace hq6 := hq6.go hbn
        clear hbn
        go_wp2_with fail
        go_returns
        exact ⟨ret_bool (by simp), hx⟩
end Go.Proofs.Ytedehldojicimaa
