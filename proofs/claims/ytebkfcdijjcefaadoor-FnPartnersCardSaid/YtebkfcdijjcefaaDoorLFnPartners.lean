/- The walk of the law FnPartners. No condition but that the code is one that can be, and that the table of powers lies as it is listed. -/
import Derived.Test.YtebkfcdijjcefaaDoorHoDraws
import Derived.Test.YtebkfcdijjcefaaDoorHoFnP
import Derived.Test.YtebkfcdijjcefaaDoorHoSmall
import Derived.Test.YtebkfcdijjcefaaDoorHoLaw1
import Derived.Test.YtebkfcdijjcefaaDoorTxHold
import Derived.Deep.DeepCutAuto
namespace Go.Proofs.YtebkfcdijjcefaaDoor
set_option linter.unusedVariables false
set_option linter.unusedSimpArgs false
open Go.RowKit
attribute [local irreducible] wpQuiet
theorem nameB {B : Nat} {a w : World} (_ : Below B a w) : ∃ W, W = w := ⟨w, rfl⟩
theorem cntB_rng {xs : List Hold} {o : ByteArray} {z : Int} (h : cntB xs o z = true) : 1 ≤ z ∧ z ≤ 99 := by
  simp only [cntB, Bool.and_eq_true, inR_iff] at h
  exact h.2
theorem ownB_rng {xs : List Hold} {z : Int} (h : ownB xs z = true) : 1 ≤ z ∧ z ≤ 99 := by
  simp only [ownB, Bool.and_eq_true, inR_iff] at h
  exact h.2
theorem sz_ok {xs : List Hold} (h : ∀ x ∈ xs, OkH x) : ∀ x ∈ xs, x.owner.size ≤ 9223372036854775807 := fun x hx => by have := (h x hx).1; omega
set_option maxRecDepth 100000 in
set_option maxHeartbeats 1600000 in
theorem lawFnPartners_c (bs : List Int) (A : Option Addr) (c : Nat) (w : World) (hr : Rd encY 1 w.heap.size w A bs) (hm : bs.length ≤ 9223372036854775807) (hc : bs.length ≤ c) (hb : ∀ b ∈ bs, ByteI b) (ht : Pow w) :
    Calls Tryd.prog 3 #[.slice A bs.length c] w (Ret (.bool true) w) := by
  have HB := Lib.hid hb
  clear hb
  have HT := Lib.hid ht
  clear ht
  by_cases hbig : 65536 < bs.length
  · have hd : decide (65536 < bs.length) = true := decide_eq_true hbig
    go_enter Tryd.func3, Tryd.ntmps3
    go_wp2_with (go_at_call 4; refine (rBig_c _ _ _ _).mono ?_; rw [hd]; rintro e w' ⟨rfl, rfl⟩)
    go_returns
    exact ⟨rfl, Below.refl _ _⟩
  have hd : decide (65536 < bs.length) = false := decide_eq_false hbig
  have hn : bs.length ≤ 65536 := by omega
  clear hbig
  go_enter Tryd.func3, Tryd.ntmps3
  go_wp2_with (go_at_call 4; refine (rBig_c _ _ _ _).mono ?_; rw [hd]; rintro e w' ⟨rfl, rfl⟩)
  clear hd
  refine (dBestPartner_c bs _ _ _ hr hn hc HB.out).mono ?_
  rintro e w1 ⟨B1, c1, xs, o, rfl, hl, hok, ho0, hown, hx⟩
  have hr1 := hown.rd
  have hz1 := sz_ok hok
  have HSZ := Lib.hid (fun (k : Nat) (h : k < xs.length) => hz1 xs[k] (List.getElem_mem h))
  clear hown hok
  have HP := Lib.hid (fun (v : World) (h : Rd encHold 3 v.heap.size v B1 xs) => implBestPartner_c xs B1 c1 o v h (by omega) hz1 (by omega))
  have HQ := Lib.hid (fun (v : World) (h : Rd encHold 3 v.heap.size v B1 xs) => specBestPartner_c xs B1 c1 o v h (by omega) hz1 (by omega))
  have HP2 := Lib.hid (fun (v : World) (h : Rd encHold 3 v.heap.size v B1 xs) => implRareItems_c xs B1 c1  v h (by omega) hz1 )
  have HQ2 := Lib.hid (fun (v : World) (h : Rd encHold 3 v.heap.size v B1 xs) => specRareItems_c xs B1 c1  v h (by omega) hz1 )
  have HW := Lib.hid (fun (a : ByteArray) (ha : a.size ≤ 9223372036854775807) (v : World) (h : Rd encHold 3 v.heap.size v B1 xs) => implSwapPairs_c xs B1 c1 o a v h (by omega) hz1 (by omega) ha)
  have HO := Lib.hid (fun (z : Int) (hz : -9223372036854775808 ≤ z ∧ z ≤ 9223372036854775807) (v : World) (h : Rd encHold 3 v.heap.size v B1 xs) => implOwnersOf_c xs B1 c1 z v h (by omega) hz1 hz)
  have HF := Lib.hid (fun (h : bestB xs o = true) (j : Nat) (hj : j < xs.length) (hne : xs[j].owner ≠ o) => best_law h j hj hne)
  have HR := Lib.hid (fun (z : Int) (h : z ∈ rareV xs) => rare_law h)
  have HRL := Lib.hid (rareV_len xs)
  generalize bestS xs o = S1 at *
  generalize bestN xs o = N1 at *
  generalize bestB xs o = G1 at *
  generalize rareV xs = RV at *
  generalize goodH xs = gx at *
  go_wp2_with fail
  refine (HP.out _ hr1).mono ?_
  rintro e w2 ⟨rfl, hbn⟩
  replace hx := below_step hx hbn
  replace hr1 := hr1.go hbn
  clear hbn
  go_wp2_with fail
  refine (HQ.out _ hr1).mono ?_
  rintro e w3 ⟨rfl, hbn⟩
  replace hx := below_step hx hbn
  replace hr1 := hr1.go hbn
  clear hbn HP HQ
  go_wp2_with fail
  go_loopw [11] (fun i wr => ∃ k : Nat, k ≤ xs.length ∧ i = .int .i64 k ∧ Below w3.heap.size w3 wr) (fun i _ => xs.length - (intOf i).toNat)
  case atStart => exact ⟨0, Nat.zero_le _, rfl, Below.refl _ _⟩
  case round => as_aux_lemma =>
    obtain ⟨k, hk, rfl, hbr⟩ := hrel
    have hbl := hbr
    replace hx := below_step hx hbr
    replace hr1 := hr1.go hbr
    clear hbr
    go_upto_region 9 with fail
    go_cut [89] (fun v wx => ∃ t : Bool, v = .bool t ∧ (t = true → k < xs.length ∧ G1 = true) ∧ wr = wx)
    case first => as_aux_lemma =>
      by_cases hlt : k < xs.length
      · cases G1
        · go_wp2_with fail
          go_meet
          exact ⟨false, rfl, fun h => (by cases h), rfl⟩
        · go_wp2_with fail
          go_meet
          exact ⟨true, rfl, fun _ => ⟨hlt, by simp⟩, rfl⟩
      · go_wp2_with fail
        go_meet
        exact ⟨false, rfl, fun h => (by cases h), rfl⟩
    case rest => as_aux_lemma =>
      obtain ⟨t, rfl, htt, hww⟩ := hcut
      subst hww
      cases t
      case true => as_aux_lemma =>
        obtain ⟨hlt, rfl⟩ := htt rfl
        clear htt HP2 HQ2 HO HR HRL HB HT hr
        obtain ⟨bD, oD, rfl, hbD, d0, d1, d2⟩ := hr1.atHold hlt
        clear d1 d2
        have hsz := HSZ.out k hlt
        have HFk := Lib.hid (fun (h : xs[k].owner ≠ o) => HF.out rfl k hlt h)
        clear HF HSZ
        generalize xs[k].owner = uo at *
        by_cases he : uo = o
        · have he' : (uo.toList == o.toList) = true := by rw [toList_beq]; simpa using he
          clear HFk
          go_wp2_with fail
          go_roundw
          case rel => exact ⟨k + 1, by omega, by go_num, hbl⟩
          case measure => simp [intOf]; omega
        · have he' : (uo.toList == o.toList) = false := by rw [toList_beq]; simpa using he
          obtain ⟨f1, f2, f3⟩ := HFk.out he
          have HWk := Lib.hid (HW.out uo hsz)
          clear HW HFk
          generalize twoB xs o uo = TB at *
          generalize pairV xs o uo = PV at *
          subst f1
          have hgt : decide (N1 < PV) = false := decide_eq_false (by omega)
          go_wp2_with fail
          refine (HWk.out _ hr1).mono ?_
          rintro e v2 ⟨rfl, hbn⟩
          replace d0 := (hbn.cell (p := ⟨bD, _, none⟩) hbD).trans d0
          have hbz := hbl.trans (hbn.mono hbl.size)
          clear hbn hr1
          by_cases hs : uo = S1
          · have hs' : (uo.toList == S1.toList) = true := by rw [toList_beq]; simpa using hs
            obtain rfl := f3 hs
            clear f3 he hs
            go_wp2_with fail
            go_roundw
            case rel => exact ⟨k + 1, by omega, by go_num, hbz⟩
            case measure => simp [intOf]; omega
          · have hs' : (uo.toList == S1.toList) = false := by rw [toList_beq]; simpa using hs
            clear f3 he hs
            go_wp2_with fail
            go_roundw
            case rel => exact ⟨k + 1, by omega, by go_num, hbz⟩
            case measure => simp [intOf]; omega
      case false => as_aux_lemma =>
        clear HW HF HSZ htt
        go_wp2_with fail
        refine (HP2.out _ hr1).mono ?_
        rintro e w4 ⟨P1, p1, rfl, hbn, hq1o⟩
        replace hx := below_step hx hbn
        replace hr1 := hr1.go hbn
        have hq1 := hq1o.rd
        clear hbn hq1o
        go_wp2_with fail
        refine (HQ2.out _ hr1).mono ?_
        rintro e w5 ⟨P2, p2, rfl, hbn, hq2o⟩
        replace hx := below_step hx hbn
        replace hr1 := hr1.go hbn
        replace hq1 := hq1.go hbn
        have hq2 := hq2o.rd
        clear hbn hq2o
        clear HP2 HQ2
        go_wp2_with fail
        refine (rInts_c RV P1 P2 p1 p2 _ hq1 hq2 HRL.out).mono ?_
        rintro e w6 ⟨rfl, hbn⟩
        replace hx := below_step hx hbn
        replace hr1 := hr1.go hbn
        replace hq1 := hq1.go hbn
        replace hq2 := hq2.go hbn
        clear hbn hq2
        go_wp2_with fail
        go_loopw [18] (fun i wx => ∃ k : Nat, k ≤ RV.length ∧ i = .int .i64 k ∧ Below w6.heap.size w6 wx) (fun i _ => RV.length - (intOf i).toNat)
        case atStart => exact ⟨0, Nat.zero_le _, rfl, Below.refl _ _⟩
        case round => as_aux_lemma =>
          obtain ⟨k, hk, rfl, hbr⟩ := hrel
          have hbl2 := hbr
          have hdl : RV.length ≤ 2097152 := HRL.out
          replace hx := below_step hx hbr
          replace hr1 := hr1.go hbr
          replace hq1 := hq1.go hbr
          clear hbr
          by_cases hlt : k < RV.length
          · obtain ⟨bD, oD, rfl, hbD, d0⟩ := hq1.int hlt
            have hmem : RV[k] ∈ RV := List.getElem_mem hlt
            obtain ⟨f1, f2⟩ := HR.out _ hmem
            clear HR hmem HRL HB HT hr
            generalize RV[k] = z at *
            have hzz := ownB_rng f1
            have HOz := HO.out z (by omega) _ hr1
            rw [f1] at HOz
            generalize ownV xs z = OV at *
            rw [f2] at HOz
            clear HO
            go_wp2_with fail
            refine HOz.mono ?_
            rintro e v2 ⟨Q, q, rfl, hbn, hqo⟩
            have hbz := hbl2.trans (hbn.mono hbl2.size)
            clear hbn hqo HOz hr1 hq1
            go_wp2_with fail
            go_roundw
            case rel => exact ⟨k + 1, by omega, by go_num, hbz⟩
            case measure => simp [intOf]; omega
          · clear HO HR HRL hbl2 hdl
            clear hr1 hq1
            go_wp2_with fail
            refine (dMissingUpTo_c bs _ _ _ (hr.go hx) hn hc HB.out).mono ?_
            rintro e w7 ⟨B2, c2, ys, who, last, rfl, hl2, hok2, hwho, hlast, hown2, hbn⟩
            replace hx := below_step hx hbn
            have hr2 := hown2.rd
            have hz2 := sz_ok hok2
            clear hown2 hok2 hbn
            have HP := Lib.hid (fun (v : World) (h : Rd encHold 3 v.heap.size v B2 ys) => implMissingUpTo_c ys B2 c2 who last v h (by omega) hz2 (by omega) (by omega))
            have HQ := Lib.hid (fun (v : World) (h : Rd encHold 3 v.heap.size v B2 ys) => specMissingUpTo_c ys B2 c2 who last v h (by omega) hz2 (by omega) (by omega))
            have HC := Lib.hid (fun (z : Int) (hz : -9223372036854775808 ≤ z ∧ z ≤ 9223372036854775807) (v : World) (h : Rd encHold 3 v.heap.size v B2 ys) => implCountOf_c ys B2 c2 who z v h (by omega) hz2 (by omega) hz)
            have HF := Lib.hid (fun (h : cntB ys who last = true) (z : Int) (h1 : 1 ≤ z) (h2 : z ≤ last) => miss_law h h1 h2)
            have HL1 := Lib.hid (missV_len ys who last)
            generalize missV ys who last = MV at *
            generalize cntB ys who last = TB at *
            go_wp2_with fail
            refine (HP.out _ hr2).mono ?_
            rintro e w8 ⟨P3, p3, rfl, hbn, hq3o⟩
            replace hx := below_step hx hbn
            replace hr2 := hr2.go hbn
            have hq3 := hq3o.rd
            clear hbn hq3o
            go_wp2_with fail
            refine (HQ.out _ hr2).mono ?_
            rintro e w9 ⟨P4, p4, rfl, hbn, hq4o⟩
            replace hx := below_step hx hbn
            replace hr2 := hr2.go hbn
            replace hq3 := hq3.go hbn
            have hq4 := hq4o.rd
            clear hbn hq4o
            clear HP HQ
            go_wp2_with fail
            refine (rInts_c MV P3 P4 p3 p4 _ hq3 hq4 HL1.out).mono ?_
            rintro e w10 ⟨rfl, hbn⟩
            replace hx := below_step hx hbn
            replace hr2 := hr2.go hbn
            replace hq3 := hq3.go hbn
            replace hq4 := hq4.go hbn
            clear hbn hq4
            go_wp2_with fail
            go_loopw [28] (fun i wx => ∃ z : Int, i = .int .i64 z ∧ 1 ≤ z ∧ z ≤ 101 ∧ Below w10.heap.size w10 wx) (fun i _ => (102 - intOf i).toNat)
            case atStart => exact ⟨1, rfl, by omega, by omega, Below.refl _ _⟩
            case round => as_aux_lemma =>
              obtain ⟨z, rfl, hza, hzb, hbr⟩ := hrel
              obtain ⟨WZ, hWZ⟩ := nameB hbr
              subst hWZ
              have hbl3 := hbr
              replace hx := below_step hx hbr
              replace hr2 := hr2.go hbr
              replace hq3 := hq3.go hbr
              clear hbr
              go_upto_region 31 with fail
              go_cut [206] (fun v wx => ∃ t : Bool, v = .bool t ∧ (t = true → z ≤ last ∧ TB = true) ∧ WZ = wx)
              case first => as_aux_lemma =>
                by_cases hlt : z ≤ last
                · cases TB
                  · go_wp2_with fail
                    go_meet
                    exact ⟨false, rfl, fun h => (by cases h), rfl⟩
                  · go_wp2_with fail
                    go_meet
                    exact ⟨true, rfl, fun _ => ⟨hlt, by simp⟩, rfl⟩
                · go_wp2_with fail
                  go_meet
                  exact ⟨false, rfl, fun h => (by cases h), rfl⟩
              case rest => as_aux_lemma =>
                obtain ⟨t, rfl, htt, hww⟩ := hcut
                subst hww
                cases t
                case true => as_aux_lemma =>
                  obtain ⟨hlt, rfl⟩ := htt rfl
                  obtain ⟨f1, f2⟩ := HF.out rfl z hza hlt
                  clear HF htt HB HT hr
                  have HCz := Lib.hid (HC.out z (by omega))
                  clear HC
                  generalize cntV ys who z = V at *
                  generalize cntB ys who z = K at *
                  subst f1
                  obtain ⟨D, hD⟩ : ∃ D, decide (z ∈ MV) = D := ⟨_, rfl⟩
                  rw [hD] at f2
                  have hV : (V == 0) = D := by rw [← f2]; simp [BEq.beq]
                  have HH := Lib.hid (fun (v : World) (h : Rd encI 1 v.heap.size v P3 MV) => rHas_c MV P3 p3 z v h HL1.out)
                  rw [hD] at HH
                  clear hD f2
                  go_wp2_with fail
                  refine (HCz.out _ hr2).mono ?_
                  rintro e v2 ⟨rfl, hbn⟩
                  have hbz := hbl3.trans (hbn.mono hbl3.size)
                  replace hq3 := hq3.go hbn
                  clear hbn hr2
                  go_wp2_with fail
                  refine (HH.out _ hq3).mono ?_
                  rintro e v3 ⟨rfl, hbn⟩
                  have hby := hbz.trans (hbn.mono hbz.size)
                  clear hbn hq3 hbz
                  go_wp2_with fail
                  go_roundw
                  case rel => exact ⟨z + 1, by go_num, by omega, by omega, hby⟩
                  case measure => simp [intOf]; omega
                case false => as_aux_lemma =>
                  clear HC HF HL1 htt hbl3
                  clear hr2 hq3
                  go_wp2_with fail
                  refine (dSwapPairs_c bs _ _ _ (hr.go hx) hn hc HB.out).mono ?_
                  rintro e w11 ⟨B3, c3, us, a, b, rfl, hl3, hok3, ha, hb, hown3, hbn⟩
                  replace hx := below_step hx hbn
                  have hr3 := hown3.rd
                  have hz3 := sz_ok hok3
                  clear hown3 hok3 hbn
                  have HP := Lib.hid (fun (v : World) (h : Rd encHold 3 v.heap.size v B3 us) => implSwapPairs_c us B3 c3 a b v h (by omega) hz3 (by omega) (by omega))
                  have HQ := Lib.hid (fun (v : World) (h : Rd encHold 3 v.heap.size v B3 us) => specSwapPairs_c us B3 c3 a b v h (by omega) hz3 (by omega) (by omega))
                  generalize pairV us a b = PV at *
                  generalize twoB us a b = TV at *
                  go_wp2_with fail
                  refine (HP.out _ hr3).mono ?_
                  rintro e w12 ⟨rfl, hbn⟩
                  replace hx := below_step hx hbn
                  replace hr3 := hr3.go hbn
                  clear hbn
                  go_wp2_with fail
                  refine (HQ.out _ hr3).mono ?_
                  rintro e w13 ⟨rfl, hbn⟩
                  replace hx := below_step hx hbn
                  replace hr3 := hr3.go hbn
                  clear hbn HP HQ
                  clear hr3
                  go_wp2_with fail
                  refine (dOwnersOf_c bs _ _ _ (hr.go hx) hn hc HB.out).mono ?_
                  rintro e w14 ⟨B4, c4, vs, z4, rfl, hl4, hok4, hz40, hown4, hbn⟩
                  replace hx := below_step hx hbn
                  have hr4 := hown4.rd
                  have hz4 := sz_ok hok4
                  clear hown4 hok4 hbn
                  have HP := Lib.hid (fun (v : World) (h : Rd encHold 3 v.heap.size v B4 vs) => implOwnersOf_c vs B4 c4 z4 v h (by omega) hz4 (by omega))
                  have HQ := Lib.hid (fun (v : World) (h : Rd encHold 3 v.heap.size v B4 vs) => specOwnersOf_c vs B4 c4 z4 v h (by omega) hz4 (by omega))
                  have HL4 := Lib.hid (ownV_len (xs := vs) (z := z4) (by omega))
                  generalize ownV vs z4 = OV at *
                  generalize ownB vs z4 = OB at *
                  go_wp2_with fail
                  refine (HP.out _ hr4).mono ?_
                  rintro e w15 ⟨P5, p5, rfl, hbn, hq5o⟩
                  replace hx := below_step hx hbn
                  replace hr4 := hr4.go hbn
                  have hq5 := hq5o.rd
                  clear hbn hq5o
                  go_wp2_with fail
                  refine (HQ.out _ hr4).mono ?_
                  rintro e w16 ⟨P6, p6, rfl, hbn, hq6o⟩
                  replace hx := below_step hx hbn
                  replace hr4 := hr4.go hbn
                  replace hq5 := hq5.go hbn
                  have hq6 := hq6o.rd
                  clear hbn hq6o
                  clear HP HQ
                  clear hr4
                  go_wp2_with fail
                  refine (dHoldText_c bs _ _ _ (hr.go hx) hn hc HB.out).mono ?_
                  rintro e w17 ⟨y, rfl, hoky, hbn⟩
                  replace hx := below_step hx hbn
                  replace hq5 := hq5.go hbn
                  replace hq6 := hq6.go hbn
                  clear hbn
                  go_upto_region 45 with fail
                  have hA := (Below.refl w17.heap.size w17).alloc (Nat.le_refl _) (.cells #[.string y.owner, .int .i64 y.item, .int .i64 y.count] 30)
                  have hbx := boxV_at (w17.heap.size + 1) w17 [.string y.owner, .int .i64 y.item, .int .i64 y.count] 30 (by omega)
                  simp only [List.toArray] at hbx
                  have p44c0 := hbx.2.2.2 0 _ rfl
                  have p44c1 := hbx.2.2.2 1 _ rfl
                  have p44c2 := hbx.2.2.2 2 _ rfl
                  have hsp44 : w17.heap.size < (w17.alloc (.cells #[.string y.owner, .int .i64 y.item, .int .i64 y.count] 30)).heap.size := by simp
                  replace hx := below_step hx hA
                  replace hq5 := hq5.go hA
                  replace hq6 := hq6.go hA
                  clear hbx hA
                  generalize w17.alloc (.cells #[.string y.owner, .int .i64 y.item, .int .i64 y.count] 30) = Wp44 at *
                  generalize w17.heap.size = p44 at *
                  have hys : y.owner.size ≤ 9223372036854775807 := by have := hoky.1; omega
                  have HP := Lib.hid (fun (v : World) (h : Pow v) => implHoldText_c y v hys h)
                  have HQ := Lib.hid (fun (v : World) => specHoldText_c y v hys)
                  generalize htV y = TX at *
                  generalize y.ok = KX at *
                  go_wp2_with fail
                  refine (HP.out _ (HT.out.go hx)).mono ?_
                  rintro e w18 ⟨rfl, hbn⟩
                  replace hx := below_step hx hbn
                  replace p44c0 := (hbn.cell (p := ⟨p44, 0, none⟩) hsp44).trans p44c0
                  replace p44c1 := (hbn.cell (p := ⟨p44, 1, none⟩) hsp44).trans p44c1
                  replace p44c2 := (hbn.cell (p := ⟨p44, 2, none⟩) hsp44).trans p44c2
                  replace hsp44 := Nat.lt_of_lt_of_le hsp44 hbn.size
                  replace hq5 := hq5.go hbn
                  replace hq6 := hq6.go hbn
                  clear hbn
                  go_wp2_with fail
                  refine (HQ.out _).mono ?_
                  rintro e w19 ⟨rfl, hbn⟩
                  replace hx := below_step hx hbn
                  replace p44c0 := (hbn.cell (p := ⟨p44, 0, none⟩) hsp44).trans p44c0
                  replace p44c1 := (hbn.cell (p := ⟨p44, 1, none⟩) hsp44).trans p44c1
                  replace p44c2 := (hbn.cell (p := ⟨p44, 2, none⟩) hsp44).trans p44c2
                  replace hsp44 := Nat.lt_of_lt_of_le hsp44 hbn.size
                  replace hq5 := hq5.go hbn
                  replace hq6 := hq6.go hbn
                  clear hbn HP HQ
                  go_wp2_with fail
                  refine (rTexts_c OV P5 P6 p5 p6 _ hq5 hq6 HL4.out).mono ?_
                  rintro e w20 ⟨rfl, hbn⟩
                  replace hx := below_step hx hbn
                  replace p44c0 := (hbn.cell (p := ⟨p44, 0, none⟩) hsp44).trans p44c0
                  replace p44c1 := (hbn.cell (p := ⟨p44, 1, none⟩) hsp44).trans p44c1
                  replace p44c2 := (hbn.cell (p := ⟨p44, 2, none⟩) hsp44).trans p44c2
                  replace hsp44 := Nat.lt_of_lt_of_le hsp44 hbn.size
                  replace hq5 := hq5.go hbn
                  replace hq6 := hq6.go hbn
                  clear hbn
                  go_wp2_with fail
                  go_returns
                  exact ⟨ret_bool (by simp), hx⟩
end Go.Proofs.YtebkfcdijjcefaaDoor
