/- The walk of the law FnWants. No condition but that the code is one that can be. -/
import Derived.Test.YtebkfcdijjcefaaHoDrawW
import Derived.Test.YtebkfcdijjcefaaHoFnW
import Derived.Test.YtebkfcdijjcefaaHoSmall
import Derived.Test.YtebkfcdijjcefaaHoLaw1
import Derived.Deep.DeepCutAuto
import Derived.Deep.RegionHeld3
namespace Go.Proofs.Ytebkfcdijjcefaa
set_option linter.unusedVariables false
set_option linter.unusedSimpArgs false
open Go.RowKit
attribute [local irreducible] wpQuiet
theorem cntB_rng {xs : List Hold} {o : ByteArray} {z : Int} (h : cntB xs o z = true) : 1 ≤ z ∧ z ≤ 99 := by
  simp only [cntB, Bool.and_eq_true, inR_iff] at h
  exact h.2
theorem sz_ok {xs : List Hold} (h : ∀ x ∈ xs, OkH x) : szH xs := fun x hx => by have := (h x hx).1; omega
theorem good_bd {xs : List Hold} (h : goodH xs = true) : xs.length ≤ 20 ∧ szH xs ∧ ∀ x ∈ xs, 0 ≤ x.count ∧ x.count ≤ 100 := by
  refine ⟨goodH_len h, fun x hx => ?_, fun x hx => ?_⟩
  · obtain ⟨i, hi, rfl⟩ := List.getElem_of_mem hx
    have k := goodH_ok h hi
    simp [Hold.ok, isW, inR] at k
    obtain ⟨⟨⟨⟨_, _⟩, a⟩, b, c⟩, d, e⟩ := k
    omega
  · obtain ⟨i, hi, rfl⟩ := List.getElem_of_mem hx
    have k := goodH_ok h hi
    simp [Hold.ok, isW, inR] at k
    obtain ⟨⟨⟨⟨_, _⟩, a⟩, b, c⟩, d, e⟩ := k
    omega
theorem gv_good {xs : List Hold} {a b : ByteArray} {z : Int} (h : gvB xs a b z = true) : goodH (gvL xs a b z) = true := by
  have h' := h
  simp only [gvB, Bool.and_eq_true] at h'
  have hL : gvL xs a b z = mvV xs a b z := by simp [gvL, h]
  rw [hL]; exact h'.2.2
theorem ds_good {xs : List Hold} {a b : ByteArray} {n : Int} (h : dsB xs a b n = true) : goodH (dsL xs a b n) = true := by
  have h' := h
  simp only [dsB, Bool.and_eq_true] at h'
  have hL : dsL xs a b n = swH xs a b n := by simp [dsL, h]
  rw [hL]; exact h'.2
theorem sumC_take {xs : List Hold} {k : Nat} (h : k < xs.length) : sumC (xs.take (k + 1)) = sumC (xs.take k) + xs[k].count := by
  rw [take_succ_get xs k h, sumC_app]; simp [sumC]
theorem sumC_bd {xs : List Hold} (h : ∀ x ∈ xs, 0 ≤ x.count ∧ x.count ≤ 100) : ∀ k, 0 ≤ sumC (xs.take k) ∧ sumC (xs.take k) ≤ 100 * k
  | 0 => by simp [sumC]
  | k + 1 => by
    obtain ⟨i1, i2⟩ := sumC_bd h k
    by_cases hk : k < xs.length
    · rw [sumC_take hk]
      have := h xs[k] (List.getElem_mem hk)
      omega
    · have e : xs.take (k + 1) = xs.take k := by rw [List.take_of_length_le (by omega), List.take_of_length_le (by omega)]
      rw [e]; omega
set_option maxRecDepth 100000 in
set_option maxHeartbeats 1600000 in
theorem lawFnWants_c (bs : List Int) (A : Option Addr) (c : Nat) (w : World) (hr : Rd encY 1 w.heap.size w A bs) (hm : bs.length ≤ 9223372036854775807) (hc : bs.length ≤ c) (hb : ∀ b ∈ bs, ByteI b) :
    Calls Try.prog 3 #[.slice A bs.length c] w (Ret (.bool true) w) := by
  have HB := Lib.hid hb
  clear hb
  by_cases hbig : 65536 < bs.length
  · have hd : decide (65536 < bs.length) = true := decide_eq_true hbig
    go_enter Try.func3, Try.ntmps3
    go_wp2_with (go_at_call 4; refine (rBig_c _ _ _ _).mono ?_; rw [hd]; rintro e w' ⟨rfl, rfl⟩)
    go_returns
    exact ⟨rfl, Below.refl _ _⟩
  have hd : decide (65536 < bs.length) = false := decide_eq_false hbig
  have hn : bs.length ≤ 65536 := by omega
  clear hbig
  go_enter Try.func3, Try.ntmps3
  go_wp2_with (go_at_call 4; refine (rBig_c _ _ _ _).mono ?_; rw [hd]; rintro e w' ⟨rfl, rfl⟩)
  clear hd
  refine (dGiveItem_c bs _ _ _ hr hn hc HB.out).mono ?_
  rintro e w1 ⟨B1, c1, xs, o0, o1, i2, rfl, hl, hok, ho0, ho1, hi2, hown, hx⟩
  have hr1 := hown.rd
  have hz1 := sz_ok hok
  clear hown hok
  have HP := Lib.hid (fun (v : World) (h : Rd encHold 3 v.heap.size v B1 xs) => implGiveItem_c xs B1 c1 o0 o1 i2 v h (by omega) hz1 (by omega) (by omega) (by omega))
  have HQ := Lib.hid (fun (v : World) (h : Rd encHold 3 v.heap.size v B1 xs) => specGiveItem_c xs B1 c1 o0 o1 i2 v h (by omega) hz1 (by omega) (by omega) (by omega))
  have HC1 := Lib.hid (fun (v : World) (h : Rd encHold 3 v.heap.size v B1 xs) => implCountOf_c xs B1 c1 o0 i2 v h (by omega) hz1 (by omega) (by omega))
  have HC3 := Lib.hid (fun (v : World) (h : Rd encHold 3 v.heap.size v B1 xs) => implCountOf_c xs B1 c1 o1 i2 v h (by omega) hz1 (by omega) (by omega))
  have HC2 := Lib.hid (fun (hG : gvB xs o0 o1 i2 = true) (v : World) (B : Option Addr) (c : Nat) (h : Rd encHold 3 v.heap.size v B (gvL xs o0 o1 i2)) => implCountOf_c (gvL xs o0 o1 i2) B c o0 i2 v h (by have := (good_bd (gv_good hG)).1; omega) (good_bd (gv_good hG)).2.1 (by omega) (by omega))
  have HC4 := Lib.hid (fun (hG : gvB xs o0 o1 i2 = true) (v : World) (B : Option Addr) (c : Nat) (h : Rd encHold 3 v.heap.size v B (gvL xs o0 o1 i2)) => implCountOf_c (gvL xs o0 o1 i2) B c o1 i2 v h (by have := (good_bd (gv_good hG)).1; omega) (good_bd (gv_good hG)).2.1 (by omega) (by omega))
  have HA1 := Lib.hid (fun (v : World) (h : Rd encHold 3 v.heap.size v B1 xs) => implAreHolds_c xs B1 c1  v h (by omega) hz1 )
  have HA2 := Lib.hid (fun (v : World) (h : Rd encHold 3 v.heap.size v B1 xs) => specAreHolds_c xs B1 c1  v h (by omega) hz1 )
  have HG := Lib.hid (fun (hG : gvB xs o0 o1 i2 = true) => give_law hG)
  have HLL := Lib.hid (gvL_len xs o0 o1 i2)
  generalize gvL xs o0 o1 i2 = L at *
  generalize gvB xs o0 o1 i2 = G at *
  generalize goodH xs = gx at *
  go_wp2_with fail
  refine (HP.out _ hr1).mono ?_
  rintro e w2 ⟨P1, p1, rfl, hbn, hq1o⟩
  replace hx := below_step hx hbn
  replace hr1 := hr1.go hbn
  have hq1 := hq1o.rd
  clear hbn hq1o
  go_wp2_with fail
  refine (HQ.out _ hr1).mono ?_
  rintro e w3 ⟨P2, p2, rfl, hbn, hq2o⟩
  replace hx := below_step hx hbn
  replace hr1 := hr1.go hbn
  replace hq1 := hq1.go hbn
  have hq2 := hq2o.rd
  clear hbn hq2o
  clear HP HQ
  go_wp2_with fail
  refine (rHolds_c L P1 P2 p1 p2 _ hq1 hq2 HLL.out).mono ?_
  rintro e w4 ⟨rfl, hbn⟩
  replace hx := below_step hx hbn
  replace hr1 := hr1.go hbn
  replace hq1 := hq1.go hbn
  replace hq2 := hq2.go hbn
  clear hbn hq2
  go_upto_if 83 with fail
  go_cut [] (fun wx => Below w4.heap.size w4 wx)
  case first => as_aux_lemma =>
    cases G
    · go_wp2_with fail
      go_meet
      exact Below.refl _ _
    replace HC2 := Lib.hid (HC2.out rfl)
    replace HC4 := Lib.hid (HC4.out rfl)
    obtain ⟨e1, e2, e3, e4, e5, e6⟩ := HG.out rfl
    generalize cntV xs o0 i2 = V1 at *
    generalize cntB xs o0 i2 = K1 at *
    generalize cntV L o0 i2 = V2 at *
    generalize cntB L o0 i2 = K2 at *
    generalize cntV xs o1 i2 = V3 at *
    generalize cntB xs o1 i2 = K3 at *
    generalize cntV L o1 i2 = V4 at *
    generalize cntB L o1 i2 = K4 at *
    subst e1 e2 e3 e4
    have f5 : IntKind.i64.wrap (V1 - V2) = 1 := by rw [e5]; rfl
    have f6 : IntKind.i64.wrap (V4 - V3) = 1 := by rw [e6]; rfl
    clear HG HB hx
    have hy : Below w4.heap.size w4 w4 := Below.refl _ _
    go_wp2_with fail
    refine (HC1.out _ hr1).mono ?_
    rintro e v2 ⟨rfl, hbn⟩
    replace hy := below_step hy hbn
    replace hr1 := hr1.go hbn
    replace hq1 := hq1.go hbn
    clear hbn
    go_wp2_with fail
    refine (HC2.out _ _ _ hq1).mono ?_
    rintro e v3 ⟨rfl, hbn⟩
    replace hy := below_step hy hbn
    replace hr1 := hr1.go hbn
    replace hq1 := hq1.go hbn
    clear hbn
    go_wp2_with fail
    refine (HC3.out _ hr1).mono ?_
    rintro e v4 ⟨rfl, hbn⟩
    replace hy := below_step hy hbn
    replace hr1 := hr1.go hbn
    replace hq1 := hq1.go hbn
    clear hbn
    go_wp2_with fail
    refine (HC4.out _ _ _ hq1).mono ?_
    rintro e v5 ⟨rfl, hbn⟩
    replace hy := below_step hy hbn
    replace hr1 := hr1.go hbn
    replace hq1 := hq1.go hbn
    clear hbn
    go_wp2_with fail
    go_meet
    exact hy
  case rest => as_aux_lemma =>
    have hcut : Below w4.heap.size w4 wc := hcut
    clear HC1 HC2 HC3 HC4 HG HLL
    clear hq1
    replace hx := below_step hx hcut
    replace hr1 := hr1.go hcut
    clear hcut
    go_wp2_with fail
    refine (dCanGive_c bs _ _ _ (hr.go hx) hn hc HB.out).mono ?_
    rintro e w5 ⟨B2, c2, ys, a, b, rfl, hl2, hok2, ha, hb, hown2, hbn⟩
    replace hx := below_step hx hbn
    replace hr1 := hr1.go hbn
    have hr2 := hown2.rd
    have hz2 := sz_ok hok2
    clear hown2 hok2 hbn
    have HP := Lib.hid (fun (v : World) (h : Rd encHold 3 v.heap.size v B2 ys) => implCanGive_c ys B2 c2 a b v h (by omega) hz2 (by omega) (by omega))
    have HQ := Lib.hid (fun (v : World) (h : Rd encHold 3 v.heap.size v B2 ys) => specCanGive_c ys B2 c2 a b v h (by omega) hz2 (by omega) (by omega))
    have HP2 := Lib.hid (fun (v : World) (h : Rd encHold 3 v.heap.size v B2 ys) => implDoublesOf_c ys B2 c2 a v h (by omega) hz2 (by omega))
    have HQ2 := Lib.hid (fun (v : World) (h : Rd encHold 3 v.heap.size v B2 ys) => specDoublesOf_c ys B2 c2 a v h (by omega) hz2 (by omega))
    have HC := Lib.hid (fun (z : Int) (hz : -9223372036854775808 ≤ z ∧ z ≤ 9223372036854775807) (v : World) (h : Rd encHold 3 v.heap.size v B2 ys) => implCountOf_c ys B2 c2 b z v h (by omega) hz2 (by omega) hz)
    have HF := Lib.hid (fun (ht : twoB ys a b = true) (z : Int) (hz : z ∈ dblV ys a) => dbl_law ht hz)
    have HL1 := Lib.hid (giveV_len (xs := ys) (a := a) (b := b) (by omega))
    have HL2 := Lib.hid (dblV_len (xs := ys) (o := a) (by omega))
    generalize giveV ys a b = GV at *
    generalize twoB ys a b = TB at *
    generalize dblV ys a = DV at *
    generalize dblB ys a = DB at *
    go_wp2_with fail
    refine (HP.out _ hr2).mono ?_
    rintro e w6 ⟨P3, p3, rfl, hbn, hq3o⟩
    replace hx := below_step hx hbn
    replace hr1 := hr1.go hbn
    replace hr2 := hr2.go hbn
    have hq3 := hq3o.rd
    clear hbn hq3o
    go_wp2_with fail
    refine (HQ.out _ hr2).mono ?_
    rintro e w7 ⟨P4, p4, rfl, hbn, hq4o⟩
    replace hx := below_step hx hbn
    replace hr1 := hr1.go hbn
    replace hr2 := hr2.go hbn
    replace hq3 := hq3.go hbn
    have hq4 := hq4o.rd
    clear hbn hq4o
    clear HP HQ
    go_wp2_with fail
    refine (rInts_c GV P3 P4 p3 p4 _ hq3 hq4 HL1.out).mono ?_
    rintro e w8 ⟨rfl, hbn⟩
    replace hx := below_step hx hbn
    replace hr1 := hr1.go hbn
    replace hr2 := hr2.go hbn
    replace hq3 := hq3.go hbn
    replace hq4 := hq4.go hbn
    clear hbn hq4
    go_wp2_with fail
    refine (HP2.out _ hr2).mono ?_
    rintro e w9 ⟨P5, p5, rfl, hbn, hq5o⟩
    replace hx := below_step hx hbn
    replace hr1 := hr1.go hbn
    replace hr2 := hr2.go hbn
    replace hq3 := hq3.go hbn
    have hq5 := hq5o.rd
    clear hbn hq5o
    go_wp2_with fail
    refine (HQ2.out _ hr2).mono ?_
    rintro e w10 ⟨P6, p6, rfl, hbn, hq6o⟩
    replace hx := below_step hx hbn
    replace hr1 := hr1.go hbn
    replace hr2 := hr2.go hbn
    replace hq3 := hq3.go hbn
    replace hq5 := hq5.go hbn
    have hq6 := hq6o.rd
    clear hbn hq6o
    clear HP2 HQ2
    go_wp2_with fail
    refine (rInts_c DV P5 P6 p5 p6 _ hq5 hq6 HL2.out).mono ?_
    rintro e w11 ⟨rfl, hbn⟩
    replace hx := below_step hx hbn
    replace hr1 := hr1.go hbn
    replace hr2 := hr2.go hbn
    replace hq3 := hq3.go hbn
    replace hq5 := hq5.go hbn
    replace hq6 := hq6.go hbn
    clear hbn hq6
    go_wp2_with fail
    go_loopw [30] (fun i wr => ∃ k : Nat, k ≤ DV.length ∧ i = .int .i64 k ∧ Below w11.heap.size w11 wr) (fun i _ => DV.length - (intOf i).toNat)
    case atStart => exact ⟨0, Nat.zero_le _, rfl, Below.refl _ _⟩
    case round => as_aux_lemma =>
      obtain ⟨k, hk, rfl, hbr⟩ := hrel
      have hbl := hbr
      have hdl : DV.length ≤ 2097152 := HL2.out
      replace hx := below_step hx hbr
      replace hr1 := hr1.go hbr
      replace hr2 := hr2.go hbr
      replace hq3 := hq3.go hbr
      replace hq5 := hq5.go hbr
      clear hbr
      go_upto_region 25 with fail
      go_cut [194] (fun v wx => ∃ t : Bool, v = .bool t ∧ (t = true → k < DV.length ∧ TB = true) ∧ wr = wx)
      case first => as_aux_lemma =>
        by_cases hlt : k < DV.length
        · cases TB
          · go_wp2_with fail
            go_meet
            exact ⟨false, rfl, fun h => (by cases h), rfl⟩
          · go_wp2_with fail
            go_meet
            exact ⟨true, rfl, fun _ => ⟨hlt, by simp⟩, rfl⟩
        · go_wp2_with fail
          go_meet
          exact ⟨false, rfl, fun h => (by cases h), rfl⟩
      case rest => as_aux_lemma =>
        obtain ⟨t, rfl, htt, hww⟩ := hcut
        subst hww
        cases t
        case true => as_aux_lemma =>
          obtain ⟨hlt, rfl⟩ := htt rfl
          clear htt
          obtain ⟨bD, oD, rfl, hbD, d0⟩ := hq5.int hlt
          have hmem : DV[k] ∈ DV := List.getElem_mem hlt
          obtain ⟨f1, f2⟩ := HF.out rfl _ hmem
          have hzz := cntB_rng f1
          clear HF hmem
          generalize DV[k] = z at *
          have HCz := Lib.hid (HC.out z (by omega))
          clear HC
          generalize cntV ys b z = V at *
          generalize cntB ys b z = K at *
          subst f1
          obtain ⟨D, hD⟩ : ∃ D, decide (z ∈ GV) = D := ⟨_, rfl⟩
          rw [hD] at f2
          have hV : (V == 0) = D := by rw [← f2]; simp [BEq.beq]
          have HH := Lib.hid (fun (v : World) (h : Rd encI 1 v.heap.size v P3 GV) => rHas_c GV P3 p3 z v h HL1.out)
          rw [hD] at HH
          clear hD f2
          have hbD0 : bD < wr.heap.size := hbD
          have hy : Below wr.heap.size wr wr := Below.refl _ _
          go_wp2_with fail
          refine (HCz.out _ hr2).mono ?_
          rintro e v2 ⟨rfl, hbn⟩
          replace hy := below_step hy hbn
          replace hr2 := hr2.go hbn
          replace hq3 := hq3.go hbn
          replace d0 := (hbn.cell (p := ⟨bD, _, none⟩) hbD0).trans d0
          clear hbn
          go_wp2_with fail
          refine (HH.out _ hq3).mono ?_
          rintro e v3 ⟨rfl, hbn⟩
          replace hy := below_step hy hbn
          replace hr2 := hr2.go hbn
          replace hq3 := hq3.go hbn
          clear hbn
          go_wp2_with fail
          go_roundw
          case rel => exact ⟨k + 1, by omega, by go_num, hbl.trans (hy.mono hbl.size)⟩
          case measure => simp [intOf]; omega
        case false => as_aux_lemma =>
          clear HC HF HL1 HL2 htt
          clear hr2 hq3 hq5
          go_wp2_with fail
          refine (dDoSwaps_c bs _ _ _ (hr.go hx) hn hc HB.out).mono ?_
          rintro e w12 ⟨B3, c3, us, o0, o1, s2, rfl, hl3, hok3, ho0, ho1, hs2, hown3, hbn⟩
          replace hx := below_step hx hbn
          replace hr1 := hr1.go hbn
          have hr3 := hown3.rd
          have hz3 := sz_ok hok3
          have HCT := Lib.hid (fun x (hx : x ∈ us) => (hok3 x hx).2.2)
          have HIT := Lib.hid (fun x (hx : x ∈ us) => (hok3 x hx).2.1)
          clear hown3 hok3 hbn
          have HP := Lib.hid (fun (v : World) (h : Rd encHold 3 v.heap.size v B3 us) => implDoSwaps_c us B3 c3 o0 o1 s2 v h (by omega) hz3 (by omega) (by omega) (by omega))
          have HQ := Lib.hid (fun (v : World) (h : Rd encHold 3 v.heap.size v B3 us) => specDoSwaps_c us B3 c3 o0 o1 s2 v h (by omega) hz3 (by omega) (by omega) (by omega))
          have HW := Lib.hid (fun (v : World) (h : Rd encHold 3 v.heap.size v B3 us) => implSwapPairs_c us B3 c3 o0 o1 v h (by omega) hz3 (by omega) (by omega))
          have HF := Lib.hid (fun (h : dsB us o0 o1 s2 = true) => swap_law h)
          have HGd := Lib.hid (fun (h : dsB us o0 o1 s2 = true) => good_bd (ds_good h))
          have HLL := Lib.hid (dsL_len us o0 o1 s2)
          generalize dsL us o0 o1 s2 = L at *
          generalize dsB us o0 o1 s2 = G at *
          go_wp2_with fail
          refine (HP.out _ hr3).mono ?_
          rintro e w13 ⟨P7, p7, rfl, hbn, hq7o⟩
          replace hx := below_step hx hbn
          replace hr1 := hr1.go hbn
          replace hr3 := hr3.go hbn
          have hq7 := hq7o.rd
          clear hbn hq7o
          go_wp2_with fail
          refine (HQ.out _ hr3).mono ?_
          rintro e w14 ⟨P8, p8, rfl, hbn, hq8o⟩
          replace hx := below_step hx hbn
          replace hr1 := hr1.go hbn
          replace hr3 := hr3.go hbn
          replace hq7 := hq7.go hbn
          have hq8 := hq8o.rd
          clear hbn hq8o
          clear HP HQ
          go_wp2_with fail
          refine (rHolds_c L P7 P8 p7 p8 _ hq7 hq8 HLL.out).mono ?_
          rintro e w15 ⟨rfl, hbn⟩
          replace hx := below_step hx hbn
          replace hr1 := hr1.go hbn
          replace hr3 := hr3.go hbn
          replace hq7 := hq7.go hbn
          replace hq8 := hq8.go hbn
          clear hbn hq8
          go_upto_if 252 with fail
          go_cut [] (fun wx => Below w15.heap.size w15 wx)
          case first => as_aux_lemma =>
            cases G
            · go_wp2_with fail
              go_meet
              exact Below.refl _ _
            obtain ⟨f1, f2, f3, f4, f5, f6, f7⟩ := HF.out rfl
            obtain ⟨g1, g2, g3⟩ := HGd.out rfl
            clear HF HGd HLL HB HA1 HA2 hx hr hr1
            have HS1 := Lib.hid (sumC_bd HCT.out)
            have HS2 := Lib.hid (sumC_bd g3)
            have HN1 := Lib.hid (fun (k : Nat) (h : k < us.length) => sumC_take h)
            have HN2 := Lib.hid (fun (k : Nat) (h : k < L.length) => sumC_take h)
            have HC := Lib.hid (fun (k : Nat) (hk : k < us.length) (v : World) (h : Rd encHold 3 v.heap.size v P7 L) => implCountOf_c L P7 p7 us[k].owner us[k].item v h (by omega) g2 (by have := hz3 us[k] (List.getElem_mem hk); omega) (by have := HIT.out us[k] (List.getElem_mem hk); omega))
            have HF7 := Lib.hid f7
            have HX := Lib.hid g3
            have E4 := Lib.hid f4
            have E5 := Lib.hid f5
            clear f7 f4 f5 g3
            have hy : Below w15.heap.size w15 w15 := Below.refl _ _
            go_wp2_with fail
            go_loopw [41, 43] (fun u i wr => ∃ k : Nat, k ≤ us.length ∧ i = .int .i64 k ∧ u = .int .i64 (sumC (us.take k)) ∧ Below w15.heap.size w15 wr) (fun _ i _ => us.length - (intOf i).toNat)
            case atStart => exact ⟨0, Nat.zero_le _, rfl, by simp [sumC], Below.refl _ _⟩
            case round => as_aux_lemma =>
              obtain ⟨k, hk, rfl, rfl, hbr⟩ := hrel
              replace hr3 := hr3.go hbr
              replace hq7 := hq7.go hbr
              by_cases hlt : k < us.length
              · obtain ⟨bU, oU, rfl, hbU, d0, d1, d2⟩ := hr3.atHold hlt
                have hs1 := HS1.out k
                have hct := HCT.out us[k] (List.getElem_mem hlt)
                have HNk := Lib.hid (HN1.out k hlt)
                have HCk := Lib.hid (HC.out k hlt)
                obtain ⟨c1', c2'⟩ := HF7.out k hlt
                generalize sumC (us.take k) = S at *
                generalize cntV L us[k].owner us[k].item = V at *
                generalize cntB L us[k].owner us[k].item = K at *
                generalize us[k].owner = uo at *
                generalize us[k].item = ui at *
                generalize us[k].count = uc at *
                subst c1'
                have hV : (V == 0) = false := by simp; omega
                clear HN1 HN2 HS1 HS2 HC HF7 HCT HIT
                go_upto_region 41 with fail
                go_region_held3 (fun W => W.cell? ⟨bU, oU + k * 3, none⟩ = some (.string uo) ∧ W.cell? ⟨bU, oU + k * 3 + 1, none⟩ = some (.int .i64 ui)) (first | exact ⟨d0, d1⟩ | assumption | exact ⟨(hbn.cell (p := ⟨bU, _, none⟩) hbU).trans d0, (hbn.cell (p := ⟨bU, _, none⟩) hbU).trans d1⟩) (first
                  | (go_at_call 9; refine (HCk.out wr.drew hq7).mono ?_; rintro e v2 ⟨rfl, hbn⟩))
                all_goals
                  have hbz := hbr.trans (((Below.refl wr.heap.size wr).drew.trans hbn).mono hbr.size)
                  clear hbr hbn hr3 hq7 d0 d1 d2
                  go_wp2_with fail
                  go_roundw
                  case rel => exact ⟨k + 1, by omega, by go_num, by rw [HNk.out], hbz⟩
                  case measure => simp [intOf]; omega
              · obtain rfl : k = us.length := by omega
                rw [List.take_of_length_le (Nat.le_refl _)]
                clear HC HF7 HN1 HS1
                go_wp2_with fail
                go_loopw [42, 46] (fun u i wx => ∃ j : Nat, j ≤ L.length ∧ i = .int .i64 j ∧ u = .int .i64 (sumC (L.take j)) ∧ wr = wx) (fun _ i _ => L.length - (intOf i).toNat)
                case atStart => exact ⟨0, Nat.zero_le _, rfl, by simp [sumC], by simp⟩
                case round => as_aux_lemma =>
                  obtain ⟨j, hj, rfl, rfl, hww⟩ := hrel
                  subst hww
                  by_cases hlt : j < L.length
                  · obtain ⟨bU, oU, rfl, hbU, d0, d1, d2⟩ := hq7.atHold hlt
                    have hs2 := HS2.out j
                    have HNk := Lib.hid (HN2.out j hlt)
                    have hct : 0 ≤ L[j].count ∧ L[j].count ≤ 100 := HX.out _ (List.getElem_mem hlt)
                    generalize sumC (L.take j) = S at *
                    generalize L[j].count = uc at *
                    clear HN2 HS2 HCT HIT HX
                    go_wp2_with fail
                    go_roundw
                    case rel => exact ⟨j + 1, by omega, by go_num, by rw [HNk.out], by simp⟩
                    case measure => simp [intOf]; omega
                  · obtain rfl : j = L.length := by omega
                    rw [List.take_of_length_le (Nat.le_refl _), E4.out]
                    have E5' := E5.out
                    generalize pairV us o0 o1 = PV at *
                    generalize twoB us o0 o1 = T2 at *
                    subst f2
                    have hlen : IntKind.i64.wrap ((us.length : Int) + 2 * s2) = (L.length : Int) := by rw [E5', IntKind.wrap_i64]; omega
                    have hcmp : decide (PV < s2) = false := decide_eq_false (by omega)
                    clear E4 E5
                    generalize sumC us = SS at *
                    go_wp2_with fail
                    refine (HW.out _ hr3).mono ?_
                    rintro e v3 ⟨rfl, hbn⟩
                    have hbz := hbr.trans (hbn.mono hbr.size)
                    clear hbr hbn hr3 hq7
                    go_wp2_with fail
                    go_meet
                    exact hbz
          case rest => as_aux_lemma =>
            have hcut : Below w15.heap.size w15 wc := hcut
            clear HF HGd HLL HCT HIT HW
            clear hr3 hq7
            replace hx := below_step hx hcut
            replace hr1 := hr1.go hcut
            clear hcut
            go_wp2_with fail
            refine (HA1.out _ hr1).mono ?_
            rintro e w16 ⟨rfl, hbn⟩
            replace hx := below_step hx hbn
            replace hr1 := hr1.go hbn
            clear hbn
            go_wp2_with fail
            refine (HA2.out _ hr1).mono ?_
            rintro e w17 ⟨rfl, hbn⟩
            replace hx := below_step hx hbn
            replace hr1 := hr1.go hbn
            clear hbn
            go_wp2_with fail
            go_returns
            exact ⟨ret_bool (by simp), hx⟩
end Go.Proofs.Ytebkfcdijjcefaa
