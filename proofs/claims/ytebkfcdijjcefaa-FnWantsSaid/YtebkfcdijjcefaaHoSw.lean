/- Contracts of DoSwaps: the program's and the reference's. No condition but the sizes. -/
import Derived.Test.YtebkfcdijjcefaaHoGiv
import Derived.Test.YtebkfcdijjcefaaHoPair
import Derived.Deep.RegionHeld3
namespace Go.Proofs.Ytebkfcdijjcefaa
set_option linter.unusedVariables false
set_option linter.unusedSimpArgs false
open Go.RowKit
attribute [local irreducible] wpQuiet
def swH (xs : List Hold) (a b : ByteArray) (n : Int) : List Hold := swF xs a b (giveH xs a b) (giveH xs b a) n.toNat
def dsB (xs : List Hold) (a b : ByteArray) (n : Int) : Bool := twoB xs a b && inR n 0 (pairsH xs a b) && goodH (swH xs a b n)
def dsL (xs : List Hold) (a b : ByteArray) (n : Int) : List Hold := if dsB xs a b n = true then swH xs a b n else []
theorem dsL_len (xs : List Hold) (a b : ByteArray) (n : Int) : (dsL xs a b n).length ≤ 2097152 := by
  unfold dsL; split
  · rename_i h
    simp only [dsB, Bool.and_eq_true] at h
    have := goodH_len h.2
    omega
  · simp
theorem ds_no {xs : List Hold} {a b : ByteArray} {n : Int} (hg : goodH xs = true) (h : inR n 0 99 = false) : dsB xs a b n = false := by
  have h1 := pairsH_le xs a b
  have h2 := goodH_len hg
  have : inR n 0 (pairsH xs a b) = false := by
    cases hc : inR n 0 (pairsH xs a b) with
    | false => rfl
    | true =>
      rw [inR_iff] at hc
      have : inR n 0 99 = true := by rw [inR_iff]; omega
      rw [h] at this; cases this
  simp [dsB, this]
/-- What a round of the swaps starts from. -/
structure SwR (xs : List Hold) (a b : ByteArray) (ts us : List Int) (k : Nat) (ys : List Hold) : Prop where
  inv : SwI xs a b ts us k ys
  len : ys.length ≤ 1000
  bd : ∀ x ∈ ys, x.count ≤ 1980
  sz : szH ys
theorem mv_bd {ys : List Hold} {a b : ByteArray} {z : Int} (ho : OrdH ys) (hz : nzH (mvH ys a b z)) (hs : sumC ys ≤ 1980) : ∀ x ∈ mvH ys a b z, x.count ≤ 1980 := fun x hx => by
  have h1 := sumC_le hz x hx
  rw [sum_mv ho] at h1
  omega
theorem swR_all {xs : List Hold} (h : goodH xs = true) (hw : szH xs) {a b : ByteArray} (hne : a ≠ b) (ha : a.size ≤ 9223372036854775807) (hb : b.size ≤ 9223372036854775807) : ∀ k, k ≤ (giveH xs a b).length → k ≤ (giveH xs b a).length → SwR xs a b (giveH xs a b) (giveH xs b a) k (swF xs a b (giveH xs a b) (giveH xs b a) k)
  | 0, _, _ => ⟨sw_zero h a b, by have := goodH_len h; show xs.length ≤ 1000; omega, fun x hx => by have := (cnt_bd h x hx).2; omega, hw⟩
  | k + 1, h1, h2 => by
    have ih := swR_all h hw hne ha hb k (by omega) (by omega)
    have hI := sw_all h hne (k + 1) h1 h2
    have hg := goodH_len h
    have hg1 := giveH_le xs a b
    have hgs := good_sum h
    refine ⟨hI, by rw [hI.len]; omega, fun x hx => by have := sumC_le hI.nz x hx; rw [hI.sum] at this; omega, ?_⟩
    exact sz_mv (ord_mv ih.inv.ord a b _) (sz_mv ih.inv.ord ih.sz ha hb) hb ha
set_option maxRecDepth 100000 in
set_option maxHeartbeats 2000000 in
theorem implDoSwaps_c (xs : List Hold) (A : Option Addr) (c : Nat) (a b : ByteArray) (n : Int) (w : World) (hr : Rd encHold 3 w.heap.size w A xs) (hn : xs.length ≤ 1048576) (hw : szH xs) (hsa : a.size ≤ 9223372036854775807) (hsb : b.size ≤ 9223372036854775807) (hz : -9223372036854775808 ≤ n ∧ n ≤ 9223372036854775807) :
    Calls Try.prog 18 #[.slice A xs.length c, .string a, .string b, .int .i64 n] w (RetL encHold 3 (dsL xs a b n) (dsB xs a b n) w) := by
  have HW := Lib.hid hw
  clear hw
  by_cases hF : goodH xs = false
  · go_enter Try.func18, Try.ntmps18
    have hbg := Below.refl w.heap.size w
    go_wp2_with fail
    refine (areHolds_c xs _ _ _ (hr.go hbg) hn HW.out).mono ?_
    rintro e wg0 ⟨rfl, hb0⟩
    have hbg := below_via hbg hb0
    go_wp2_with fail
    go_returns
    have HT := (show dsB xs a b n = false by first | (simp only [dsB, twoB, hF, Bool.and_false, Bool.false_and]; done) | exact ds_no G0 hF)
    exact ⟨_, _, ret_list (by simp [dsL, HT]) HT.symm, hbg, Own.none_ (by simp [dsL, HT]) (Nat.le_refl _)⟩
  have G0 : goodH xs = true := by simpa using hF
  clear hF
  by_cases hF : isW a = false
  · go_enter Try.func18, Try.ntmps18
    have hbg := Below.refl w.heap.size w
    go_wp2_with fail
    refine (areHolds_c xs _ _ _ (hr.go hbg) hn HW.out).mono ?_
    rintro e wg0 ⟨rfl, hb0⟩
    have hbg := below_via hbg hb0
    go_wp2_with fail
    refine (isWord_c _ _ hsa).mono ?_
    rintro e wp1 ⟨rfl, rfl⟩
    go_wp2_with fail
    go_returns
    have HT := (show dsB xs a b n = false by first | (simp only [dsB, twoB, hF, Bool.and_false, Bool.false_and]; done) | exact ds_no G0 hF)
    exact ⟨_, _, ret_list (by simp [dsL, HT]) HT.symm, hbg, Own.none_ (by simp [dsL, HT]) (Nat.le_refl _)⟩
  have G1 : isW a = true := by simpa using hF
  clear hF
  by_cases hF : isW b = false
  · go_enter Try.func18, Try.ntmps18
    have hbg := Below.refl w.heap.size w
    go_wp2_with fail
    refine (areHolds_c xs _ _ _ (hr.go hbg) hn HW.out).mono ?_
    rintro e wg0 ⟨rfl, hb0⟩
    have hbg := below_via hbg hb0
    go_wp2_with fail
    refine (isWord_c _ _ hsa).mono ?_
    rintro e wp1 ⟨rfl, rfl⟩
    go_wp2_with fail
    refine (isWord_c _ _ hsb).mono ?_
    rintro e wp2 ⟨rfl, rfl⟩
    go_wp2_with fail
    go_returns
    have HT := (show dsB xs a b n = false by first | (simp only [dsB, twoB, hF, Bool.and_false, Bool.false_and]; done) | exact ds_no G0 hF)
    exact ⟨_, _, ret_list (by simp [dsL, HT]) HT.symm, hbg, Own.none_ (by simp [dsL, HT]) (Nat.le_refl _)⟩
  have G2 : isW b = true := by simpa using hF
  clear hF
  by_cases hF : decide (a ≠ b) = false
  · have hE : (a.toList == b.toList) = true := by rw [toList_beq]; simpa using hF
    go_enter Try.func18, Try.ntmps18
    have hbg := Below.refl w.heap.size w
    go_wp2_with fail
    refine (areHolds_c xs _ _ _ (hr.go hbg) hn HW.out).mono ?_
    rintro e wg0 ⟨rfl, hb0⟩
    have hbg := below_via hbg hb0
    go_wp2_with fail
    refine (isWord_c _ _ hsa).mono ?_
    rintro e wp1 ⟨rfl, rfl⟩
    go_wp2_with fail
    refine (isWord_c _ _ hsb).mono ?_
    rintro e wp2 ⟨rfl, rfl⟩
    go_wp2_with fail
    go_returns
    have HT := (show dsB xs a b n = false by first | (simp only [dsB, twoB, hF, Bool.and_false, Bool.false_and]; done) | exact ds_no G0 hF)
    exact ⟨_, _, ret_list (by simp [dsL, HT]) HT.symm, hbg, Own.none_ (by simp [dsL, HT]) (Nat.le_refl _)⟩
  have G3 : decide (a ≠ b) = true := by simpa using hF
  clear hF
  by_cases hF : inR n 0 99 = false
  · have hE : (a.toList == b.toList) = false := by rw [toList_beq]; simpa using G3
    go_enter Try.func18, Try.ntmps18
    have hbg := Below.refl w.heap.size w
    go_wp2_with fail
    refine (areHolds_c xs _ _ _ (hr.go hbg) hn HW.out).mono ?_
    rintro e wg0 ⟨rfl, hb0⟩
    have hbg := below_via hbg hb0
    go_wp2_with fail
    refine (isWord_c _ _ hsa).mono ?_
    rintro e wp1 ⟨rfl, rfl⟩
    go_wp2_with fail
    refine (isWord_c _ _ hsb).mono ?_
    rintro e wp2 ⟨rfl, rfl⟩
    go_wp2_with fail
    refine (inRange_c _ _ _ _).mono ?_
    rintro e wp4 ⟨rfl, rfl⟩
    go_wp2_with fail
    go_returns
    have HT := (show dsB xs a b n = false by first | (simp only [dsB, twoB, hF, Bool.and_false, Bool.false_and]; done) | exact ds_no G0 hF)
    exact ⟨_, _, ret_list (by simp [dsL, HT]) HT.symm, hbg, Own.none_ (by simp [dsL, HT]) (Nat.le_refl _)⟩
  have G4 : inR n 0 99 = true := by simpa using hF
  clear hF
  have hE : (a.toList == b.toList) = false := by rw [toList_beq]; simpa using G3
  go_enter Try.func18, Try.ntmps18
  have hbg := Below.refl w.heap.size w
  go_wp2_with fail
  refine (areHolds_c xs _ _ _ (hr.go hbg) hn HW.out).mono ?_
  rintro e wg0 ⟨rfl, hb0⟩
  have hbg := below_via hbg hb0
  go_wp2_with fail
  refine (isWord_c _ _ hsa).mono ?_
  rintro e wp1 ⟨rfl, rfl⟩
  go_wp2_with fail
  refine (isWord_c _ _ hsb).mono ?_
  rintro e wp2 ⟨rfl, rfl⟩
  go_wp2_with fail
  refine (inRange_c _ _ _ _).mono ?_
  rintro e wp4 ⟨rfl, rfl⟩
  have hne : a ≠ b := of_decide_eq_true G3
  have h2 := inR_iff.1 G4
  have HG := Lib.hid G0
  have HT : Hid (twoB xs a b = true) := Lib.hid (by simp [twoB, G0, G1, G2, G3])
  have HV := Lib.hid (show dsL xs a b n = if dsB xs a b n = true then swH xs a b n else [] from rfl)
  clear hz
  by_cases hle : n ≤ pairsH xs a b
  · have hd : decide (pairsH xs a b < n) = false := decide_eq_false (by omega)
    have HK := Lib.hid (show dsB xs a b n = goodH (swH xs a b n) by
      have : inR n 0 (pairsH xs a b) = true := by rw [inR_iff]; omega
      simp [dsB, HT.out, this])
    have HA := Lib.hid (swR_all HG.out HW.out hne hsa hsb)
    obtain ⟨m, rfl⟩ : ∃ m : Nat, n = (m : Int) := ⟨n.toNat, by omega⟩
    have hm1 : m ≤ (giveH xs a b).length := by unfold pairsH at hle; omega
    have hm2 : m ≤ (giveH xs b a).length := by unfold pairsH at hle; omega
    have HSW := Lib.hid (show swH xs a b (m : Int) = swF xs a b (giveH xs a b) (giveH xs b a) m by unfold swH; rw [Int.toNat_natCast])
    have HSS := Lib.hid (fun k => (show swF xs a b (giveH xs a b) (giveH xs b a) (k + 1) = mvH (mvH (swF xs a b (giveH xs a b) (giveH xs b a) k) a b ((giveH xs a b).getD k 0)) b a ((giveH xs b a).getD k 0) from rfl))
    have HHF := Lib.hid (fun (k : Nat) (ys : List Hold) (h : SwI xs a b (giveH xs a b) (giveH xs b a) k ys) => sw_half (i := k) hne h)
    have hpl := pairsH_le xs a b
    go_wp2_with fail
    clear G0 G1 G2 G3 G4
    refine (swapPairs_c xs _ _ a b _ (hr.go hbg) hn HG.out).mono ?_
    rintro e w1 ⟨rfl, hb1⟩
    have hbx := hbg.trans (hb1.mono hbg.size)
    clear hb1
    go_wp2_with fail
    refine (canGive_c xs _ _ a b _ (hr.go hbx) hn HG.out).mono ?_
    rintro e w2 ⟨B2, c2, rfl, hb2, hO2⟩
    have hr2 := hO2.rd
    have hbx := hbx.trans (hb2.mono hbx.size)
    clear hO2 hb2
    go_wp2_with fail
    refine (canGive_c xs _ _ b a _ (hr.go hbx) hn HG.out).mono ?_
    rintro e w3 ⟨B3, c3, rfl, hb3, hO3⟩
    have hr3 := hO3.rd
    have hr2 := hr2.go hb3
    have hbx := hbx.trans (hb3.mono hbx.size)
    clear hO3 hb3
    go_wp2_with fail
    refine (cloneHold_c xs _ _ _ (hr.go hbx) hn).mono ?_
    rintro e w4 ⟨A4, c4, rfl, ho4, hb4⟩
    have hr3 := hr3.go hb4
    have hr2 := hr2.go hb4
    obtain ⟨A5, c5, hv, hO4, _⟩ := ho4.own encHold_len
    injection hv with hv _ hv2
    subst hv hv2
    have hO4 := hO4.wide (lo' := w.heap.size) hbx.size (Nat.le_refl _) (Nat.le_refl _)
    have hbx := hbx.trans (hb4.mono hbx.size)
    clear ho4 hb4 hd
    generalize giveH xs a b = ts at *
    generalize giveH xs b a = us at *
    go_wp2_with fail
    go_loopw [12, 56] (fun u i wr => ∃ k : Nat, k ≤ m ∧ i = .int .i64 k ∧ (∃ A' c', u = .slice A' (swF xs a b ts us k).length c' ∧ Own encHold 3 w.heap.size wr.heap.size wr A' (swF xs a b ts us k)) ∧ Below w4.heap.size w4 wr) (fun _ i _ => m - (intOf i).toNat)
    case atStart => exact ⟨0, Nat.zero_le _, rfl, ⟨_, _, rfl, hO4⟩, Below.refl _ _⟩
    case round =>
      obtain ⟨k, hk, rfl, ⟨A', c', rfl, hO⟩, hb⟩ := hrel
      clear hO4
      by_cases hlt : k < m
      · have hR := HA.out k (by omega) (by omega)
        have hkt : k < ts.length := by omega
        have hku : k < us.length := by omega
        obtain ⟨q1, q2, q3, q4, q5, q6, q7⟩ := HHF.out k _ hR.inv hkt hku
        have hss := HSS.out k
        rw [getD_at hkt, getD_at hku] at hss
        have hR2 := HA.out (k + 1) (by omega) (by omega)
        generalize hY2 : swF xs a b ts us (k + 1) = Y2 at *
        have HY2 := Lib.hid hY2
        clear hY2
        generalize swF xs a b ts us k = Y0 at *
        obtain ⟨bt, ot, rfl, hbt, d0⟩ := (hr2.below hb).int hkt
        obtain ⟨bu, ou, rfl, hbu, g0⟩ := (hr3.below hb).int hku
        obtain ⟨z, hz⟩ : ∃ z, ts[k] = z := ⟨_, rfl⟩
        obtain ⟨y, hy⟩ : ∃ y, us[k] = y := ⟨_, rfl⟩
        rw [hz] at d0 q1 q2 q4 q5 hss
        rw [hy] at g0 q2 hss
        have e1 : mvV Y0 a b z = mvH Y0 a b z := by simp [mvV, q1]
        have e2 : mvV (mvH Y0 a b z) b a y = Y2 := by rw [hss]; simp [mvV, q2]
        have hb1 := mv_bd (a := a) (b := b) (z := z) hR.inv.ord q5 (by rw [hR.inv.sum]; exact good_sum HG.out)
        have hl1 : (mvH Y0 a b z).length ≤ 2000 := by rw [← e1]; have := mvV_le hR.inv.ord a b z; have := hR.len; omega
        have HM1 := Lib.hid (fun (v : World) (h : Rd encHold 3 v.heap.size v A' Y0) => moveItem_c Y0 A' c' a b z v h hR.inv.ord hR.inv.nz (by have := hR.len; omega) (fun x hx => by have := hR.bd x hx; omega))
        have HM2 := Lib.hid (fun (B : Option Addr) (cc : Nat) (v : World) (h : Rd encHold 3 v.heap.size v B (mvH Y0 a b z)) => moveItem_c (mvH Y0 a b z) B cc b a y v h q4 q5 (by omega) (fun x hx => by have := hb1 x hx; omega))
        simp only [e1, q1] at HM1
        simp only [e2, q2] at HM2
        have hi0 : (0 : Int) ≤ (k : Int) := by omega
        have hi1 : (k : Int) < (ts.length : Int) := by omega
        have hi2 : (k : Int) < (us.length : Int) := by omega
        clear q1 q2 q3 q4 q5 q6 q7 hss hR hR2 e1 e2 hb1 hl1 hz hy
        generalize mvH Y0 a b z = Y1 at *
        have hbu2 : bu < w4.heap.size := hbu
        go_wp2_with fail
        refine (HM1.out _ hO.rd).mono ?_
        clear HM1
        rintro e w5 ⟨B5, c5, rfl, hb5, hO5⟩
        have g0 := (hb5.cell (p := ⟨bu, _, none⟩) (Nat.lt_of_lt_of_le hbu hb.size)).trans g0
        have hbb := hb.trans (hb5.mono hb.size)
        clear d0 hO hb hb5
        go_wp2_with fail
        refine (HM2.out _ _ _ hO5.rd).mono ?_
        clear HM2
        rintro e w6 ⟨B6, c6, rfl, hb6, hO6⟩
        have hbx2 := Lib.hid hbx.size
        have hO6 := hO6.wide (lo' := w.heap.size) (Nat.le_trans hbx.size (Nat.le_trans hbb.size (Nat.le_refl _))) (Nat.le_refl _) (Nat.le_refl _)
        have hbb := hbb.trans (hb6.mono hbb.size)
        clear g0 hO5 hb6
        go_wp2_with fail
        go_roundw
        case rel => exact ⟨k + 1, by omega, by go_num, by rw [HY2.out]; exact ⟨_, _, rfl, hO6⟩, hbb⟩
        case measure => simp [intOf]; omega
      · obtain rfl : k = m := by omega
        have hR := HA.out k hm1 hm2
        have HL := Lib.hid hR.len
        have HS := Lib.hid hR.sz
        rw [← HSW.out] at hO HL HS ⊢
        generalize swH xs a b (k : Int) = YS at *
        have hbx := hbx.trans (hb.mono hbx.size)
        clear hR hb
        go_wp2_with fail
        refine (holdsResult_c YS _ _ true _ hO.rd (by have := HL.out; omega) HS.out).mono ?_
        rintro e w5 ⟨⟨hy, hno⟩, hb5⟩
        rw [Bool.true_and] at hy hno
        have hO5 := Lib.hid ((hO.go hb5).wide (Nat.le_refl _) hb5.size (Nat.le_refl _))
        have hbx := hbx.trans (hb5.mono hbx.size)
        clear hO hb5
        cases hG : goodH YS
        · have he := hno hG
          subst he
          have HB : Hid (dsB xs a b (k : Int) = false) := Lib.hid (by rw [HK.out, hG])
          have HG2 := Lib.hid (show dsL xs a b (k : Int) = [] by rw [HV.out, HB.out]; rfl)
          clear hy hno hG
          go_wp2_with fail
          go_returns
          exact ⟨none, 0, ret_list (by rw [HG2.out]; rfl) HB.out.symm, hbx, Own.none_ HG2.out (Nat.le_refl _)⟩
        · have he := hy hG
          subst he
          have HB : Hid (dsB xs a b (k : Int) = true) := Lib.hid (by rw [HK.out, hG])
          have HG2 := Lib.hid (show dsL xs a b (k : Int) = YS by rw [HV.out, HB.out]; rfl)
          clear hy hno hG
          go_wp2_with fail
          go_returns
          exact ⟨_, _, ret_list (by rw [HG2.out]) HB.out.symm, hbx, by rw [HG2.out]; exact hO5.out⟩
  · have hd : decide (pairsH xs a b < n) = true := decide_eq_true (by omega)
    have HB : Hid (dsB xs a b n = false) := Lib.hid (by
      have : inR n 0 (pairsH xs a b) = false := by
        cases hc : inR n 0 (pairsH xs a b) with
        | false => rfl
        | true => rw [inR_iff] at hc; omega
      simp [dsB, this])
    have HG2 := Lib.hid (show dsL xs a b n = [] by rw [HV.out, HB.out]; rfl)
    go_wp2_with fail
    clear G0 G1 G2 G3 G4
    refine (swapPairs_c xs _ _ a b _ (hr.go hbg) hn HG.out).mono ?_
    rintro e w1 ⟨rfl, hb1⟩
    have hbx := hbg.trans (hb1.mono hbg.size)
    go_wp2_with fail
    go_returns
    exact ⟨none, 0, ret_list (by rw [HG2.out]; rfl) HB.out.symm, hbx, Own.none_ HG2.out (Nat.le_refl _)⟩
end Go.Proofs.Ytebkfcdijjcefaa
