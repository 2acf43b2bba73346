/- Contracts of GiveItem: the program's and the reference's. No condition but the sizes. -/
import Derived.Test.YtebkfcdijjcefaaHoAdd
import Derived.Test.YtebkfcdijjcefaaHoSwP
import Derived.Test.YtebkfcdijjcefaaHoGive
namespace Go.Proofs.Ytebkfcdijjcefaa
set_option linter.unusedVariables false
set_option linter.unusedSimpArgs false
open Go.RowKit
attribute [local irreducible] wpQuiet
def gvB (xs : List Hold) (a b : ByteArray) (z : Int) : Bool := twoB xs a b && inR z 1 99 && (hasH xs a z && goodH (mvV xs a b z))
def gvL (xs : List Hold) (a b : ByteArray) (z : Int) : List Hold := if gvB xs a b z = true then mvV xs a b z else []
theorem gvL_len (xs : List Hold) (a b : ByteArray) (z : Int) : (gvL xs a b z).length ≤ 2097152 := by
  unfold gvL; split
  · rename_i h
    simp only [gvB, Bool.and_eq_true] at h
    have := goodH_len h.2.2
    omega
  · simp
def szH (xs : List Hold) : Prop := ∀ x ∈ xs, x.owner.size ≤ 9223372036854775807
theorem sz_inc {xs : List Hold} (hs : OrdH xs) (h : szH xs) {o : ByteArray} {z n : Int} (ho : o.size ≤ 9223372036854775807) : szH (incH xs o z n) := by
  intro y hy
  rcases mem_inc hs hy with ⟨x, hx, e, _⟩ | ⟨e, _⟩
  · rw [e]; exact h x hx
  · rw [e]; exact ho
theorem sz_mv {xs : List Hold} (hs : OrdH xs) (h : szH xs) {a b : ByteArray} {z : Int} (ha : a.size ≤ 9223372036854775807) (hb : b.size ≤ 9223372036854775807) : szH (mvH xs a b z) := sz_inc (ord_inc hs a z (-1)) (sz_inc hs h ha) hb
theorem sz_mvV {xs : List Hold} (hs : OrdH xs) (h : szH xs) {a b : ByteArray} {z : Int} (ha : a.size ≤ 9223372036854775807) (hb : b.size ≤ 9223372036854775807) : szH (mvV xs a b z) := by
  unfold mvV; split
  · exact sz_mv hs h ha hb
  · intro x hx; cases hx
theorem mvV_le {xs : List Hold} (hs : OrdH xs) (a b : ByteArray) (z : Int) : (mvV xs a b z).length ≤ xs.length + 2 := by
  unfold mvV; split
  · have h1 := len_inc_le hs a z (-1)
    have h2 := len_inc_le (ord_inc hs a z (-1)) b z 1
    unfold mvH; omega
  · simp
theorem cnt_bd {xs : List Hold} (h : goodH xs = true) : ∀ x ∈ xs, 1 ≤ x.count ∧ x.count ≤ 99 := by
  intro x hx
  obtain ⟨i, hi, rfl⟩ := List.getElem_of_mem hx
  have := goodH_ok h hi
  simp only [Hold.ok, Bool.and_eq_true, inR_iff] at this
  exact this.2
theorem cnt_inc_bd {xs : List Hold} (hs : OrdH xs) {o : ByteArray} {z n : Int} {m M : Int} (h : ∀ x ∈ xs, m ≤ x.count ∧ x.count ≤ M) (hn : -10 ≤ n ∧ n ≤ 10) (hm : m ≤ 1) (hM : 0 ≤ M) : ∀ x ∈ incH xs o z n, m - 20 ≤ x.count ∧ x.count ≤ M + 20 := by
  intro y hy
  rcases mem_inc hs hy with ⟨x, hx, _, e | e⟩ | ⟨_, e⟩
  · have := h x hx; omega
  · have := h x hx; omega
  · omega
/-- The call returns the slice and true if K, nil and false if not. -/
def RetH (K : Bool) (v : Value) (w : World) (e : Ending) (w' : World) : Prop := ((K = true → e = .returned (.tuple #[v, .bool true])) ∧ (K = false → e = .returned (.tuple #[.slice none 0 0, .bool false]))) ∧ Below w.heap.size w w'
theorem retH_no {K : Bool} {v : Value} {w w' : World} (h : K = false) (hb : Below w.heap.size w w') : RetH K v w (.returned (.tuple #[.slice none 0 0, .bool false])) w' := ⟨⟨fun h2 => (Bool.false_ne_true (h.symm.trans h2)).elim, fun _ => rfl⟩, hb⟩
theorem retH_yes {K : Bool} {v : Value} {w w' : World} (h : K = true) (hb : Below w.heap.size w w') : RetH K v w (.returned (.tuple #[v, .bool true])) w' := ⟨⟨fun _ => rfl, fun h2 => (Bool.false_ne_true (h2.symm.trans h)).elim⟩, hb⟩
set_option maxHeartbeats 800000 in
theorem holdsResult_c (ys : List Hold) (A : Option Addr) (c : Nat) (ok : Bool) (w : World) (hr : Rd encHold 3 w.heap.size w A ys) (hn : ys.length ≤ 1048576) (hw : szH ys) :
    Calls Try.prog 29 #[.slice A ys.length c, .bool ok] w (RetH (ok && goodH ys) (.slice A ys.length c) w) := by
  have HW := Lib.hid hw
  clear hw
  cases ok
  · go_enter Try.func29, Try.ntmps29
    go_wp2_with fail
    go_returns
    exact retH_no rfl (Below.refl _ _)
  · obtain ⟨G, hG⟩ : ∃ G, goodH ys = G := ⟨_, rfl⟩
    cases G
    · go_enter Try.func29, Try.ntmps29
      go_wp2_with fail
      refine (areHolds_c ys _ _ _ hr hn HW.out).mono ?_
      rw [hG]
      rintro e w1 ⟨rfl, hb1⟩
      go_wp2_with fail
      go_returns
      exact retH_no (by rw [hG]; rfl) hb1
    · go_enter Try.func29, Try.ntmps29
      go_wp2_with fail
      refine (areHolds_c ys _ _ _ hr hn HW.out).mono ?_
      rw [hG]
      rintro e w1 ⟨rfl, hb1⟩
      go_wp2_with fail
      go_returns
      exact retH_yes (by rw [hG]; rfl) hb1
set_option maxHeartbeats 1600000 in
theorem implGiveItem_c (xs : List Hold) (A : Option Addr) (c : Nat) (a b : ByteArray) (z : Int) (w : World) (hr : Rd encHold 3 w.heap.size w A xs) (hn : xs.length ≤ 1048576) (hw : szH xs) (hsa : a.size ≤ 9223372036854775807) (hsb : b.size ≤ 9223372036854775807) (hz : -9223372036854775808 ≤ z ∧ z ≤ 9223372036854775807) :
    Calls Try.prog 6 #[.slice A xs.length c, .string a, .string b, .int .i64 z] w (RetL encHold 3 (gvL xs a b z) (gvB xs a b z) w) := by
  have HW := Lib.hid hw
  clear hw
  by_cases hF : goodH xs = false
  · go_enter Try.func6, Try.ntmps6
    have hbg := Below.refl w.heap.size w
    go_wp2_with fail
    refine (areHolds_c xs _ _ _ (hr.go hbg) hn HW.out).mono ?_
    rintro e wg0 ⟨rfl, hb0⟩
    have hbg := below_via hbg hb0
    go_wp2_with fail
    go_returns
    have HT := (show gvB xs a b z = false by simp only [gvB, twoB, hF, Bool.and_false, Bool.false_and])
    exact ⟨_, _, ret_list (by simp [gvL, HT]) HT.symm, hbg, Own.none_ (by simp [gvL, HT]) (Nat.le_refl _)⟩
  have G0 : goodH xs = true := by simpa using hF
  clear hF
  by_cases hF : isW a = false
  · go_enter Try.func6, Try.ntmps6
    have hbg := Below.refl w.heap.size w
    go_wp2_with fail
    refine (areHolds_c xs _ _ _ (hr.go hbg) hn HW.out).mono ?_
    rintro e wg0 ⟨rfl, hb0⟩
    have hbg := below_via hbg hb0
    go_wp2_with fail
    refine (isWord_c _ _ hsa).mono ?_
    rintro e wp1 ⟨rfl, rfl⟩
    go_wp2_with fail
    go_returns
    have HT := (show gvB xs a b z = false by simp only [gvB, twoB, hF, Bool.and_false, Bool.false_and])
    exact ⟨_, _, ret_list (by simp [gvL, HT]) HT.symm, hbg, Own.none_ (by simp [gvL, HT]) (Nat.le_refl _)⟩
  have G1 : isW a = true := by simpa using hF
  clear hF
  by_cases hF : isW b = false
  · go_enter Try.func6, Try.ntmps6
    have hbg := Below.refl w.heap.size w
    go_wp2_with fail
    refine (areHolds_c xs _ _ _ (hr.go hbg) hn HW.out).mono ?_
    rintro e wg0 ⟨rfl, hb0⟩
    have hbg := below_via hbg hb0
    go_wp2_with fail
    refine (isWord_c _ _ hsa).mono ?_
    rintro e wp1 ⟨rfl, rfl⟩
    go_wp2_with fail
    refine (isWord_c _ _ hsb).mono ?_
    rintro e wp2 ⟨rfl, rfl⟩
    go_wp2_with fail
    go_returns
    have HT := (show gvB xs a b z = false by simp only [gvB, twoB, hF, Bool.and_false, Bool.false_and])
    exact ⟨_, _, ret_list (by simp [gvL, HT]) HT.symm, hbg, Own.none_ (by simp [gvL, HT]) (Nat.le_refl _)⟩
  have G2 : isW b = true := by simpa using hF
  clear hF
  by_cases hF : decide (a ≠ b) = false
  · have hE : (a.toList == b.toList) = true := by rw [toList_beq]; simpa using hF
    go_enter Try.func6, Try.ntmps6
    have hbg := Below.refl w.heap.size w
    go_wp2_with fail
    refine (areHolds_c xs _ _ _ (hr.go hbg) hn HW.out).mono ?_
    rintro e wg0 ⟨rfl, hb0⟩
    have hbg := below_via hbg hb0
    go_wp2_with fail
    refine (isWord_c _ _ hsa).mono ?_
    rintro e wp1 ⟨rfl, rfl⟩
    go_wp2_with fail
    refine (isWord_c _ _ hsb).mono ?_
    rintro e wp2 ⟨rfl, rfl⟩
    go_wp2_with fail
    go_returns
    have HT := (show gvB xs a b z = false by simp only [gvB, twoB, hF, Bool.and_false, Bool.false_and])
    exact ⟨_, _, ret_list (by simp [gvL, HT]) HT.symm, hbg, Own.none_ (by simp [gvL, HT]) (Nat.le_refl _)⟩
  have G3 : decide (a ≠ b) = true := by simpa using hF
  clear hF
  by_cases hF : inR z 1 99 = false
  · have hE : (a.toList == b.toList) = false := by rw [toList_beq]; simpa using G3
    go_enter Try.func6, Try.ntmps6
    have hbg := Below.refl w.heap.size w
    go_wp2_with fail
    refine (areHolds_c xs _ _ _ (hr.go hbg) hn HW.out).mono ?_
    rintro e wg0 ⟨rfl, hb0⟩
    have hbg := below_via hbg hb0
    go_wp2_with fail
    refine (isWord_c _ _ hsa).mono ?_
    rintro e wp1 ⟨rfl, rfl⟩
    go_wp2_with fail
    refine (isWord_c _ _ hsb).mono ?_
    rintro e wp2 ⟨rfl, rfl⟩
    go_wp2_with fail
    refine (isPiece_c _ _).mono ?_
    rintro e wp4 ⟨rfl, rfl⟩
    go_wp2_with fail
    go_returns
    have HT := (show gvB xs a b z = false by simp only [gvB, twoB, hF, Bool.and_false, Bool.false_and])
    exact ⟨_, _, ret_list (by simp [gvL, HT]) HT.symm, hbg, Own.none_ (by simp [gvL, HT]) (Nat.le_refl _)⟩
  have G4 : inR z 1 99 = true := by simpa using hF
  clear hF
  have hE : (a.toList == b.toList) = false := by rw [toList_beq]; simpa using G3
  go_enter Try.func6, Try.ntmps6
  have hbg := Below.refl w.heap.size w
  go_wp2_with fail
  refine (areHolds_c xs _ _ _ (hr.go hbg) hn HW.out).mono ?_
  rintro e wg0 ⟨rfl, hb0⟩
  have hbg := below_via hbg hb0
  go_wp2_with fail
  refine (isWord_c _ _ hsa).mono ?_
  rintro e wp1 ⟨rfl, rfl⟩
  go_wp2_with fail
  refine (isWord_c _ _ hsb).mono ?_
  rintro e wp2 ⟨rfl, rfl⟩
  go_wp2_with fail
  refine (isPiece_c _ _).mono ?_
  rintro e wp4 ⟨rfl, rfl⟩
  have hs := good_ord G0
  have hlen := goodH_len G0
  have hcb := cnt_bd G0
  have HK := Lib.hid (show gvB xs a b z = (hasH xs a z && goodH (mvV xs a b z)) by simp [gvB, twoB, G0, G1, G2, G3, G4])
  have hml := mvV_le hs a b z
  have HSZ := Lib.hid (sz_mvV hs HW.out (z := z) hsa hsb)
  have HV := Lib.hid (show gvL xs a b z = if gvB xs a b z = true then mvV xs a b z else [] from rfl)
  have HM := Lib.hid (moveItem_c xs A c a b z _ (hr.go hbg) hs (good_nz G0) (by omega) (fun x hx => by have := hcb x hx; omega))
  clear hs hcb
  go_wp2_with fail
  clear G0 G1 G2 G3 G4
  refine HM.out.mono ?_
  clear HM
  generalize mvV xs a b z = YS at *
  generalize hasH xs a z = H at *
  rintro e w1 ⟨B1, c1, rfl, hb1, hO1⟩
  go_wp2_with fail
  refine (holdsResult_c YS _ _ H _ hO1.rd (by omega) HSZ.out).mono ?_
  rintro e w2 ⟨⟨hy, hno⟩, hb2⟩
  have hbx := (hbg.trans (hb1.mono hbg.size)).trans (hb2.mono (Nat.le_trans hbg.size hb1.size))
  obtain ⟨K, hK⟩ : ∃ K, (H && goodH YS) = K := ⟨_, rfl⟩
  rw [hK] at hy hno HK
  cases K
  · have he := hno rfl
    subst he
    have HG := Lib.hid (show gvL xs a b z = [] by rw [HV.out, HK.out]; rfl)
    clear hy hno hK
    go_wp2_with fail
    go_returns
    exact ⟨none, 0, ret_list (by rw [HG.out]; rfl) HK.out.symm, hbx, Own.none_ HG.out (Nat.le_refl _)⟩
  · have he := hy rfl
    subst he
    have HG := Lib.hid (show gvL xs a b z = YS by rw [HV.out, HK.out]; rfl)
    have hO2 := Lib.hid ((hO1.wide (lo' := w.heap.size) hbg.size (Nat.le_refl _) (Nat.le_refl _)).go hb2 |>.wide (Nat.le_refl _) hb2.size (Nat.le_refl _))
    clear hy hno hK hO1
    go_wp2_with fail
    go_returns
    exact ⟨B1, c1, ret_list (by rw [HG.out]) HK.out.symm, hbx, by rw [HG.out]; exact hO2.out⟩
set_option maxHeartbeats 1600000 in
theorem specGiveItem_c (xs : List Hold) (A : Option Addr) (c : Nat) (a b : ByteArray) (z : Int) (w : World) (hr : Rd encHold 3 w.heap.size w A xs) (hn : xs.length ≤ 1048576) (hw : szH xs) (hsa : a.size ≤ 9223372036854775807) (hsb : b.size ≤ 9223372036854775807) (hz : -9223372036854775808 ≤ z ∧ z ≤ 9223372036854775807) :
    Calls Try.prog 7 #[.slice A xs.length c, .string a, .string b, .int .i64 z] w (RetL encHold 3 (gvL xs a b z) (gvB xs a b z) w) := by
  have HW := Lib.hid hw
  clear hw
  by_cases hF : twoB xs a b = false
  · go_enter Try.func7, Try.ntmps7
    have hbg := Below.refl w.heap.size w
    go_wp2_with fail
    refine (l19Two_c xs _ _ _ _ _ (hr.go hbg) hn HW.out hsa hsb).mono ?_
    rintro e wg0 ⟨rfl, hb0⟩
    have hbg := below_via hbg hb0
    go_wp2_with fail
    go_returns
    have HT := (show gvB xs a b z = false by simp only [gvB, hF, Bool.and_false, Bool.false_and])
    exact ⟨_, _, ret_list (by simp [gvL, HT]) HT.symm, hbg.trans (Below.alloc (Below.refl _ _) hbg.size _), Own.none_ (by simp [gvL, HT]) (Nat.le_refl _)⟩
  have G0 : twoB xs a b = true := by simpa using hF
  clear hF
  by_cases hF : inR z 1 99 = false
  · go_enter Try.func7, Try.ntmps7
    have hbg := Below.refl w.heap.size w
    go_wp2_with fail
    refine (l19Two_c xs _ _ _ _ _ (hr.go hbg) hn HW.out hsa hsb).mono ?_
    rintro e wg0 ⟨rfl, hb0⟩
    have hbg := below_via hbg hb0
    go_wp2_with fail
    refine (l19Item_c _ _).mono ?_
    rintro e wp1 ⟨rfl, rfl⟩
    go_wp2_with fail
    go_returns
    have HT := (show gvB xs a b z = false by simp only [gvB, hF, Bool.and_false, Bool.false_and])
    exact ⟨_, _, ret_list (by simp [gvL, HT]) HT.symm, hbg.trans (Below.alloc (Below.refl _ _) hbg.size _), Own.none_ (by simp [gvL, HT]) (Nat.le_refl _)⟩
  have G1 : inR z 1 99 = true := by simpa using hF
  clear hF
  go_enter Try.func7, Try.ntmps7
  have hbg := Below.refl w.heap.size w
  go_wp2_with fail
  refine (l19Two_c xs _ _ _ _ _ (hr.go hbg) hn HW.out hsa hsb).mono ?_
  rintro e wg0 ⟨rfl, hb0⟩
  have hbg := below_via hbg hb0
  go_wp2_with fail
  refine (l19Item_c _ _).mono ?_
  rintro e wp1 ⟨rfl, rfl⟩
  have hg : goodH xs = true := by simp only [twoB, Bool.and_eq_true] at G0; exact G0.1.1.1
  have hs := good_ord hg
  have hnz := good_nz hg
  have hlen := goodH_len hg
  have hcb := cnt_bd hg
  have HK := Lib.hid (show gvB xs a b z = (hasH xs a z && goodH (mvV xs a b z)) by simp [gvB, G0, G1])
  have HV := Lib.hid (show gvL xs a b z = if gvB xs a b z = true then mvV xs a b z else [] from rfl)
  have hhc := has_cnt hs hnz a z
  obtain ⟨H, hH⟩ : ∃ H, hasH xs a z = H := ⟨_, rfl⟩
  cases H
  · have hz0 : cntH xs a z = 0 := by
      rw [hH] at hhc
      have h1 := of_decide_eq_false hhc.symm
      have h2 := cnt_nn hnz a z
      omega
    have HB : Hid (gvB xs a b z = false) := Lib.hid (by rw [HK.out, hH]; rfl)
    have HG := Lib.hid (show gvL xs a b z = [] by rw [HV.out, HB.out]; rfl)
    clear hhc hcb
    go_wp2_with fail
    refine (l19Count_c xs _ _ a z _ (hr.go hbg) hn).mono ?_
    rw [hz0]
    rintro e w1 ⟨rfl, hb1⟩
    have hbx := hbg.trans (hb1.mono hbg.size)
    go_wp2_with fail
    go_returns
    exact ⟨_, _, ret_list (by rw [HG.out]; rfl) HB.out.symm, hbx.trans (Below.alloc (Below.refl _ _) hbx.size _), Own.none_ HG.out (Nat.le_refl _)⟩
  · have hz0 : (cntH xs a z == 0) = false := by
      rw [hH] at hhc
      have h1 := of_decide_eq_true hhc.symm
      rw [beq_eq_false_iff_ne]; omega
    have hYS : mvV xs a b z = mvH xs a b z := by simp [mvV, hH]
    have hadd := mv_add hs hnz (b := b) hH
    have hadd1 : addH xs a z (-1) = incH xs a z (-1) := add_inc hnz a z (-1)
    have hl1 := len_inc_le hs a z (-1)
    have hc1 := cnt_inc_bd hs (o := a) (z := z) (n := -1) hcb (by decide) (by decide) (by decide)
    have hl2 := len_inc_le (ord_inc hs a z (-1)) b z 1
    have HSZ := Lib.hid (sz_mv hs HW.out (z := z) hsa hsb)
    have hK : gvB xs a b z = goodH (mvH xs a b z) := by rw [HK.out, hH, hYS]; rfl
    rw [← hadd1] at hl1 hc1
    have hl2' : (mvH xs a b z).length ≤ 100 := by unfold mvH; rw [← hadd1] at hl2 ⊢; omega
    rw [hYS] at HV
    have HA := Lib.hid hadd
    have HK2 := Lib.hid hK
    clear hhc hcb hadd hadd1 hl2 hYS hK HK hs hnz
    go_wp2_with fail
    refine (l19Count_c xs _ _ a z _ (hr.go hbg) hn).mono ?_
    rintro e w1 ⟨rfl, hb1⟩
    have hbx := hbg.trans (hb1.mono hbg.size)
    clear hb1
    go_wp2_with fail
    refine (l19Add_c xs _ _ a z (-1) _ (hr.go hbx) (by omega) (fun x hx => by have := cnt_bd hg x hx; omega) (by decide) (by decide)).mono ?_
    generalize hZ : addH xs a z (-1) = ZS at *
    have HZ := Lib.hid hZ
    clear hZ
    rintro e w2 ⟨B2, c2, rfl, ho2, hb2⟩
    have hbx := hbx.trans (hb2.mono hbx.size)
    obtain ⟨A3, c3, hv, hO2, _⟩ := ho2.own encHold_len
    injection hv with hv _ hv2
    subst hv hv2
    clear hb2
    go_wp2_with fail
    refine (l19Add_c ZS _ _ b z 1 _ hO2.rd (by omega) (fun x hx => by have := hc1 x hx; omega) (by decide) (by decide)).mono ?_
    rw [HA.out]
    generalize mvH xs a b z = YS at *
    rintro e w3 ⟨B4, c4, rfl, ho4, hb4⟩
    have hlo := Lib.hid hbx.size
    have hbx := hbx.trans (hb4.mono hbx.size)
    obtain ⟨A5, c5, hv, hO4, _⟩ := ho4.own encHold_len
    injection hv with hv _ hv2
    subst hv hv2
    clear hb4 ho2 ho4 hO2
    go_wp2_with fail
    refine (l19Good_c YS _ _ _ hO4.rd (by omega) HSZ.out).mono ?_
    rintro e w5 ⟨rfl, hb5⟩
    have hO6 := Lib.hid ((hO4.wide (lo' := w.heap.size) hlo.out (Nat.le_refl _) (Nat.le_refl _)).go hb5 |>.wide (Nat.le_refl _) hb5.size (Nat.le_refl _))
    have hbx := hbx.trans (hb5.mono hbx.size)
    clear hO4 hb5
    cases hG : goodH YS
    · have HB : Hid (gvB xs a b z = false) := Lib.hid (by rw [HK2.out, hG])
      have HG := Lib.hid (show gvL xs a b z = [] by rw [HV.out, HB.out]; rfl)
      clear hG
      go_wp2_with fail
      go_returns
      exact ⟨_, _, ret_list (by rw [HG.out]; rfl) HB.out.symm, hbx.trans (Below.alloc (Below.refl _ _) hbx.size _), Own.none_ HG.out (Nat.le_refl _)⟩
    · have HB : Hid (gvB xs a b z = true) := Lib.hid (by rw [HK2.out, hG])
      have HG := Lib.hid (show gvL xs a b z = YS by rw [HV.out, HB.out]; rfl)
      clear hG
      go_wp2_with fail
      go_returns
      exact ⟨_, _, ret_list (by rw [HG.out]) HB.out.symm, hbx, by rw [HG.out]; exact hO6.out⟩
end Go.Proofs.Ytebkfcdijjcefaa
