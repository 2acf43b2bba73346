/- Contract of the reference's DoSwaps. No condition but the sizes. -/
import Derived.Test.YtebkfcdijjcefaaHoSw
namespace Go.Proofs.Ytebkfcdijjcefaa
set_option linter.unusedVariables false
set_option linter.unusedSimpArgs false
open Go.RowKit
attribute [local irreducible] wpQuiet
set_option maxRecDepth 100000 in
set_option maxHeartbeats 2000000 in
theorem specDoSwaps_c (xs : List Hold) (A : Option Addr) (c : Nat) (a b : ByteArray) (n : Int) (w : World) (hr : Rd encHold 3 w.heap.size w A xs) (hn : xs.length ≤ 1048576) (hw : szH xs) (hsa : a.size ≤ 9223372036854775807) (hsb : b.size ≤ 9223372036854775807) (hz : -9223372036854775808 ≤ n ∧ n ≤ 9223372036854775807) :
    Calls Try.prog 19 #[.slice A xs.length c, .string a, .string b, .int .i64 n] w (RetL encHold 3 (dsL xs a b n) (dsB xs a b n) w) := by
  have HW := Lib.hid hw
  clear hw
  by_cases hF : twoB xs a b = false
  · go_enter Try.func19, Try.ntmps19
    have hbg := Below.refl w.heap.size w
    go_wp2_with fail
    refine (l19Two_c xs _ _ _ _ _ (hr.go hbg) hn HW.out hsa hsb).mono ?_
    rintro e wg0 ⟨rfl, hb0⟩
    have hbg := below_via hbg hb0
    go_wp2_with fail
    go_returns
    have HT := (show dsB xs a b n = false by simp only [dsB, hF, Bool.and_false, Bool.false_and])
    exact ⟨_, _, ret_list (by simp [dsL, HT]) HT.symm, hbg.trans (Below.alloc (Below.refl _ _) hbg.size _), Own.none_ (by simp [dsL, HT]) (Nat.le_refl _)⟩
  have G0 : twoB xs a b = true := by simpa using hF
  clear hF
  go_enter Try.func19, Try.ntmps19
  have hbg := Below.refl w.heap.size w
  go_wp2_with fail
  refine (l19Two_c xs _ _ _ _ _ (hr.go hbg) hn HW.out hsa hsb).mono ?_
  rintro e wg0 ⟨rfl, hb0⟩
  have hbg := below_via hbg hb0
  have hg : goodH xs = true := by simp only [twoB, Bool.and_eq_true] at G0; exact G0.1.1.1
  have hne : a ≠ b := by simp only [twoB, Bool.and_eq_true] at G0; exact of_decide_eq_true G0.2
  have HG := Lib.hid hg
  have HT := Lib.hid G0
  have HV := Lib.hid (show dsL xs a b n = if dsB xs a b n = true then swH xs a b n else [] from rfl)
  have hpl := pairsH_le xs a b
  by_cases hle : inR n 0 (pairsH xs a b) = true
  · have HK := Lib.hid (show dsB xs a b n = goodH (swH xs a b n) by simp [dsB, HT.out, hle])
    have HA := Lib.hid (swR_all HG.out HW.out hne hsa hsb)
    have h2 := inR_iff.1 hle
    obtain ⟨m, rfl⟩ : ∃ m : Nat, n = (m : Int) := ⟨n.toNat, by omega⟩
    have hm1 : m ≤ (giveH xs a b).length := by unfold pairsH at h2; omega
    have hm2 : m ≤ (giveH xs b a).length := by unfold pairsH at h2; omega
    have HSW := Lib.hid (show swH xs a b (m : Int) = swF xs a b (giveH xs a b) (giveH xs b a) m by unfold swH; rw [Int.toNat_natCast])
    have HSS := Lib.hid (fun k => (show swF xs a b (giveH xs a b) (giveH xs b a) (k + 1) = mvH (mvH (swF xs a b (giveH xs a b) (giveH xs b a) k) a b ((giveH xs a b).getD k 0)) b a ((giveH xs b a).getD k 0) from rfl))
    have HHF := Lib.hid (fun (k : Nat) (ys : List Hold) (h : SwI xs a b (giveH xs a b) (giveH xs b a) k ys) => sw_half (i := k) hne h)
    have hgl := giveH_le xs a b
    have hgl2 := giveH_le xs b a
    have hxl := goodH_len hg
    clear hg hne
    go_wp2_with fail
    clear G0
    refine (l19Pairs_c xs _ _ a b _ (hr.go hbg) hn).mono ?_
    rintro e w1 ⟨rfl, hb1⟩
    have hbx := hbg.trans (hb1.mono hbg.size)
    clear hb1
    go_wp2_with fail
    refine (l1In_c _ _ _ _).mono ?_
    rw [hle]
    rintro e w1' ⟨rfl, rfl⟩
    clear hle h2
    go_wp2_with fail
    refine (l19Give_c xs _ _ a b _ (hr.go hbx) hn).mono ?_
    rintro e w2 ⟨B2, c2, rfl, hb2, hO2⟩
    have hr2 := hO2.rd
    have hbx := hbx.trans (hb2.mono hbx.size)
    clear hO2 hb2
    go_wp2_with fail
    refine (l19Give_c xs _ _ b a _ (hr.go hbx) hn).mono ?_
    rintro e w3 ⟨B3, c3, rfl, hb3, hO3⟩
    have hr3 := hO3.rd
    have hr2 := hr2.go hb3
    have hbx := hbx.trans (hb3.mono hbx.size)
    clear hO3 hb3
    have hA := (Below.refl w3.heap.size w3).alloc (Nat.le_refl _) (.cells #[] 41)
    go_wp2_with (at_builtin; refine wpList_app rfl (.tmp 37) (.tmp 38) _ rfl 41 (.agg #[.string ⟨#[]⟩, .int .i64 0, .int .i64 0]) 3 32 Try.underlying24 infoHold rfl (by decide) encHold_len oneHold_ (base := w3.heap.size) (m := xs.length) (ys := []) (zs := xs) rfl rfl rfl (OutR.empty w3 (Nat.le_refl _)) ((hr.go hbx).go hA) (by simp; omega) (by simp; omega) (by simp) ?_; intro v4 w4 ho4 hb4)
    rw [List.nil_append] at ho4
    have hb4 := hA.trans hb4
    have hr3 := hr3.go hb4
    have hr2 := hr2.go hb4
    obtain ⟨A5, c5, hv, hO4, _⟩ := ho4.own encHold_len
    subst hv
    have hO4 := hO4.wide (lo' := w.heap.size) hbx.size (Nat.le_refl _) (Nat.le_refl _)
    have hbx := hbx.trans (hb4.mono hbx.size)
    clear ho4 hb4 hA
    generalize giveH xs a b = ts at *
    generalize giveH xs b a = us at *
    go_wp2_with fail
    go_loopw [12, 13] (fun u i wr => ∃ k : Nat, k ≤ m ∧ i = .int .i64 k ∧ (∃ A' c', u = .slice A' (swF xs a b ts us k).length c' ∧ Own encHold 3 w.heap.size wr.heap.size wr A' (swF xs a b ts us k)) ∧ Below w4.heap.size w4 wr) (fun _ i _ => m - (intOf i).toNat)
    case atStart => exact ⟨0, Nat.zero_le _, rfl, ⟨_, _, rfl, hO4⟩, Below.refl _ _⟩
    case round =>
      obtain ⟨k, hk, rfl, ⟨A', c', rfl, hO⟩, hb⟩ := hrel
      clear hO4
      by_cases hlt : k < m
      · have hR := HA.out k (by omega) (by omega)
        have hkt : k < ts.length := by omega
        have hku : k < us.length := by omega
        obtain ⟨q1, q2, q3, q4, q5, q6, q7⟩ := HHF.out k _ hR.inv hkt hku
        have hss := HSS.out k
        rw [getD_at hkt, getD_at hku] at hss
        generalize hY2 : swF xs a b ts us (k + 1) = Y2 at *
        have HY2 := Lib.hid hY2
        clear hY2
        generalize swF xs a b ts us k = Y0 at *
        obtain ⟨bt, ot, rfl, hbt, d0⟩ := (hr2.below hb).int hkt
        obtain ⟨bu, ou, rfl, hbu, g0⟩ := (hr3.below hb).int hku
        obtain ⟨z, hz⟩ : ∃ z, ts[k] = z := ⟨_, rfl⟩
        obtain ⟨y, hy⟩ : ∃ y, us[k] = y := ⟨_, rfl⟩
        rw [hz] at d0 q1 q2 q4 q5 hss
        rw [hy] at g0 q2 hss
        have e1 := mv_add hR.inv.ord hR.inv.nz (b := b) q1
        have e2 := mv_add q4 q5 (b := a) q2
        rw [← hss] at e2
        have hb1 := mv_bd (a := a) (b := b) (z := z) hR.inv.ord q5 (by rw [hR.inv.sum]; exact good_sum HG.out)
        have l1 := len_inc_le hR.inv.ord a z (-1)
        have l2 := len_inc_le (ord_inc hR.inv.ord a z (-1)) b z 1
        have l3 := len_inc_le q4 b y (-1)
        have hlr := hR.len
        have hc0 : ∀ x ∈ Y0, 1 ≤ x.count ∧ x.count ≤ 1980 := fun x hx => ⟨hR.inv.nz x hx, hR.bd x hx⟩
        have hc2 : ∀ x ∈ mvH Y0 a b z, 1 ≤ x.count ∧ x.count ≤ 1980 := fun x hx => ⟨q5 x hx, hb1 x hx⟩
        have a1 := add_inc hR.inv.nz a z (-1)
        have a2 := add_inc q5 b y (-1)
        have c1 := cnt_inc_bd hR.inv.ord (o := a) (z := z) (n := -1) hc0 (by decide) (by decide) (by decide)
        have c3 := cnt_inc_bd q4 (o := b) (z := y) (n := -1) hc2 (by decide) (by decide) (by decide)
        rw [← a1] at c1 l1
        rw [← a2] at c3 l3
        have l2' : (mvH Y0 a b z).length ≤ (addH Y0 a z (-1)).length + 1 := by rw [a1]; exact l2
        have HM1 := Lib.hid (fun (B : Option Addr) (cc : Nat) (v : World) (h : Rd encHold 3 v.heap.size v B Y0) => l19Add_c Y0 B cc a z (-1) v h (by omega) (fun x hx => by have := hc0 x hx; omega) (by decide) (by decide))
        have HM2 := Lib.hid (fun (B : Option Addr) (cc : Nat) (v : World) (h : Rd encHold 3 v.heap.size v B (addH Y0 a z (-1))) => l19Add_c (addH Y0 a z (-1)) B cc b z 1 v h (by omega) (fun x hx => by have := c1 x hx; omega) (by decide) (by decide))
        have HM3 := Lib.hid (fun (B : Option Addr) (cc : Nat) (v : World) (h : Rd encHold 3 v.heap.size v B (mvH Y0 a b z)) => l19Add_c (mvH Y0 a b z) B cc b y (-1) v h (by omega) (fun x hx => by have := hc2 x hx; omega) (by decide) (by decide))
        have HM4 := Lib.hid (fun (B : Option Addr) (cc : Nat) (v : World) (h : Rd encHold 3 v.heap.size v B (addH (mvH Y0 a b z) b y (-1))) => l19Add_c (addH (mvH Y0 a b z) b y (-1)) B cc a y 1 v h (by omega) (fun x hx => by have := c3 x hx; omega) (by decide) (by decide))
        simp only [e1] at HM2
        simp only [e2] at HM4
        have hi0 : (0 : Int) ≤ (k : Int) := by omega
        have hi1 : (k : Int) < (ts.length : Int) := by omega
        have hi2 : (k : Int) < (us.length : Int) := by omega
        clear q1 q2 q3 q4 q5 q6 q7 hss hR e1 e2 hb1 l1 l2 l3 l2' hc0 hc2 a1 a2 c1 c3 hlr hz hy
        generalize addH (mvH Y0 a b z) b y (-1) = Z2 at *
        generalize mvH Y0 a b z = Y1 at *
        generalize addH Y0 a z (-1) = Z1 at *
        have hbt2 := Nat.lt_of_lt_of_le hbt hb.size
        have hbu2 := Nat.lt_of_lt_of_le hbu hb.size
        have hrd := Lib.hid (show Rd encHold 3 wr.drew.heap.size wr.drew A' Y0 from hO.rd)
        go_upto_region 8 with fail
        go_cut [12] (fun u wx => ∃ A2 c2, u = .slice A2 Y1.length c2 ∧ Own encHold 3 wr.heap.size wx.heap.size wx A2 Y1 ∧ Below wr.heap.size wr wx)
        case first =>
          have hS0 : wr.drew.cell? ⟨bt, ot + k, none⟩ = some (.int .i64 z) := d0
          have KD := Lib.hid (show ∀ W, Below wr.heap.size wr W → W.cell? ⟨bt, ot + k, none⟩ = some (.int .i64 z) from fun W hW => (hW.cell (p := ⟨bt, _, none⟩) hbt2).trans d0)
          clear d0 g0
          obtain ⟨tok, _⟩ : ∃ t : Nat, True := ⟨0, trivial⟩
          go_region_held3 (fun W => W.cell? ⟨bt, ot + k, none⟩ = some (.int .i64 z)) (first | assumption | exact KD.out _ hbv2 | exact KD.out _ hbv1) (first
            | (clear tok; go_at_call 34; refine (HM1.out _ _ _ hrd.out).mono ?_; rintro e v1 ⟨B1, c1, rfl, ho1, hbv1⟩; have hbv1 := (Below.refl wr.heap.size wr).drew.trans hbv1; obtain ⟨A6, c6, hv, hO6, _⟩ := ho1.own encHold_len; injection hv with hv _ hv2; subst hv hv2)
            | (go_at_call 34; refine (HM2.out _ _ _ hO6.rd).mono ?_; rintro e v2 ⟨B7, c7, rfl, ho7, hbv2⟩; have hbv2 := hbv1.trans (hbv2.mono hbv1.size)))
          all_goals
            obtain ⟨A8, c8, hv, hO8, _⟩ := ho7.own encHold_len
            injection hv with hv _ hv2
            subst hv hv2
            go_wp2_with fail
            go_meet
            exact ⟨_, _, rfl, hO8.wide hbv1.size (Nat.le_refl _) (Nat.le_refl _), hbv2⟩
        case rest =>
        obtain ⟨A2, c2, hv, hO2, hbc⟩ := hcut
        subst hv
        have g0 := (hbc.cell (p := ⟨bu, _, none⟩) hbu2).trans g0
        have hbu3 := Nat.lt_of_lt_of_le hbu2 hbc.size
        have hbb := hb.trans (hbc.mono hb.size)
        have hrd2 := hO2.rd
        obtain ⟨wm, hwm⟩ : ∃ wm, wc = wm := ⟨_, rfl⟩
        rw [hwm] at g0 hbu3 hbb hrd2 ⊢
        have hrd2 := Lib.hid (show Rd encHold 3 wm.drew.heap.size wm.drew A2 Y1 from hrd2)
        clear hwm d0 hO hO2 hbc hb hrd HM1 HM2
        go_upto_region 9 with fail
        have hS0 : wm.drew.cell? ⟨bu, ou + k, none⟩ = some (.int .i64 y) := g0
        have KD := Lib.hid (show ∀ W, Below wm.heap.size wm W → W.cell? ⟨bu, ou + k, none⟩ = some (.int .i64 y) from fun W hW => (hW.cell (p := ⟨bu, _, none⟩) hbu3).trans g0)
        clear g0
        obtain ⟨tok, _⟩ : ∃ t : Nat, True := ⟨0, trivial⟩
        have hsw := hbx.size
        go_region_held3 (fun W => W.cell? ⟨bu, ou + k, none⟩ = some (.int .i64 y)) (first | assumption | exact KD.out _ hbv2 | exact KD.out _ hbv1) (first
          | (clear tok; go_at_call 34; refine (HM3.out _ _ _ hrd2.out).mono ?_; rintro e v1 ⟨B1, c1, rfl, ho1, hbv1⟩; have hbv1 := (Below.refl wm.heap.size wm).drew.trans hbv1; obtain ⟨A6, c6, hv, hO6, _⟩ := ho1.own encHold_len; injection hv with hv _ hv2; subst hv hv2)
          | (go_at_call 34; refine (HM4.out _ _ _ hO6.rd).mono ?_; rintro e v2 ⟨B7, c7, rfl, ho7, hbv2⟩; have hbv2 := hbv1.trans (hbv2.mono hbv1.size)))
        all_goals
          obtain ⟨A8, c8, hv, hO8, _⟩ := ho7.own encHold_len
          injection hv with hv _ hv2
          subst hv hv2
          have hO6 := hO8.wide (lo' := w.heap.size) (Nat.le_trans hsw (Nat.le_trans hbb.size hbv1.size)) (Nat.le_refl _) (Nat.le_refl _)
          have hbb := hbb.trans (hbv2.mono hbb.size)
          go_wp2_with fail
          go_roundw
          case rel => exact ⟨k + 1, by omega, by go_num, by rw [HY2.out]; exact ⟨_, _, rfl, hO6⟩, hbb⟩
          case measure => simp [intOf]; omega
      · obtain rfl : k = m := by omega
        have hR := HA.out k hm1 hm2
        have HL := Lib.hid hR.len
        have HS := Lib.hid hR.sz
        rw [← HSW.out] at hO HL HS ⊢
        generalize swH xs a b (k : Int) = YS at *
        have hbx := hbx.trans (hb.mono hbx.size)
        clear hR hb
        go_wp2_with fail
        refine (l19Good_c YS _ _ _ hO.rd (by have := HL.out; omega) HS.out).mono ?_
        rintro e w5 ⟨rfl, hb5⟩
        have hO5 := Lib.hid ((hO.go hb5).wide (Nat.le_refl _) hb5.size (Nat.le_refl _))
        have hbx := hbx.trans (hb5.mono hbx.size)
        clear hO hb5
        cases hG : goodH YS
        · have HB : Hid (dsB xs a b (k : Int) = false) := Lib.hid (by rw [HK.out, hG])
          have HG2 := Lib.hid (show dsL xs a b (k : Int) = [] by rw [HV.out, HB.out]; rfl)
          clear hG
          go_wp2_with fail
          go_returns
          exact ⟨_, _, ret_list (by rw [HG2.out]; rfl) HB.out.symm, hbx.trans (Below.alloc (Below.refl _ _) hbx.size _), Own.none_ HG2.out (Nat.le_refl _)⟩
        · have HB : Hid (dsB xs a b (k : Int) = true) := Lib.hid (by rw [HK.out, hG])
          have HG2 := Lib.hid (show dsL xs a b (k : Int) = YS by rw [HV.out, HB.out]; rfl)
          clear hG
          go_wp2_with fail
          go_returns
          exact ⟨_, _, ret_list (by rw [HG2.out]) HB.out.symm, hbx, by rw [HG2.out]; exact hO5.out⟩
  · have hle0 : inR n 0 (pairsH xs a b) = false := by simpa using hle
    have HB : Hid (dsB xs a b n = false) := Lib.hid (by simp [dsB, hle0])
    have HG2 := Lib.hid (show dsL xs a b n = [] by rw [HV.out, HB.out]; rfl)
    go_wp2_with fail
    refine (l19Pairs_c xs _ _ a b _ (hr.go hbg) hn).mono ?_
    rintro e w1 ⟨rfl, hb1⟩
    have hbx := hbg.trans (hb1.mono hbg.size)
    go_wp2_with fail
    refine (l1In_c _ _ _ _).mono ?_
    rw [hle0]
    rintro e w1' ⟨rfl, rfl⟩
    go_wp2_with fail
    go_returns
    exact ⟨_, _, ret_list (by rw [HG2.out]; rfl) HB.out.symm, hbx.trans (Below.alloc (Below.refl _ _) hbx.size _), Own.none_ HG2.out (Nat.le_refl _)⟩
end Go.Proofs.Ytebkfcdijjcefaa
