/- ExpertNames of the reference: its contract. No condition but the sizes. -/
import Derived.Test.YtpnkeaeikcobfaaGreatDoorExPlain
import Derived.Test.YtpnkeaeikcobfaaGreatDoorApp2
import Derived.Deep.DeepCutAuto
import Derived.Deep.RegionHeld3
namespace Go.Proofs.YtpnkeaeikcobfaaGreatDoor
set_option linter.unusedVariables false
set_option linter.unusedSimpArgs false
open Go.RowKit
attribute [local irreducible] wpQuiet
theorem infoTx : (Tryz.prog.info? 9).map (fun i => (i.zero, i.size, i.bytes)) = some (some (.string ⟨#[]⟩), 1, 16) := by kernel_rfl
theorem encS_lenX (x : ByteArray) : (encS x).length = 1 := rfl
theorem oneTx (x : ByteArray) : ∀ u ∈ encS x, u.oneCell' = true := by intro u hu; simp [encS] at hu; subst hu; rfl
theorem OutR.castX {α : Type} {enc : α → List Value} {k : Nat} {E : TypeId} {base : Nat} {v : Value} {ys zs : List α} {w : World} (h : OutR enc k E base v ys w) (e : ys = zs) : OutR enc k E base v zs w := e ▸ h
theorem OutR.freshX {α : Type} {enc : α → List Value} {k lo base : Nat} {E : TypeId} {v : Value} {ys : List α} {w : World} (h : OutR enc k E base v ys w) (hl : lo ≤ base) : OutR enc k E lo v ys w := by
  refine ⟨h.1, ?_⟩
  rcases h.2 with hn | ⟨g, cap, cur, hv, hbg, rest⟩
  · exact .inl hn
  · exact .inr ⟨g, cap, cur, hv, Nat.le_trans hl hbg, rest⟩
theorem rd_oneTx {w : World} {b : Nat} {n : ByteArray} (h : w.cell? ⟨b, 0, none⟩ = some (.string n)) : Rd encS 1 w.heap.size w (some ⟨b, 0, none⟩) [n] := fun _ =>
  ⟨b, 0, rfl, cell_lt h, fun i y hy j v hv => by
    have hi : i = 0 := by have := (List.getElem?_eq_some_iff.1 hy).1; simp at this; omega
    subst hi
    have hj : j = 0 := by have := (List.getElem?_eq_some_iff.1 hv).1; simp [encS] at this; omega
    subst hj
    have hy' : y = n := by simpa using hy.symm
    subst hy'
    have hv' : v = .string y := by simpa [encS] using hv.symm
    subst hv'
    exact h⟩
theorem Rd.mul1x {B : Nat} {w : World} {b off k : Nat} {xs : List ByteArray} (h : Rd encS 1 B w (some ⟨b, off + k * 1, none⟩) xs) : Rd encS 1 B w (some ⟨b, off + k, none⟩) xs := by rwa [Nat.mul_one] at h
theorem cntE_lt {xs : List Opinion} {k : Nat} (hk : k < xs.length) (e : ByteArray) : cntE (xs.take (k + 1)) e = cntE (xs.take k) e + if xs[k].expert = e then 1 else 0 := by
  rw [take_succ_get xs k hk]
  unfold cntE
  rw [List.filter_append, List.length_append]
  by_cases h : xs[k].expert = e <;> simp [h]
theorem cntE_leX (ys : List Opinion) (e : ByteArray) : cntE ys e ≤ ys.length := List.length_filter_le _ _
theorem hasE_s {l : List ByteArray} {j : Nat} (h : j < l.length) (e : ByteArray) : hasE (l.take (j + 1)) e = (hasE (l.take j) e || decide (l[j] = e)) := by
  unfold hasE
  rw [take_succ_get l j h, List.any_append]; simp
set_option maxRecDepth 100000 in
set_option maxHeartbeats 800000 in
theorem l17Count_c (xs : List Opinion) (A : Option Addr) (c : Nat) (e : ByteArray) (w : World) (hr : Rd encOpinion 5 w.heap.size w A xs) (hn : xs.length ≤ 1048576) :
    Calls Tryz.prog 57 #[.slice A xs.length c, .string e] w (Ret (.int .i64 (cntE xs e : Int)) w) := by
  go_enter Tryz.func57, Tryz.ntmps57
  go_wp2_with fail
  go_loopw [5, 6] (fun n i wr => ∃ (k m : Nat), k ≤ xs.length ∧ i = .int .i64 k ∧ n = .int .i64 m ∧ Hid (m = cntE (xs.take k) e) ∧ m ≤ k ∧ Below w.heap.size w wr) (fun _ i _ => xs.length - (intOf i).toNat)
  case atStart => exact ⟨0, 0, Nat.zero_le _, rfl, rfl, Lib.hid (by simp [cntE]), Nat.le_refl _, Below.refl _ _⟩
  case round =>
    obtain ⟨k, m, hk, rfl, rfl, HM, hmk, hb⟩ := hrel
    by_cases hlt : k < xs.length
    · obtain ⟨b, off, rfl, hbs, d0, d1, d2, d3, d4⟩ := (hr.below hb).atOpinion hlt
      have HT := Lib.hid (cntE_lt hlt e)
      have hk0 : (0 : Int) ≤ (k : Int) := by omega
      have hk1 : (k : Int) < (xs.length : Int) := by omega
      by_cases he : xs[k].expert = e
      · have he' : (xs[k].expert.toList == e.toList) = true := by rw [toList_beq]; simpa using he
        have HN := Lib.hid (show m + 1 = cntE (xs.take (k + 1)) e by rw [HT.out, if_pos he, HM.out])
        clear he d0 d2 d3 d4
        generalize xs[k].expert = y at *
        go_wp2_with fail
        go_roundw
        case rel => exact ⟨k + 1, m + 1, by omega, by go_num, by go_num, HN, by omega, hb⟩
        case measure => simp [intOf]; omega
      · have he' : (xs[k].expert.toList == e.toList) = false := by rw [toList_beq]; simpa using he
        have HN := Lib.hid (show m = cntE (xs.take (k + 1)) e by rw [HT.out, if_neg he, HM.out]; rfl)
        clear he d0 d2 d3 d4
        generalize xs[k].expert = y at *
        go_wp2_with fail
        go_roundw
        case rel => exact ⟨k + 1, m, by omega, by go_num, rfl, HN, by omega, hb⟩
        case measure => simp [intOf]; omega
    · have hke : k = xs.length := by omega
      have HV := Lib.hid (show (m : Int) = (cntE xs e : Int) by rw [HM.out, hke, List.take_length])
      go_wp2_with fail
      go_returns
      exact ⟨ret_int HV.out, hb⟩
set_option maxRecDepth 100000 in
set_option maxHeartbeats 3200000 in
theorem specExpertNames_c (xs : List Opinion) (A : Option Addr) (c : Nat) (w : World) (hr : Rd encOpinion 5 w.heap.size w A xs) (hn : xs.length ≤ 1048576) (hw : ∀ x ∈ xs, x.expert.size ≤ 9223372036854775807) :
    Calls Tryz.prog 21 #[.slice A xs.length c] w (RetL encS 1 (exV xs) (goodO xs) w) := by
  have HW := Lib.hid hw
  clear hw
  go_enter Tryz.func21, Tryz.ntmps21
  go_wp2_with fail
  have hO0 := OutR.empty (enc := encS) (k := 1) (E := 9) w (Nat.le_refl _)
  have hbg : Below w.heap.size w (w.alloc (.cells #[] 9)) := (Below.refl _ _).alloc (Nat.le_refl _) _
  refine (l17Good_c xs _ _ _ (hr.go hbg) hn HW.out).mono ?_
  rintro _ w1 ⟨rfl, hb1⟩
  have hO1 := hO0.below hb1
  replace hbg := below_via hbg hb1
  clear hO0 hb1
  cases hG : goodO xs with
  | false =>
    have HV := Lib.hid (show exV xs = [] by unfold exV; rw [hG]; rfl)
    have HG := Lib.hid hG
    clear hG
    go_wp2_with fail
    go_returns
    exact ⟨_, _, ret_list (by rw [HV.out]; rfl) HG.out.symm, hbg, Own.none_ HV.out (Nat.le_refl _)⟩
  | true =>
    have HV := Lib.hid (show exV xs = exF xs xs.length by unfold exV; rw [hG]; rfl)
    have HG := Lib.hid hG
    have hlen := goodO_len hG
    clear hG
    go_wp2_with fail
    go_loopw [4, 5] (fun u i wr => ∃ k : Nat, k ≤ xs.length ∧ i = .int .i64 k ∧ OutR encS 1 9 w.heap.size u (exF xs k) wr ∧ Below w.heap.size w wr) (fun _ i _ => xs.length - (intOf i).toNat)
    case atStart => exact ⟨0, Nat.zero_le _, rfl, hO1, hbg⟩
    case round =>
      obtain ⟨k, hk, rfl, hO, hb⟩ := hrel
      clear hO1 hbg
      by_cases hlt : k < xs.length
      · obtain ⟨b, off, rfl, hbs, d0, d1, d2, d3, d4⟩ := (hr.below hb).atOpinion hlt
        have hk0 : (0 : Int) ≤ (k : Int) := by omega
        have hk1 : (k : Int) < (xs.length : Int) := by omega
        have hLl := exF_len (xs := xs) k
        have HYes := Lib.hid (fun (h : xs[k].expert ∈ exF xs k) => exF_yes hlt h)
        have HNo := Lib.hid (fun (h : ¬ xs[k].expert ∈ exF xs k) => exF_no hlt h)
        clear d0 d2 d3 d4
        generalize xs[k].expert = nm at *
        generalize exF xs k = L at *
        obtain ⟨Au, cu, rfl, hOw, hcu⟩ := hO.own encS_lenX
        have hrL := hOw.rd
        have hmle := cntE_leX xs nm
        clear hOw
        go_wp2_with fail
        refine (l17Count_c xs _ _ nm _ ((hr.below hb).more hb.size) hn).mono ?_
        rintro _ w3 ⟨rfl, hb3⟩
        replace hrL := hrL.go hb3
        replace hO := hO.below hb3
        have hb4 := hb.trans (hb3.mono hb.size)
        clear hb hb3 d1
        have HC := Lib.hid (fun (y : ByteArray) (v : World) (h : Below w3.heap.size w3 v) => l17Count_c xs (some ⟨b, off, none⟩) c y v (((hr.below hb4).more hb4.size).go h) hn)
        have HBf := Lib.hid (show ∀ y, befE xs nm y = (decide (cntE xs y < cntE xs nm) || (decide (cntE xs nm = cntE xs y) && sLt nm y)) from fun y => rfl)
        have HCle := Lib.hid (fun y => cntE_leX xs y)
        generalize hcm : cntE xs nm = cm at *
        clear hcm
        have hO3 := Lib.hid hO
        clear hO
        go_wp2_with fail
        go_loopw [9, 10] (fun t i wr => ∃ (j : Nat) (tb : Bool), j ≤ L.length ∧ i = .int .i64 j ∧ t = .bool tb ∧ Hid (tb = hasE (L.take j) nm) ∧ Below w3.heap.size w3 wr) (fun _ i _ => L.length - (intOf i).toNat)
        case atStart => exact ⟨0, false, Nat.zero_le _, rfl, rfl, Lib.hid (by simp [hasE]), Below.refl _ _⟩
        case round =>
          obtain ⟨j, tb, hj, rfl, rfl, HTB, hbj⟩ := hrel
          by_cases hjl : j < L.length
          · have HT := Lib.hid (hasE_s hjl nm)
            obtain ⟨bL, oL, rfl, hbL, dL⟩ := (hrL.go hbj).str hjl
            have hj0 : (0 : Int) ≤ (j : Int) := by omega
            have hj1 : (j : Int) < (L.length : Int) := by omega
            cases tb
            · by_cases he : L[j] = nm
              · have he' : (L[j].toList == nm.toList) = true := by rw [toList_beq]; simpa using he
                have HN := Lib.hid (show true = hasE (L.take (j + 1)) nm by rw [HT.out, decide_eq_true he, Bool.or_true])
                clear he
                generalize L[j] = y at *
                go_wp2_with fail
                go_roundw
                case rel => exact ⟨j + 1, true, by omega, by go_num, rfl, HN, hbj⟩
                case measure => simp [intOf]; omega
              · have he' : (L[j].toList == nm.toList) = false := by rw [toList_beq]; simpa using he
                have HN := Lib.hid (show false = hasE (L.take (j + 1)) nm by rw [HT.out, decide_eq_false he, ← HTB.out]; rfl)
                clear he
                generalize L[j] = y at *
                go_wp2_with fail
                go_roundw
                case rel => exact ⟨j + 1, false, by omega, by go_num, rfl, HN, hbj⟩
                case measure => simp [intOf]; omega
            · have HN := Lib.hid (show true = hasE (L.take (j + 1)) nm by rw [HT.out, ← HTB.out]; rfl)
              generalize L[j] = y at *
              go_wp2_with fail
              go_roundw
              case rel => exact ⟨j + 1, true, by omega, by go_num, rfl, HN, hbj⟩
              case measure => simp [intOf]; omega
          · have hje : j = L.length := by omega
            have HTB2 := Lib.hid (show tb = hasE L nm by rw [HTB.out, hje, List.take_length])
            clear HTB hje
            go_wp2_with fail
            go_loopw [8] (fun q wr => ∃ q' : Nat, q = .int .i64 q' ∧ q' ≤ L.length ∧ Hid (downE (befE xs) nm L q' = downE (befE xs) nm L L.length) ∧ Below w3.heap.size w3 wr) (fun q _ => (intOf q).toNat)
            case atStart => exact ⟨L.length, rfl, Nat.le_refl _, Lib.hid rfl, hbj⟩
            case round =>
              obtain ⟨q, rfl, hq, HQ, hbq⟩ := hrel
              go_upto_region 15 with fail
              go_cut [79] (fun v wx => ∃ t : Bool, v = .bool t ∧ Hid ((t = true → ∃ p, q = p + 1 ∧ downE (befE xs) nm L p = downE (befE xs) nm L L.length) ∧ (t = false → q = downE (befE xs) nm L L.length)) ∧ Below w3.heap.size w3 wx)
              case first =>
                cases q with
                | zero =>
                  have HZ := Lib.hid (show (0 : Nat) = downE (befE xs) nm L L.length by rw [← HQ.out]; rfl)
                  go_wp2_with fail
                  go_meet
                  exact ⟨false, rfl, Lib.hid ⟨fun h => (by cases h), fun _ => HZ.out⟩, hbq⟩
                | succ p =>
                  have hp : p < L.length := by omega
                  obtain ⟨bL, oL, rfl, hbL, dL⟩ := (hrL.go hbq).str hp
                  have HY := Lib.hid (fun (h : befE xs nm L[p] = true) => (downE_yes hp h).symm.trans HQ.out)
                  have HN := Lib.hid (fun (h : befE xs nm L[p] = false) => (downE_no hp h).symm.trans HQ.out)
                  have hbw : bL < wr.heap.size := Nat.lt_of_lt_of_le hbL (Nat.le_refl _)
                  generalize L[p] = y at *
                  have hcy := HCle.out y
                  have HB := Lib.hid (HBf.out y)
                  have HCy := Lib.hid (HC.out y)
                  generalize cntE xs y = cy at *
                  clear HC HBf HCle HQ HTB2 hO3
                  go_wp2_with fail
                  refine (HCy.out _ hbq).mono ?_
                  rintro _ w5 ⟨rfl, hb5⟩
                  have hbq5 := hbq.trans (hb5.mono hbq.size)
                  replace dL := (hb5.cell (p := ⟨bL, _, none⟩) hbw).trans dL
                  have hbw5 : bL < w5.heap.size := Nat.lt_of_lt_of_le hbw hb5.size
                  by_cases h1 : cy < cm
                  · have h1a : (cy : Int) < (cm : Int) := by omega
                    have h1b : decide ((cy : Int) < (cm : Int)) = true := decide_eq_true h1a
                    have h1c : decide (cy < cm) = true := decide_eq_true h1
                    have HYY := Lib.hid (HY.out (by rw [HB.out, h1c]; rfl))
                    clear HB
                    go_wp2_with fail
                    go_meet
                    exact ⟨true, by simp [h1], Lib.hid ⟨fun _ => ⟨p, rfl, HYY.out⟩, fun h => (by cases h)⟩, hbq5⟩
                  · have h1a : ¬ (cy : Int) < (cm : Int) := by omega
                    have h1b : decide ((cy : Int) < (cm : Int)) = false := decide_eq_false h1a
                    have h1c : decide (cy < cm) = false := decide_eq_false h1
                    go_wp2_with fail
                    refine (HCy.out _ hbq5).mono ?_
                    rintro _ w6 ⟨rfl, hb6⟩
                    have hbq6 := hbq5.trans (hb6.mono hbq5.size)
                    replace dL := (hb6.cell (p := ⟨bL, _, none⟩) hbw5).trans dL
                    clear HCy
                    by_cases h2 : cy = cm
                    · have h2a : ((cy : Int) == (cm : Int)) = true := by simp [h2]
                      have h2c : decide (cm = cy) = true := decide_eq_true h2.symm
                      cases h3 : sLt nm y with
                      | true =>
                        have h3' : Op.bytesLess nm.toList y.toList = true := h3
                        have HYY := Lib.hid (HY.out (by rw [HB.out, h1c, h2c, h3]; rfl))
                        clear HB h2 h2c h3
                        go_wp2_with fail
                        go_meet
                        exact ⟨true, by simp <;> omega, Lib.hid ⟨fun _ => ⟨p, rfl, HYY.out⟩, fun h => (by cases h)⟩, hbq6⟩
                      | false =>
                        have h3' : Op.bytesLess nm.toList y.toList = false := h3
                        have HNN := Lib.hid (HN.out (by rw [HB.out, h1c, h2c, h3]; rfl))
                        clear HB h2 h2c h3
                        go_wp2_with fail
                        go_meet
                        exact ⟨false, by simp <;> omega, Lib.hid ⟨fun h => (by cases h), fun _ => HNN.out⟩, hbq6⟩
                    · have h2a : ((cy : Int) == (cm : Int)) = false := by simp only [beq_eq_false_iff_ne, ne_eq]; omega
                      have h2c : decide (cm = cy) = false := decide_eq_false (fun e => h2 e.symm)
                      have HNN := Lib.hid (HN.out (by rw [HB.out, h1c, h2c]; rfl))
                      clear HB h2 h2c
                      go_wp2_with fail
                      go_meet
                      exact ⟨false, by simp <;> omega, Lib.hid ⟨fun h => (by cases h), fun _ => HNN.out⟩, hbq6⟩
              case rest =>
              obtain ⟨t, rfl, HTT, hbc⟩ := hcut
              clear HQ hbq HC HBf HCle
              cases t
              · replace HQ := Lib.hid (HTT.out.2 rfl)
                clear HTT
                have hbX := hb4.trans (hbc.mono hb4.size)
                have hO5 := hO3.out.below hbc
                replace hrL := hrL.go hbc
                clear hO3
                · cases tb
                  · have HI := Lib.hid (HNo.out (fun h => by have := hasE_iff.2 h; rw [← HTB2.out] at this; cases this))
                    clear HYes HNo HTB2
                    have hws : w.heap.size ≤ wc.heap.size := hbX.size
                    go_upto_region 18 with fail
                    have hkc : (q : Int) ≤ cu := by omega
                    have hq0 : (0 : Int) ≤ q := by omega
                    have hql : (q : Int) ≤ L.length := by omega
                    by_cases hqe : q < L.length
                    · have hkc2 : (q : Int) < cu := by omega
                      have hkc3 : ¬ cu = q := by omega
                      obtain ⟨bL, oL, rfl, hbL, _⟩ := hrL.str hqe
                      go_region_held3 (fun _ => True) (trivial) (first
                        | ((refine step_app (o := ⟨some 88, _, _, _, _, _⟩) (by rfl) (.tmp 84) (.tmp 87) _ (by rfl) 9 (.string ⟨#[]⟩) 1 16 Tryz.underlying41 infoTx (by rfl) (by decide) encS_lenX oneTx (base := wc.heap.size) (zs := L.take q) (by rfl) (by rfl) (by simp; omega) (by first | exact OutR.emptyH _ _ (by simp) (by first | (simp; done) | (simp; omega)) | exact OutR.emptyHD _ _ (by simp) (by first | (simp; done) | (simp; omega)) | exact (OutR.emptyH wc _ rfl (Nat.le_refl _)).below (by go_grown)) ((hrL.go (by go_grown)).take q) (by simp; omega) (by simp; omega) (by first | (simp; done) | (simp; omega)) ?_; intro v1 W1 ho1 hb1 hg1; have hB1 : Below wc.heap.size wc W1 := Below.trans (by go_grown) hb1))
                        | ((refine step_app (o := ⟨some 91, _, _, _, _, _⟩) (by rfl) (.tmp 88) (.tmp 90) _ (by rfl) 9 (.string ⟨#[]⟩) 1 16 Tryz.underlying41 infoTx (by rfl) (by decide) encS_lenX oneTx (base := wc.heap.size) (zs := [nm]) (by rfl) (by rfl) rfl (by first | exact ho1 | exact ho1.below ((Below.refl _ _).alloc (Nat.le_refl _) _)) (by first | exact rd_new (x := nm) (vs := [.string nm]) rfl rfl | exact rd_oneTx (hg1.cell (by simp) (by simp [Value.ownBlock, go_sem]))) (by simp; omega) (by simp; omega) (by have := hB1.size; simp; omega) ?_; intro v2 W2 ho2 hb2 hg2; have hB2 : Below wc.heap.size wc W2 := (by first | exact hB1.trans hb2 | exact (hB1.alloc hB1.size _).trans hb2)))
                        | ((refine step_app (o := ⟨some 95, _, _, _, _, _⟩) (by rfl) (.tmp 91) (.tmp 94) _ (by rfl) 9 (.string ⟨#[]⟩) 1 16 Tryz.underlying41 infoTx (by rfl) (by decide) encS_lenX oneTx (base := wc.heap.size) (zs := L.drop q) (by rfl) (by rfl) (by simp; try omega) ho2 (((hrL.go hB2).drop q).mul1x) (by simp; omega) (by simp; omega) hB2.size ?_; intro v3 W3 ho3 hb3 hg3; have hB3 : Below wc.heap.size wc W3 := hB2.trans hb3)))
                      all_goals
                        have ho4 := ((OutR.castX ho3 (zs := exF xs (k + 1)) (by rw [HI.out]; unfold insE; rw [← HQ.out, List.nil_append])).freshX hws)
                        have hb4 := hbX.trans (hB3.mono hbX.size)
                        clear ho1 ho2 ho3 hb1 hb2 hb3 hB1 hB2 hB3 hg1 hg2 hg3
                        go_wp2_with fail
                        go_roundw
                        case rel => exact ⟨k + 1, by omega, by go_num, ho4, hb4⟩
                        case measure => simp [intOf]; omega
                    · have hqe2 : q = L.length := by omega
                      have HDR := Lib.hid (show L.drop q = [] by rw [hqe2]; simp)
                      clear hqe2
                      by_cases hck : cu = q
                      · go_region_held3 (fun _ => True) (trivial) (first
                          | ((refine step_app (o := ⟨some 88, _, _, _, _, _⟩) (by rfl) (.tmp 84) (.tmp 87) _ (by rfl) 9 (.string ⟨#[]⟩) 1 16 Tryz.underlying41 infoTx (by rfl) (by decide) encS_lenX oneTx (base := wc.heap.size) (zs := L.take q) (by rfl) (by rfl) (by simp; omega) (by first | exact OutR.emptyH _ _ (by simp) (by first | (simp; done) | (simp; omega)) | exact OutR.emptyHD _ _ (by simp) (by first | (simp; done) | (simp; omega)) | exact (OutR.emptyH wc _ rfl (Nat.le_refl _)).below (by go_grown)) ((hrL.go (by go_grown)).take q) (by simp; omega) (by simp; omega) (by first | (simp; done) | (simp; omega)) ?_; intro v1 W1 ho1 hb1 hg1; have hB1 : Below wc.heap.size wc W1 := Below.trans (by go_grown) hb1))
                          | ((refine step_app (o := ⟨some 91, _, _, _, _, _⟩) (by rfl) (.tmp 88) (.tmp 90) _ (by rfl) 9 (.string ⟨#[]⟩) 1 16 Tryz.underlying41 infoTx (by rfl) (by decide) encS_lenX oneTx (base := wc.heap.size) (zs := [nm]) (by rfl) (by rfl) rfl (by first | exact ho1 | exact ho1.below ((Below.refl _ _).alloc (Nat.le_refl _) _)) (by first | exact rd_new (x := nm) (vs := [.string nm]) rfl rfl | exact rd_oneTx (hg1.cell (by simp) (by simp [Value.ownBlock, go_sem]))) (by simp; omega) (by simp; omega) (by have := hB1.size; simp; omega) ?_; intro v2 W2 ho2 hb2 hg2; have hB2 : Below wc.heap.size wc W2 := (by first | exact hB1.trans hb2 | exact (hB1.alloc hB1.size _).trans hb2)))
                          | ((refine step_app (o := ⟨some 95, _, _, _, _, _⟩) (by rfl) (.tmp 91) (.tmp 94) _ (by rfl) 9 (.string ⟨#[]⟩) 1 16 Tryz.underlying41 infoTx (by rfl) (by decide) encS_lenX oneTx (base := wc.heap.size) (zs := ([] : List ByteArray)) (B := 0) (by rfl) (by rfl) (by simp; try omega) ho2 Rd.nil (by simp; omega) (by simp; omega) hB2.size ?_; intro v3 W3 ho3 hb3 hg3; have hB3 : Below wc.heap.size wc W3 := hB2.trans hb3)))
                        all_goals
                          have ho4 := ((OutR.castX ho3 (zs := exF xs (k + 1)) (by rw [HI.out]; unfold insE; rw [← HQ.out, HDR.out, List.nil_append])).freshX hws)
                          have hb4 := hbX.trans (hB3.mono hbX.size)
                          clear ho1 ho2 ho3 hb1 hb2 hb3 hB1 hB2 hB3 hg1 hg2 hg3
                          go_wp2_with fail
                          go_roundw
                          case rel => exact ⟨k + 1, by omega, by go_num, ho4, hb4⟩
                          case measure => simp [intOf]; omega
                      · go_region_held3 (fun _ => True) (trivial) (first
                          | ((refine step_app (o := ⟨some 88, _, _, _, _, _⟩) (by rfl) (.tmp 84) (.tmp 87) _ (by rfl) 9 (.string ⟨#[]⟩) 1 16 Tryz.underlying41 infoTx (by rfl) (by decide) encS_lenX oneTx (base := wc.heap.size) (zs := L.take q) (by rfl) (by rfl) (by simp; omega) (by first | exact OutR.emptyH _ _ (by simp) (by first | (simp; done) | (simp; omega)) | exact OutR.emptyHD _ _ (by simp) (by first | (simp; done) | (simp; omega)) | exact (OutR.emptyH wc _ rfl (Nat.le_refl _)).below (by go_grown)) ((hrL.go (by go_grown)).take q) (by simp; omega) (by simp; omega) (by first | (simp; done) | (simp; omega)) ?_; intro v1 W1 ho1 hb1 hg1; have hB1 : Below wc.heap.size wc W1 := Below.trans (by go_grown) hb1))
                          | ((refine step_app (o := ⟨some 91, _, _, _, _, _⟩) (by rfl) (.tmp 88) (.tmp 90) _ (by rfl) 9 (.string ⟨#[]⟩) 1 16 Tryz.underlying41 infoTx (by rfl) (by decide) encS_lenX oneTx (base := wc.heap.size) (zs := [nm]) (by rfl) (by rfl) rfl (by first | exact ho1 | exact ho1.below ((Below.refl _ _).alloc (Nat.le_refl _) _)) (by first | exact rd_new (x := nm) (vs := [.string nm]) rfl rfl | exact rd_oneTx (hg1.cell (by simp) (by simp [Value.ownBlock, go_sem]))) (by simp; omega) (by simp; omega) (by have := hB1.size; simp; omega) ?_; intro v2 W2 ho2 hb2 hg2; have hB2 : Below wc.heap.size wc W2 := (by first | exact hB1.trans hb2 | exact (hB1.alloc hB1.size _).trans hb2)))
                          | ((refine step_app (o := ⟨some 95, _, _, _, _, _⟩) (by rfl) (.tmp 91) (.tmp 94) _ (by rfl) 9 (.string ⟨#[]⟩) 1 16 Tryz.underlying41 infoTx (by rfl) (by decide) encS_lenX oneTx (base := wc.heap.size) (zs := ([] : List ByteArray)) (B := 0) (by rfl) (by rfl) (by simp; try omega) ho2 Rd.nil (by simp; omega) (by simp; omega) hB2.size ?_; intro v3 W3 ho3 hb3 hg3; have hB3 : Below wc.heap.size wc W3 := hB2.trans hb3)))
                        all_goals
                          have ho4 := ((OutR.castX ho3 (zs := exF xs (k + 1)) (by rw [HI.out]; unfold insE; rw [← HQ.out, HDR.out, List.nil_append])).freshX hws)
                          have hb4 := hbX.trans (hB3.mono hbX.size)
                          clear ho1 ho2 ho3 hb1 hb2 hb3 hB1 hB2 hB3 hg1 hg2 hg3
                          go_wp2_with fail
                          go_roundw
                          case rel => exact ⟨k + 1, by omega, by go_num, ho4, hb4⟩
                          case measure => simp [intOf]; omega
                  · have HI := Lib.hid (HYes.out (hasE_iff.1 HTB2.out.symm))
                    have hO6 := OutR.castX hO5 HI.out.symm
                    clear HYes HNo HTB2 hO5
                    go_wp2_with fail
                    go_roundw
                    case rel => exact ⟨k + 1, by omega, by go_num, hO6, hbX⟩
                    case measure => simp [intOf]; omega
              · obtain ⟨p, hp, hd⟩ := HTT.out.1 rfl
                have HD := Lib.hid hd
                clear HTT hd
                subst hp
                go_wp2_with fail
                go_roundw
                case rel => exact ⟨p, by go_num, by omega, HD, hbc⟩
                case measure => simp [intOf] <;> omega
      · obtain rfl : k = xs.length := by omega
        obtain ⟨A5, c5, rfl, hO5, _⟩ := hO.own encS_lenX
        clear hO
        go_wp2_with fail
        go_returns
        exact ⟨_, _, ret_list (by rw [HV.out]) HG.out.symm, hb, (by rw [HV.out]; exact hO5)⟩
end Go.Proofs.YtpnkeaeikcobfaaGreatDoor
