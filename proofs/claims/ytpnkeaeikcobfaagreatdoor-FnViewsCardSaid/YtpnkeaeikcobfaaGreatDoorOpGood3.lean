/- Contract of areOpinions: the program's loop that asks whether a list are opinions. No condition but the sizes. -/
import Derived.Test.YtpnkeaeikcobfaaGreatDoorOpWd
namespace Go.Proofs.YtpnkeaeikcobfaaGreatDoor
set_option linter.unusedVariables false
set_option linter.unusedSimpArgs false
open Go.RowKit
attribute [local irreducible] wpQuiet
theorem over_no {k : Nat} {v : Int} {a b : Bool} (h : ¬ (-1 ≤ v ∧ v < (k : Int))) : ((a && decide (-1 ≤ v)) && (b && decide (v < (k : Int)))) = false := by
  by_cases h1 : -1 ≤ v
  · rw [decide_eq_false (show ¬ v < (k : Int) by omega)]; simp
  · rw [decide_eq_false h1]; simp
set_option maxRecDepth 100000 in
set_option maxHeartbeats 8000000 in
theorem areOpinions_c (xs : List Opinion) (A : Option Addr) (c : Nat) (w : World) (hr : Rd encOpinion 5 w.heap.size w A xs) (hn : xs.length ≤ 1048576) (hw : ∀ x ∈ xs, x.expert.size ≤ 9223372036854775807) :
    Calls Tryz.prog 26 #[.slice A xs.length c] w (Ret (.bool (goodO xs)) w) := by
  have HW := Lib.hid (fun (i : Nat) (h : i < xs.length) => hw xs[i] (List.getElem_mem h))
  clear hw
  obtain ⟨i0, hi, hz0, hz1, hz2⟩ := info_parts infoB
  have hmk := run_makeFull (P := Tryz.prog) 78 4 i0 _ Tryz.underlying78 hi hz0 xs.length (by rw [hz2]; omega) (by omega)
  rw [hz1] at hmk
  generalize hcs : madeCells (Value.cells (.bool false)) (xs.length * 1) = cs at hmk
  have hO0 := own_made (enc := encB) w xs.length 4 cs false (.bool false) rfl (by rw [← hcs, Nat.mul_one]; exact toList_madeCells_one _ _)
  rw [← wdO_0] at hO0
  clear hcs hi hz0 hz1 hz2
  have hB0 : Below w.heap.size w (w.alloc (.cells cs 4)) := by go_grown
  go_enter Tryz.func26, Tryz.ntmps26
  go_wp2_with fail
  clear hmk
  go_loopw [12] (fun i wr => ∃ k : Nat, k ≤ xs.length ∧ i = .int .i64 k ∧ (List.range k).all (okO xs) = true ∧ Own encB 1 w.heap.size (w.heap.size + 1) wr (some ⟨w.heap.size, 0, none⟩) (wdO xs k) ∧ Below w.heap.size w wr) (fun i _ => xs.length - (intOf i).toNat)
  case atStart => exact ⟨0, Nat.zero_le _, rfl, rfl, hO0, hB0⟩
  case round =>
    obtain ⟨k, hk, rfl, hall, hO, hb⟩ := hrel
    have HA := Lib.hid hall
    clear hall hO0 hB0
    by_cases hlt : k < xs.length
    · obtain ⟨b, off, rfl, hbs, d0, d1, d2, d3, d4⟩ := (hr.below hb).atOpinion hlt
      have HN := Lib.hid (fun h => goodO_no hlt h)
      have HO := Lib.hid (okO_val hlt)
      have HX := Lib.hid (HW.out k hlt)
      go_upto_region 5 with fail
      clear d0 d1 d2 d3 d4
      have hW := New.of wr (encOpinion xs[k]) 35
      unfold encOpinion at hW
      generalize wr.alloc (.cells #[.int .i64 xs[k].item, .string xs[k].expert, .int .i64 xs[k].day, .int .i64 xs[k].says, .int .i64 xs[k].over] 35) = W at *
      obtain ⟨hWb, hWl, hWc⟩ := hW
      have e0 := hWc 0 _ rfl
      have e1 := hWc 1 _ rfl
      have e2 := hWc 2 _ rfl
      have e3 := hWc 3 _ rfl
      have e4 := hWc 4 _ rfl
      clear hWc
      have hbW := hb.trans (hWb.mono hb.size)
      have hsz0 := hO.1
      have hO := hO.below (hWb.mono hO.1)
      obtain ⟨hp, hhp⟩ : ∃ hp, wr.heap.size = hp := ⟨_, rfl⟩
      have hwp : w.heap.size < hp := by have := hO.1; have := hb.size; rw [← hhp]; exact Nat.lt_of_succ_le hsz0
      rw [hhp] at hWl e0 e1 e2 e3 e4 ⊢
      clear hhp hWb hb
      obtain ⟨b', off', hA, hbs', d0, d1, d2, d3, d4⟩ := (hr.below hbW).atOpinion hlt
      injection hA with hA; injection hA with hA1 hA2
      subst hA1 hA2
      clear hbs'
      have hbw : b < W.heap.size := Nat.lt_of_lt_of_le hbs hbW.size
      have hov := over_cell W
      obtain ⟨T5, hT5⟩ : ∃ T5 : Bool, ((xs[k].base && decide (-1 ≤ xs[k].over)) && (prevO xs k xs[k] && decide (xs[k].over < (k : Int)))) = T5 := ⟨_, rfl⟩
      have H5 := Lib.hid hT5
      clear hT5
      have hkm : IntKind.i64.wrap ((k : Int) - 1) = (k : Int) - 1 := IntWalk.i64_in _ (by omega)
      go_cut [61] (fun v wx => v = .bool (!T5) ∧ Below W.heap.size W wx)
      case first =>
        by_cases t1 : inR xs[k].item 1 999 = true
        · by_cases t2 : isW xs[k].expert = true
          · by_cases t3 : inR xs[k].day 0 4000 = true
            · by_cases t4 : inR xs[k].says 1 4 = true
              · have hbase := Lib.hid (show xs[k].base = true by simp only [Opinion.base, t1, t2, t3, t4, Bool.and_self])
                by_cases t5 : -1 ≤ xs[k].over ∧ xs[k].over < (k : Int)
                · have t5' : inR xs[k].over (-1) ((k : Int) - 1) = true := by rw [inR_iff]; omega
                  by_cases hk0 : k = 0
                  · have hkz : decide (0 < (k : Int)) = false := decide_eq_false (by omega)
                    have hkz1 : decide (0 < k) = false := decide_eq_false (by omega)
                    have HP := Lib.hid (show prevO xs k xs[k] = true by subst hk0; exact prevO_0 _ _)
                    clear hk0
                    have HV := Lib.hid (show (!T5) = false by rw [← H5.out]; rw [hbase.out, HP.out, decide_eq_true t5.1, decide_eq_true t5.2]; rfl)
                    clear t5
                    refine wp_region_over (by kernel_rfl) (by kernel_rfl) ?_
                    repeat (go_big_quiet_step (first | (go_at_call 27; exact Calls.over_pure (isItem_c _ _)) | (go_at_call 42; exact Calls.over_pure (isWord_c _ _ (HX.out))) | (go_at_call 28; exact Calls.over_pure (isDay_c _ _)) | (go_at_call 49; exact Calls.over_pure (inRange_c _ _ _ _))))
                    refine wpQuiet_nil ?_
                    intro _ hwx1
                    obtain ⟨x1, hwx1⟩ := hwx1
                    subst hwx1
                    go_wp2_with fail
                    go_meet
                    exact ⟨vb HV.out.symm, over_below W x1⟩
                  · obtain ⟨j, hj⟩ : ∃ j, k = j + 1 := ⟨k - 1, by omega⟩
                    have hj' : j < xs.length := by omega
                    obtain ⟨b', off', hA, hbs', g0, g1, g2, g3, g4⟩ := (hr.below hbW).atOpinion hj'
                    injection hA with hA; injection hA with hA1 hA2
                    subst hA1 hA2
                    clear hbs'
                    have hkz : decide (0 < (k : Int)) = true := decide_eq_true (by omega)
                    have hkz1 : decide (0 < k) = true := decide_eq_true (by omega)
                    have hkz2 : 0 < k := by omega
                    clear hkm
                    have hsub : IntKind.i64.wrap ((k : Int) - 1) = (j : Int) := by
                      rw [IntWalk.i64_in _ (by omega)]; omega
                    have hsub2 : (k : Int) - 1 = (j : Int) := by omega
                    have t5'' : inR xs[k].over (-1) (j : Int) = true := by rw [inR_iff]; omega
                    have hj0 : (0 : Int) ≤ j := by omega
                    have hj1 : (j : Int) ≤ xs.length := by omega
                    have hj2 : (j : Int) < xs.length := by omega
                    have HP := Lib.hid (show prevO xs k xs[k] = decide (xs[j].day ≤ xs[k].day) by subst hj; exact prevO_s hj' _)
                    clear hk0 hj
                    by_cases hd : xs[k].day < xs[j].day
                    · have hd' : decide (xs[k].day < xs[j].day) = true := decide_eq_true hd
                      have HP := Lib.hid (show prevO xs k xs[k] = false by rw [HP.out]; exact decide_eq_false (by omega))
                      have HV := Lib.hid (show (!T5) = true by rw [← H5.out]; rw [hbase.out, HP.out]; simp only [Bool.false_and, Bool.and_false, Bool.not_false])
                      clear hd t5
                      refine wp_region_over (by kernel_rfl) (by kernel_rfl) ?_
                      repeat (go_big_quiet_step (first | (go_at_call 27; exact Calls.over_pure (isItem_c _ _)) | (go_at_call 42; exact Calls.over_pure (isWord_c _ _ (HX.out))) | (go_at_call 28; exact Calls.over_pure (isDay_c _ _)) | (go_at_call 49; exact Calls.over_pure (inRange_c _ _ _ _))))
                      refine wpQuiet_nil ?_
                      intro _ hwx1
                      obtain ⟨x1, hwx1⟩ := hwx1
                      subst hwx1
                      go_wp2_with fail
                      go_meet
                      exact ⟨vb HV.out.symm, over_below W x1⟩
                    · have hd' : decide (xs[k].day < xs[j].day) = false := decide_eq_false hd
                      have HP := Lib.hid (show prevO xs k xs[k] = true by rw [HP.out]; exact decide_eq_true (by omega))
                      have HV := Lib.hid (show (!T5) = false by rw [← H5.out]; rw [hbase.out, HP.out, decide_eq_true t5.1, decide_eq_true t5.2]; rfl)
                      clear hd t5
                      refine wp_region_over (by kernel_rfl) (by kernel_rfl) ?_
                      repeat (go_big_quiet_step (first | (go_at_call 27; exact Calls.over_pure (isItem_c _ _)) | (go_at_call 42; exact Calls.over_pure (isWord_c _ _ (HX.out))) | (go_at_call 28; exact Calls.over_pure (isDay_c _ _)) | (go_at_call 49; exact Calls.over_pure (inRange_c _ _ _ _))))
                      refine wpQuiet_nil ?_
                      intro _ hwx1
                      obtain ⟨x1, hwx1⟩ := hwx1
                      subst hwx1
                      go_wp2_with fail
                      go_meet
                      exact ⟨vb HV.out.symm, over_below W x1⟩
                · have t5' : inR xs[k].over (-1) ((k : Int) - 1) = false := by
                    cases h : inR xs[k].over (-1) ((k : Int) - 1) with
                    | false => rfl
                    | true => rw [inR_iff] at h; exact absurd h (by omega)
                  have HV := Lib.hid (show (!T5) = true by rw [← H5.out]; rw [over_no t5]; rfl)
                  clear t5
                  refine wp_region_over (by kernel_rfl) (by kernel_rfl) ?_
                  repeat (go_big_quiet_step (first | (go_at_call 27; exact Calls.over_pure (isItem_c _ _)) | (go_at_call 42; exact Calls.over_pure (isWord_c _ _ (HX.out))) | (go_at_call 28; exact Calls.over_pure (isDay_c _ _)) | (go_at_call 49; exact Calls.over_pure (inRange_c _ _ _ _))))
                  refine wpQuiet_nil ?_
                  intro _ hwx1
                  obtain ⟨x1, hwx1⟩ := hwx1
                  subst hwx1
                  go_wp2_with fail
                  go_meet
                  exact ⟨vb HV.out.symm, over_below W x1⟩
              · have t4' : inR xs[k].says 1 4 = false := by simpa only [Bool.not_eq_true] using t4
                have hbase := Lib.hid (show xs[k].base = false by simp only [Opinion.base, t4', Bool.and_false, Bool.false_and])
                clear t4
                have HV := Lib.hid (show (!T5) = true by rw [← H5.out]; rw [hbase.out]; rfl)
                refine wp_region_over (by kernel_rfl) (by kernel_rfl) ?_
                repeat (go_big_quiet_step (first | (go_at_call 27; exact Calls.over_pure (isItem_c _ _)) | (go_at_call 42; exact Calls.over_pure (isWord_c _ _ (HX.out))) | (go_at_call 28; exact Calls.over_pure (isDay_c _ _)) | (go_at_call 49; exact Calls.over_pure (inRange_c _ _ _ _))))
                refine wpQuiet_nil ?_
                intro _ hwx1
                obtain ⟨x1, hwx1⟩ := hwx1
                subst hwx1
                go_wp2_with fail
                go_meet
                exact ⟨vb HV.out.symm, over_below W x1⟩
            · have t3' : inR xs[k].day 0 4000 = false := by simpa only [Bool.not_eq_true] using t3
              have hbase := Lib.hid (show xs[k].base = false by simp only [Opinion.base, t3', Bool.and_false, Bool.false_and])
              clear t3
              have HV := Lib.hid (show (!T5) = true by rw [← H5.out]; rw [hbase.out]; rfl)
              refine wp_region_over (by kernel_rfl) (by kernel_rfl) ?_
              repeat (go_big_quiet_step (first | (go_at_call 27; exact Calls.over_pure (isItem_c _ _)) | (go_at_call 42; exact Calls.over_pure (isWord_c _ _ (HX.out))) | (go_at_call 28; exact Calls.over_pure (isDay_c _ _)) | (go_at_call 49; exact Calls.over_pure (inRange_c _ _ _ _))))
              refine wpQuiet_nil ?_
              intro _ hwx1
              obtain ⟨x1, hwx1⟩ := hwx1
              subst hwx1
              go_wp2_with fail
              go_meet
              exact ⟨vb HV.out.symm, over_below W x1⟩
          · have t2' : isW xs[k].expert = false := by simpa only [Bool.not_eq_true] using t2
            have hbase := Lib.hid (show xs[k].base = false by simp only [Opinion.base, t2', Bool.and_false, Bool.false_and])
            clear t2
            have HV := Lib.hid (show (!T5) = true by rw [← H5.out]; rw [hbase.out]; rfl)
            refine wp_region_over (by kernel_rfl) (by kernel_rfl) ?_
            repeat (go_big_quiet_step (first | (go_at_call 27; exact Calls.over_pure (isItem_c _ _)) | (go_at_call 42; exact Calls.over_pure (isWord_c _ _ (HX.out))) | (go_at_call 28; exact Calls.over_pure (isDay_c _ _)) | (go_at_call 49; exact Calls.over_pure (inRange_c _ _ _ _))))
            refine wpQuiet_nil ?_
            intro _ hwx1
            obtain ⟨x1, hwx1⟩ := hwx1
            subst hwx1
            go_wp2_with fail
            go_meet
            exact ⟨vb HV.out.symm, over_below W x1⟩
        · have t1' : inR xs[k].item 1 999 = false := by simpa only [Bool.not_eq_true] using t1
          have hbase := Lib.hid (show xs[k].base = false by simp only [Opinion.base, t1', Bool.and_false, Bool.false_and])
          clear t1
          have HV := Lib.hid (show (!T5) = true by rw [← H5.out]; rw [hbase.out]; rfl)
          refine wp_region_over (by kernel_rfl) (by kernel_rfl) ?_
          repeat (go_big_quiet_step (first | (go_at_call 27; exact Calls.over_pure (isItem_c _ _)) | (go_at_call 42; exact Calls.over_pure (isWord_c _ _ (HX.out))) | (go_at_call 28; exact Calls.over_pure (isDay_c _ _)) | (go_at_call 49; exact Calls.over_pure (inRange_c _ _ _ _))))
          refine wpQuiet_nil ?_
          intro _ hwx1
          obtain ⟨x1, hwx1⟩ := hwx1
          subst hwx1
          go_wp2_with fail
          go_meet
          exact ⟨vb HV.out.symm, over_below W x1⟩
      case rest =>
        obtain ⟨rfl, hb1⟩ := hcut
        obtain ⟨W1, rfl⟩ : ∃ W1 : World, W1 = wc := ⟨_, rfl⟩
        clear hov hbw d0 d1 d2 d3 d4
        have e0 := (hb1.cell (p := ⟨hp, 0, none⟩) hWl).trans e0
        have e1 := (hb1.cell (p := ⟨hp, 1, none⟩) hWl).trans e1
        have e2 := (hb1.cell (p := ⟨hp, 2, none⟩) hWl).trans e2
        have e3 := (hb1.cell (p := ⟨hp, 3, none⟩) hWl).trans e3
        have e4 := (hb1.cell (p := ⟨hp, 4, none⟩) hWl).trans e4
        have hWl := Nat.lt_of_lt_of_le hWl hb1.size
        have hbW := below_via hbW hb1
        obtain ⟨b', off', hA, hbs', d0, d1, d2, d3, d4⟩ := (hr.below hbW).atOpinion hlt
        injection hA with hA; injection hA with hA1 hA2
        subst hA1 hA2
        clear hbs'
        have hbw : b < W1.heap.size := Nat.lt_of_lt_of_le hbs hbW.size
        have hov := over_cell W1
        have hO := hO.below (hb1.mono hO.1)
        have HO2 := Lib.hid hO
        clear hO
        cases T5 with
        | false =>
          have HK := Lib.hid (show okO xs k = false by rw [HO.out]; exact and4_false H5.out)
          go_wp2_with fail
          go_returns
          exact ⟨ret_bool (HN.out HK.out).symm, hbW⟩
        | true =>
          have hb5 := H5.out
          simp only [Bool.and_eq_true, decide_eq_true_eq] at hb5
          obtain ⟨⟨hbase, hm1⟩, hprev, hok⟩ := hb5
          have HB := Lib.hid (show okO xs k = (decide (xs[k].over < 0) || (tgtO xs xs[k] && !usedO xs k xs[k].over)) by rw [HO.out, hbase, hprev, decide_eq_true hm1, decide_eq_true hok]; rfl)
          clear hbase hprev
          by_cases hng : xs[k].over < 0
          · have HK := Lib.hid (show okO xs k = true by rw [HB.out, decide_eq_true hng]; rfl)
            have HD := Lib.hid (wdO_neg hlt hng)
            go_wp2_with fail
            go_roundw
            case rel => exact ⟨k + 1, by omega, by go_num, range_next HA.out HK.out, by rw [HD.out]; exact HO2.out, hbW⟩
            case measure => simp [intOf]; omega
          · obtain ⟨t, hot⟩ : ∃ t : Nat, xs[k].over = (t : Int) := ⟨xs[k].over.toNat, by omega⟩
            have htl : t < xs.length := by omega
            have h0' : (0 : Int) ≤ (t : Int) := by omega
            have ht1 : (t : Int) < (xs.length : Int) := by omega
            have HB := Lib.hid (show okO xs k = (tgtO xs xs[k] && !usedO xs k (t : Int)) by rw [HB.out, decide_eq_false hng, hot]; rfl)
            have HG := Lib.hid (tgtO_val htl hot)
            have HD := Lib.hid (wdO_pos hlt htl hot)
            rw [hot] at e4 d4
            clear hot hng hok hm1
            obtain ⟨b', off', hA, hbs', g0, g1, g2, g3, g4⟩ := (hr.below hbW).atOpinion htl
            injection hA with hA; injection hA with hA1 hA2
            subst hA1 hA2
            clear hbs'
            go_upto_region 9 with fail
            clear d0 d1 d2 d3 d4 g0 g1 g2 g3 g4
            have hV := New.of W1 (encOpinion xs[t]) 35
            unfold encOpinion at hV
            generalize W1.alloc (.cells #[.int .i64 xs[t].item, .string xs[t].expert, .int .i64 xs[t].day, .int .i64 xs[t].says, .int .i64 xs[t].over] 35) = V at *
            obtain ⟨hVb, hVl, hVc⟩ := hV
            have f0 := hVc 0 _ rfl
            have f1 := hVc 1 _ rfl
            have f2 := hVc 2 _ rfl
            have f3 := hVc 3 _ rfl
            have f4 := hVc 4 _ rfl
            clear hVc hov hbw
            have e0 := (hVb.cell (p := ⟨hp, 0, none⟩) hWl).trans e0
            have e1 := (hVb.cell (p := ⟨hp, 1, none⟩) hWl).trans e1
            have e2 := (hVb.cell (p := ⟨hp, 2, none⟩) hWl).trans e2
            have e3 := (hVb.cell (p := ⟨hp, 3, none⟩) hWl).trans e3
            have e4 := (hVb.cell (p := ⟨hp, 4, none⟩) hWl).trans e4
            have hWl := Nat.lt_of_lt_of_le hWl hVb.size
            have hbW := below_via hbW hVb
            have hO := HO2.out.below (hVb.mono HO2.out.1)
            have hut := own_at hO (i := t) (by rw [wdO_len]; exact htl) (u := .bool (usedO xs k (t : Int))) (by rw [wdO_get]; rfl)
            obtain ⟨hfz, _, _⟩ := own_free hO (by rw [wdO_len]; omega)
            have HO3 := Lib.hid hO
            clear hO
            have hbw0 : w.heap.size < V.heap.size := Nat.lt_of_lt_of_le (Nat.lt_of_lt_of_le (Nat.lt_succ_self _) HO2.out.1) hVb.size
            have hbw : b < V.heap.size := Nat.lt_of_lt_of_le hbs hbW.size
            have hov := over_cell V
            by_cases hx : xs[t].expert = xs[k].expert
            · have hx' : (xs[t].expert.toList == xs[k].expert.toList) = true := by rw [toList_beq]; simpa using hx
              by_cases hi : xs[t].item = xs[k].item
              · have hi' : (xs[t].item != xs[k].item) = false := by simpa using hi
                cases hu : usedO xs k (t : Int) with
                | true =>
                  rw [hu] at hut
                  have HK := Lib.hid (show okO xs k = false by rw [HB.out, HG.out]; rw [hu]; simp only [Bool.not_true, Bool.and_false])
                  clear hx hi hu
                  go_wp2_with fail
                  go_returns
                  exact ⟨ret_bool (HN.out HK.out).symm, hbW⟩
                | false =>
                  rw [hu] at hut
                  have HK := Lib.hid (show okO xs k = true by rw [HB.out, HG.out, decide_eq_true hi, decide_eq_true hx, hu]; rfl)
                  clear hx hi hu
                  have hfz1 := hfz t
                  have hO4 := own_set HO3.out (i := t) (by rw [wdO_len]; exact htl) (fun _ => rfl) true (u := .bool true) rfl
                  rw [← HD.out] at hO4
                  have hbX := hbW.setCell (p := ⟨w.heap.size, t, none⟩) (Nat.le_refl _) (.bool true)
                  go_wp2_with fail
                  go_roundw
                  case rel => exact ⟨k + 1, by omega, by go_num, range_next HA.out HK.out, hO4, hbX⟩
                  case measure => simp [intOf]; omega
              · have hi' : (xs[t].item != xs[k].item) = true := by simpa using hi
                have HK := Lib.hid (show okO xs k = false by rw [HB.out, HG.out]; rw [decide_eq_false hi]; simp only [Bool.false_and])
                clear hx hi
                go_wp2_with fail
                go_returns
                exact ⟨ret_bool (HN.out HK.out).symm, hbW⟩
            · have hx' : (xs[t].expert.toList == xs[k].expert.toList) = false := by rw [toList_beq]; simpa using hx
              have HK := Lib.hid (show okO xs k = false by rw [HB.out, HG.out]; rw [decide_eq_false hx]; simp only [Bool.false_and, Bool.and_false])
              clear hx
              go_wp2_with fail
              go_returns
              exact ⟨ret_bool (HN.out HK.out).symm, hbW⟩
    · have hke : xs.length ≤ k := by omega
      have HV := Lib.hid (goodO_all (xs := xs) (by have := HA.out; have e : k = xs.length := by omega
                                                   rwa [e] at this))
      go_wp2_with fail
      go_returns
      exact ⟨ret_bool HV.out, hb⟩
end Go.Proofs.YtpnkeaeikcobfaaGreatDoor
