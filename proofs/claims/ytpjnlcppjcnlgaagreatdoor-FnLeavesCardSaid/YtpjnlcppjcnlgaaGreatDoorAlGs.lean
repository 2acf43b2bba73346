/- Contract of l18Good: the reference's loop that asks whether a list of pages is an album. No condition but the sizes. -/
import Derived.Test.YtpjnlcppjcnlgaaGreatDoorAlIs
import Derived.Test.YtpjnlcppjcnlgaaGreatDoorAlRis
namespace Go.Proofs.YtpjnlcppjcnlgaaGreatDoor
set_option linter.unusedVariables false
set_option linter.unusedSimpArgs false
open Go.RowKit
attribute [local irreducible] wpQuiet
theorem base_no : ∀ b1 b2 b3 b4 b6 o u f s : Bool, ((b1 && b2) && (b3 && ((b4 && b6) && o))) = false → (((b1 && b2 && b3 && b4 && b6) && o && u && f) && s) = false := by decide
set_option maxRecDepth 100000 in
set_option maxHeartbeats 4000000 in
theorem l18Good_c (xs : List Page) (A : Option Addr) (c : Nat) (w : World) (hr : RdP w.heap.size w A xs) (hcap : xs.length ≤ c) (hn : xs.length ≤ 1048576) (hs : sumI xs ≤ 1048576) (hw : ∀ x ∈ xs, x.title.size ≤ 9223372036854775807 ∧ x.items.length ≤ 9223372036854775807 ∧ ∀ z ∈ x.items, Fits z) :
    Calls Tryz.prog 35 #[.slice A xs.length c] w (Ret (.bool (goodA xs)) w) := by
  have HW := Lib.hid (fun (i : Nat) (h : i < xs.length) => hw xs[i] (List.getElem_mem h))
  have HI := Lib.hid (fun (k : Nat) (h : k < xs.length) => Nat.le_trans (sumI_mem (List.getElem_mem h)) hs)
  clear hw
  go_enter Tryz.func35, Tryz.ntmps35
  go_wp2_with fail
  go_loopw [3] (fun i wr => ∃ k : Nat, k ≤ xs.length ∧ i = .int .i64 k ∧ (List.range k).all (okS xs) = true ∧ Below w.heap.size w wr) (fun i _ => xs.length - (intOf i).toNat)
  case atStart => exact ⟨0, Nat.zero_le _, rfl, rfl, Below.refl _ _⟩
  case round =>
    obtain ⟨k, hk, rfl, hall, hb⟩ := hrel
    have HA := Lib.hid hall
    clear hall
    by_cases hlt : k < xs.length
    · by_cases h12 : (k : Int) ≤ 12
      · obtain ⟨b, off, Ai, ci, rfl, hbs, d0, d1, d2, d3, hci, hri⟩ := (hr.below hb).page hlt
        have hil := HI.out k hlt
        have HN := Lib.hid (fun h => okS_no hlt HA.out h)
        have HO := Lib.hid (okS_val hlt)
        have HX := Lib.hid (HW.out k hlt)
        go_upto_region 5 with fail
        clear d0 d1 d2 d3
        have hW := New.of wr [.int .i64 xs[k].id, .string xs[k].title, .int .i64 xs[k].under, .slice Ai xs[k].items.length ci] 56
        generalize wr.alloc (.cells #[.int .i64 xs[k].id, .string xs[k].title, .int .i64 xs[k].under, .slice Ai xs[k].items.length ci] 56) = W at *
        obtain ⟨hWb, hWl, hWc⟩ := hW
        have e0 := hWc 0 _ rfl
        have e1 := hWc 1 _ rfl
        have e2 := hWc 2 _ rfl
        have e3 := hWc 3 _ rfl
        clear hWc
        have hbW := hb.trans (hWb.mono hb.size)
        have hri := hri.below (hWb.mono hb.size)
        obtain ⟨hp, hhp⟩ : ∃ hp, wr.heap.size = hp := ⟨_, rfl⟩
        have hwp : w.heap.size ≤ hp := by have := hb.size; omega
        rw [hhp] at hWl e0 e1 e2 e3 ⊢
        clear hhp hWb hb
        have hbw : b < W.heap.size := Nat.lt_of_lt_of_le hbs hbW.size
        have hov := over_cell W
        obtain ⟨T5, hT5⟩ : ∃ T5 : Bool, ((inR xs[k].id 1 99 && isW xs[k].title) && (decide (xs[k].items.length ≤ 8) && (risL xs[k].items 1 999 && ordA xs k xs[k]))) = T5 := ⟨_, rfl⟩
        have H5 := Lib.hid hT5
        clear hT5
        go_cut [57] (fun v wx => v = .bool (!T5) ∧ Below W.heap.size W wx)
        case first =>
          have H1 : Hid (∀ x : World, Calls Tryz.prog 47 #[.int .i64 xs[k].id, .int .i64 1, .int .i64 99] (over W x) (Pure (.bool (inR xs[k].id 1 99)) (over W x))) := Lib.hid (fun x => l1In_c _ _ _ _)
          have H2 : Hid (∀ x : World, Calls Tryz.prog 58 #[.string xs[k].title] (over W x) (Pure (.bool (isW xs[k].title)) (over W x))) := Lib.hid (fun x => l2Word_c _ _ HX.out.1)
          have H4 : Hid (∀ x : World, Calls Tryz.prog 59 #[.slice Ai xs[k].items.length ci, .int .i64 1, .int .i64 999] (over W x) (Ret (.bool (risL xs[k].items 1 999)) (over W x))) := Lib.hid (fun x => l1Rising_c _ _ _ _ _ _ ((hri.more hbW.size).go (over_below W x)) (by omega))
          clear hri
          cases h1 : inR xs[k].id 1 99 with
          | false =>
            rw [h1] at H1
            have HV := Lib.hid (show (!T5) = true by rw [← H5.out]; rw [h1]; rfl)
            refine wp_region_over (by kernel_rfl) (by kernel_rfl) ?_
            repeat (go_big_quiet_step (((first | (go_at_call 47; exact Calls.over_pure (H1.out _)) | (go_at_call 58; exact Calls.over_pure (H2.out _)) | (go_at_call 59; exact Calls.over_of (H4.out _))))))
            refine wpQuiet_nil ?_
            intro _ hwx1
            obtain ⟨x1, hwx1⟩ := hwx1
            subst hwx1
            go_wp2_with fail
            go_meet
            exact ⟨vb HV.out.symm, over_below W x1⟩
          | true =>
            rw [h1] at H1
            cases h2 : isW xs[k].title with
            | false =>
              rw [h2] at H2
              have HV := Lib.hid (show (!T5) = true by rw [← H5.out]; rw [h1, h2]; rfl)
              refine wp_region_over (by kernel_rfl) (by kernel_rfl) ?_
              repeat (go_big_quiet_step (((first | (go_at_call 47; exact Calls.over_pure (H1.out _)) | (go_at_call 58; exact Calls.over_pure (H2.out _)) | (go_at_call 59; exact Calls.over_of (H4.out _))))))
              refine wpQuiet_nil ?_
              intro _ hwx1
              obtain ⟨x1, hwx1⟩ := hwx1
              subst hwx1
              go_wp2_with fail
              go_meet
              exact ⟨vb HV.out.symm, over_below W x1⟩
            | true =>
              rw [h2] at H2
              by_cases h3 : xs[k].items.length ≤ 8
              · have h3a : decide ((8 : Int) < (xs[k].items.length : Int)) = false := decide_eq_false (by omega)
                have h3b : decide (8 < xs[k].items.length) = false := decide_eq_false (by omega)
                have h3c : decide (xs[k].items.length ≤ 8) = true := decide_eq_true h3
                clear h3
                cases h4 : risL xs[k].items 1 999 with
                | false =>
                  rw [h4] at H4
                  have HV := Lib.hid (show (!T5) = true by rw [← H5.out]; rw [h1, h2, h4, Bool.false_and, Bool.and_false, Bool.and_false]; rfl)
                  refine wp_region_over (by kernel_rfl) (by kernel_rfl) ?_
                  repeat (go_big_quiet_step (((first | (go_at_call 47; exact Calls.over_pure (H1.out _)) | (go_at_call 58; exact Calls.over_pure (H2.out _)) | (go_at_call 59; exact Calls.over_of (H4.out _))))))
                  refine wpQuiet_nil ?_
                  intro _ hwx1
                  obtain ⟨x1, hwx1⟩ := hwx1
                  subst hwx1
                  go_wp2_with fail
                  go_meet
                  exact ⟨vb HV.out.symm, over_below W x1⟩
                | true =>
                  rw [h4] at H4
                  by_cases hk0 : k = 0
                  · have hkz : decide (0 < (k : Int)) = false := decide_eq_false (by omega)
                    have hkz1 : decide (0 < k) = false := decide_eq_false (by omega)
                    have HP := Lib.hid (show ordA xs k xs[k] = true by subst hk0; exact ordA_0 _ _)
                    have H3 := Lib.hid h3c
                    clear hk0 h3c
                    have HV := Lib.hid (show (!T5) = false by rw [← H5.out]; rw [h1, h2, h4, HP.out, H3.out]; rfl)
                    refine wp_region_over (by kernel_rfl) (by kernel_rfl) ?_
                    repeat (go_big_quiet_step (((first | (go_at_call 47; exact Calls.over_pure (H1.out _)) | (go_at_call 58; exact Calls.over_pure (H2.out _)) | (go_at_call 59; exact Calls.over_of (H4.out _))))))
                    refine wpQuiet_nil ?_
                    intro _ hwx1
                    obtain ⟨x1, hwx1⟩ := hwx1
                    subst hwx1
                    go_wp2_with fail
                    go_meet
                    exact ⟨vb HV.out.symm, over_below W x1⟩
                  · obtain ⟨j, hj⟩ : ∃ j, k = j + 1 := ⟨k - 1, by omega⟩
                    have hj' : j < xs.length := by omega
                    obtain ⟨b', off', Aj, cj, hA, hbs', g0, g1, g2, g3, _⟩ := (hr.below hbW).page hj'
                    obtain ⟨rfl, rfl⟩ := addr_eq hA
                    clear hbs' hA
                    have hkz : decide (0 < (k : Int)) = true := decide_eq_true (by omega)
                    have hkz1 : decide (0 < k) = true := decide_eq_true (by omega)
                    have hkz2 : 0 < k := by omega
                    have hsub : IntKind.i64.wrap ((k : Int) - 1) = (j : Int) := by
                      rw [IntWalk.i64_in _ (by omega)]; omega
                    have hj0 : (0 : Int) ≤ j := by omega
                    have hj1 : (j : Int) ≤ xs.length := by omega
                    have hj2 : (j : Int) < xs.length := by omega
                    have HP := Lib.hid (show ordA xs k xs[k] = decide (xs[j].id < xs[k].id) by subst hj; exact ordA_s hj' _)
                    have H3 := Lib.hid h3c
                    clear hk0 hj h3c
                    by_cases hd : xs[j].id < xs[k].id
                    · have hd' : decide (xs[k].id ≤ xs[j].id) = false := decide_eq_false (by omega)
                      have HD := Lib.hid (decide_eq_true hd)
                      clear hd
                      have HV := Lib.hid (show (!T5) = false by rw [← H5.out]; rw [h1, h2, h4, HP.out, HD.out, H3.out]; rfl)
                      refine wp_region_over (by kernel_rfl) (by kernel_rfl) ?_
                      repeat (go_big_quiet_step (((first | (go_at_call 47; exact Calls.over_pure (H1.out _)) | (go_at_call 58; exact Calls.over_pure (H2.out _)) | (go_at_call 59; exact Calls.over_of (H4.out _))))))
                      refine wpQuiet_nil ?_
                      intro _ hwx1
                      obtain ⟨x1, hwx1⟩ := hwx1
                      subst hwx1
                      go_wp2_with fail
                      go_meet
                      exact ⟨vb HV.out.symm, over_below W x1⟩
                    · have hd' : decide (xs[k].id ≤ xs[j].id) = true := decide_eq_true (by omega)
                      have HD := Lib.hid (decide_eq_false hd)
                      clear hd
                      have HV := Lib.hid (show (!T5) = true by rw [← H5.out]; rw [h1, h2, h4, HP.out, HD.out, H3.out]; rfl)
                      refine wp_region_over (by kernel_rfl) (by kernel_rfl) ?_
                      repeat (go_big_quiet_step (((first | (go_at_call 47; exact Calls.over_pure (H1.out _)) | (go_at_call 58; exact Calls.over_pure (H2.out _)) | (go_at_call 59; exact Calls.over_of (H4.out _))))))
                      refine wpQuiet_nil ?_
                      intro _ hwx1
                      obtain ⟨x1, hwx1⟩ := hwx1
                      subst hwx1
                      go_wp2_with fail
                      go_meet
                      exact ⟨vb HV.out.symm, over_below W x1⟩
              · have h3a : decide ((8 : Int) < (xs[k].items.length : Int)) = true := decide_eq_true (by omega)
                have h3b : decide (8 < xs[k].items.length) = true := decide_eq_true (by omega)
                have H3 := Lib.hid (decide_eq_false h3)
                clear h3
                have HV := Lib.hid (show (!T5) = true by rw [← H5.out]; rw [h1, h2, H3.out]; rfl)
                refine wp_region_over (by kernel_rfl) (by kernel_rfl) ?_
                repeat (go_big_quiet_step (((first | (go_at_call 47; exact Calls.over_pure (H1.out _)) | (go_at_call 58; exact Calls.over_pure (H2.out _)) | (go_at_call 59; exact Calls.over_of (H4.out _))))))
                refine wpQuiet_nil ?_
                intro _ hwx1
                obtain ⟨x1, hwx1⟩ := hwx1
                subst hwx1
                go_wp2_with fail
                go_meet
                exact ⟨vb HV.out.symm, over_below W x1⟩
        case rest =>
          obtain ⟨rfl, hbX⟩ := hcut
          have hbW2 := hbW.trans (hbX.mono hbW.size)
          have e0 := (hbX.cell (p := ⟨hp, 0, none⟩) hWl).trans e0
          have e1 := (hbX.cell (p := ⟨hp, 1, none⟩) hWl).trans e1
          have e2 := (hbX.cell (p := ⟨hp, 2, none⟩) hWl).trans e2
          have e3 := (hbX.cell (p := ⟨hp, 3, none⟩) hWl).trans e3
          have hWl := Nat.lt_of_lt_of_le hWl hbX.size
          have hri := hri.below (hbX.mono hbW.size)
          clear hov hbw hbX hbW
          cases T5 with
          | false =>
            have HV := Lib.hid (show goodA xs = false by
              refine HN.out ?_
              rw [HO.out]
              have h5 := H5.out
              unfold risL at h5
              unfold Page.base
              exact base_no _ _ _ _ _ _ _ _ _ h5)
            go_wp2_with fail
            go_returns
            exact ⟨ret_bool HV.out.symm, hbW2⟩
          | true =>
            obtain ⟨⟨G1, G2⟩, G3, ⟨G4, G6⟩, G5⟩ : (inR xs[k].id 1 99 = true ∧ isW xs[k].title = true) ∧ decide (xs[k].items.length ≤ 8) = true ∧ (ascL xs[k].items = true ∧ (xs[k].items.all fun z => inR z 1 999) = true) ∧ ordA xs k xs[k] = true := by
              have h5 := H5.out
              unfold risL at h5
              simpa only [Bool.and_eq_true] using h5
            have HG := Lib.hid (show xs[k].base = true by unfold Page.base; rw [G1, G2, G3, G4, G6]; rfl)
            have HGO := Lib.hid G5
            clear G1 G2 G3 G4 G5 G6 H5
            have hlk : (xs.take k).length = k := by simp; omega
            have hk0' : (0 : Int) ≤ (k : Int) := by omega
            have hk1' : (k : Int) ≤ (xs.length : Int) := by omega
            have hk2' : (k : Int) < (xs.length : Int) := by omega
            have hk3' : (k : Int) ≤ (c : Int) := by omega
            have hk4' : k ≤ c := by omega
            go_upto_region 7 with fail
            go_cut [74] (fun v wx => v = .bool (!undS xs xs[k]) ∧ Below wc.heap.size wc wx)
            case first =>
              by_cases hu : xs[k].under = 0
              · have hu' : (xs[k].under != 0) = false := by simp [hu]
                have HV := Lib.hid (show (!undS xs xs[k]) = false by unfold undS; rw [decide_eq_true hu]; rfl)
                clear hu
                go_wp2_with fail
                go_meet
                exact ⟨vb HV.out.symm, Below.refl _ _⟩
              · have hu' : (xs[k].under != 0) = true := by simp [hu]
                by_cases hge : xs[k].id ≤ xs[k].under
                · have hg' : decide (xs[k].id ≤ xs[k].under) = true := decide_eq_true hge
                  have HV := Lib.hid (show (!undS xs xs[k]) = true by unfold undS; rw [decide_eq_false hu, decide_eq_false (show ¬ xs[k].under < xs[k].id by omega)]; rfl)
                  clear hu hge
                  go_wp2_with fail
                  go_meet
                  exact ⟨vb HV.out.symm, Below.refl _ _⟩
                · have hg' : decide (xs[k].id ≤ xs[k].under) = false := decide_eq_false hge
                  have HV := Lib.hid (show decide (idxI (idP xs[k].under) xs < 0) = !undS xs xs[k] by unfold undS; rw [idx_neg, decide_eq_false hu, decide_eq_true (show xs[k].under < xs[k].id by omega)]; simp)
                  clear hu hge
                  go_wp2_with fail
                  refine (l18Find_c xs _ _ _ _ ((hr.below hbW2).more hbW2.size) hn).mono ?_
                  rintro _ wf ⟨rfl, hbf⟩
                  generalize idxI (idP xs[k].under) xs = q at *
                  go_wp2_with fail
                  go_meet
                  exact ⟨vb HV.out, hbf⟩
            case rest =>
              obtain ⟨rfl, hbX⟩ := hcut
              have hbW3 := hbW2.trans (hbX.mono hbW2.size)
              have e0 := (hbX.cell (p := ⟨hp, 0, none⟩) hWl).trans e0
              have e1 := (hbX.cell (p := ⟨hp, 1, none⟩) hWl).trans e1
              have e2 := (hbX.cell (p := ⟨hp, 2, none⟩) hWl).trans e2
              have e3 := (hbX.cell (p := ⟨hp, 3, none⟩) hWl).trans e3
              have hWl := Nat.lt_of_lt_of_le hWl hbX.size
              have hri := hri.below (hbX.mono hbW2.size)
              clear hbX hbW2
              cases hU : undS xs xs[k] with
              | false =>
                have HV := Lib.hid (HN.out (by rw [HO.out, hU]; simp))
                go_wp2_with fail
                go_returns
                exact ⟨ret_bool HV.out.symm, hbW3⟩
              | true =>
                have HU := Lib.hid hU
                clear hU
                rw [Bool.not_true]
                go_wp2_with fail
                go_loopw [5] (fun i wr2 => ∃ m : Nat, m ≤ xs[k].items.length ∧ i = .int .i64 m ∧ ((xs[k].items.take m).all fun z => !(xs.take k).any (hasP z)) = true ∧ Below wc.heap.size wc wr2) (fun i _ => xs[k].items.length - (intOf i).toNat)
                case atStart => exact ⟨0, Nat.zero_le _, rfl, by simp, Below.refl _ _⟩
                case round =>
                  obtain ⟨m, hm, rfl, hfr, hb2⟩ := hrel
                  have HF := Lib.hid hfr
                  clear hfr
                  have e0 := (hb2.cell (p := ⟨hp, 0, none⟩) hWl).trans e0
                  have e1 := (hb2.cell (p := ⟨hp, 1, none⟩) hWl).trans e1
                  have e2 := (hb2.cell (p := ⟨hp, 2, none⟩) hWl).trans e2
                  have e3 := (hb2.cell (p := ⟨hp, 3, none⟩) hWl).trans e3
                  have hWl2 := Nat.lt_of_lt_of_le hWl hb2.size
                  have hb3 := hbW3.trans (hb2.mono hbW3.size)
                  have hri2 := hri.below (hb2.mono hbW3.size)
                  by_cases hml : m < xs[k].items.length
                  · obtain ⟨bi, oi, hAi, hbi, z0⟩ := hri2.int hml
                    subst hAi
                    have hbiw : bi < wr.heap.size := Nat.lt_of_lt_of_le hbi hb3.size
                    have hov := over_cell wr
                    have hm0 : (0 : Int) ≤ (m : Int) := by omega
                    have hm1 : (m : Int) < (xs[k].items.length : Int) := by omega
                    have H7 : Hid (∀ x : World, Calls Tryz.prog 48 #[.slice (some ⟨b, off, none⟩) k c, .int .i64 xs[k].items[m]] (over wr x) (Ret (.int .i64 (idxI (hasP xs[k].items[m]) (xs.take k))) (over wr x))) := Lib.hid (fun x => by
                      have h := l18With_c (xs.take k) (some ⟨b, off, none⟩) c xs[k].items[m] (over wr x) ((((hr.below hb3).more hb3.size).go (over_below wr x)).take k) (by rw [hlk]; omega) (Nat.le_trans (sumI_take_le xs k) (by omega))
                      rwa [hlk] at h)
                    have H8 := Lib.hid (idxI_any (hasP xs[k].items[m]) (xs.take k))
                    cases hz : (xs.take k).any (hasP xs[k].items[m]) with
                    | true =>
                      have HV := Lib.hid (show goodA xs = false from HN.out (by
                        rw [HO.out]
                        have : freeA xs k xs[k] = false := by
                          unfold freeA
                          exact List.all_eq_false.2 ⟨xs[k].items[m], List.getElem_mem hml, by rw [hz]; exact Bool.false_ne_true⟩
                        rw [this]; simp))
                      rw [hz] at H8
                      generalize idxI (hasP xs[k].items[m]) (xs.take k) = q at *
                      have hq := H8.out
                      go_wp2_with fail
                      refine wp_region_over (by kernel_rfl) (by kernel_rfl) ?_
                      repeat (go_big_quiet_step (((go_at_call 48; exact Calls.over_of (H7.out _)))))
                      refine wpQuiet_nil ?_
                      intro _ hwx1
                      obtain ⟨x1, hwx1⟩ := hwx1
                      subst hwx1
                      go_wp2_with fail
                      go_returns
                      exact ⟨ret_bool HV.out.symm, below_via hb3 (over_below wr x1)⟩
                    | false =>
                      have HFN := Lib.hid (take_all (p := fun z => !(xs.take k).any (hasP z)) hml HF.out (by rw [hz]; rfl))
                      rw [hz] at H8
                      generalize idxI (hasP xs[k].items[m]) (xs.take k) = q at *
                      have hq := H8.out
                      go_wp2_with fail
                      refine wp_region_over (by kernel_rfl) (by kernel_rfl) ?_
                      repeat (go_big_quiet_step (((go_at_call 48; exact Calls.over_of (H7.out _)))))
                      refine wpQuiet_nil ?_
                      intro _ hwx1
                      obtain ⟨x1, hwx1⟩ := hwx1
                      subst hwx1
                      go_wp2_with fail
                      go_roundw
                      case rel => exact ⟨m + 1, by omega, by go_num, HFN.out, below_via hb2 (over_below wr x1)⟩
                      case measure => simp [intOf]; omega
                  · have HFR := Lib.hid (show freeA xs k xs[k] = true by
                      unfold freeA
                      have h := HF.out
                      rwa [List.take_of_length_le (by omega)] at h)
                    clear hri hri2 HF hb2 hbW3 hWl
                    go_wp2_with fail
                    go_loopw [6] (fun i wr3 => ∃ j : Nat, j ≤ k ∧ i = .int .i64 j ∧ (∀ q ∈ (xs.take k).take j, twinP xs[k] q = false) ∧ Below wr.heap.size wr wr3) (fun i _ => k - (intOf i).toNat)
                    case atStart => exact ⟨0, Nat.zero_le _, rfl, by simp, Below.refl _ _⟩
                    case round =>
                      rename_i wrA
                      obtain ⟨j, hj, rfl, hno, hb4⟩ := hrel
                      have HT := Lib.hid hno
                      clear hno
                      have e0 := (hb4.cell (p := ⟨hp, 0, none⟩) hWl2).trans e0
                      have e1 := (hb4.cell (p := ⟨hp, 1, none⟩) hWl2).trans e1
                      have e2 := (hb4.cell (p := ⟨hp, 2, none⟩) hWl2).trans e2
                      have hWl3 := Nat.lt_of_lt_of_le hWl2 hb4.size
                      have hb5 := hb3.trans (hb4.mono hb3.size)
                      by_cases hjk : j < k
                      · have hjl : j < xs.length := by omega
                        have hjt : j < (xs.take k).length := by rw [hlk]; exact hjk
                        have hjg : (xs.take k)[j] = xs[j] := List.getElem_take
                        obtain ⟨b', off', Aj, cj, hA, hbs', g0, g1, g2, g3, _⟩ := (hr.below hb5).page hjl
                        obtain ⟨rfl, rfl⟩ := addr_eq hA
                        have hbw2 : b < wr.heap.size := Nat.lt_of_lt_of_le hbs' hb5.size
                        have hov := over_cell wr
                        have hj0 : (0 : Int) ≤ (j : Int) := by omega
                        have hj1 : (j : Int) < (xs.length : Int) := by omega
                        clear hA hbs'
                        by_cases h1 : xs[j].under = xs[k].under
                        · have h1' : (xs[j].under == xs[k].under) = true := by simpa using h1
                          by_cases h2 : xs[j].title = xs[k].title
                          · have h2' : (xs[j].title.toList == xs[k].title.toList) = true := by rw [toList_beq]; simpa using h2
                            have HV := Lib.hid (show goodA xs = false from HN.out (by
                              rw [HO.out]
                              have : soloA xs k xs[k] = false := by
                                unfold soloA
                                rw [List.any_eq_true.2 ⟨(xs.take k)[j], List.getElem_mem hjt, by rw [hjg]; simp [twinP, h1, h2]⟩]; rfl
                              rw [this]; simp))
                            clear h1 h2
                            go_wp2_with fail
                            refine wp_region_over (by kernel_rfl) (by kernel_rfl) ?_
                            repeat (go_big_quiet_step (fail))
                            refine wpQuiet_nil ?_
                            intro _ hwx1
                            obtain ⟨x1, hwx1⟩ := hwx1
                            subst hwx1
                            go_wp2_with fail
                            go_returns
                            exact ⟨ret_bool HV.out.symm, below_via hb5 (over_below wr x1)⟩
                          · have h2' : (xs[j].title.toList == xs[k].title.toList) = false := by rw [toList_beq]; simpa using h2
                            have HV := Lib.hid (take_no hjt HT.out (show twinP xs[k] (xs.take k)[j] = false by rw [hjg]; simp [twinP, h2]))
                            clear h1 h2
                            go_wp2_with fail
                            refine wp_region_over (by kernel_rfl) (by kernel_rfl) ?_
                            repeat (go_big_quiet_step (fail))
                            refine wpQuiet_nil ?_
                            intro _ hwx1
                            obtain ⟨x1, hwx1⟩ := hwx1
                            subst hwx1
                            go_wp2_with fail
                            go_roundw
                            case rel => exact ⟨j + 1, by omega, by go_num, HV.out, below_via hb4 (over_below wr x1)⟩
                            case measure => simp [intOf]; omega
                        · have h1' : (xs[j].under == xs[k].under) = false := by simpa using h1
                          have HV := Lib.hid (take_no hjt HT.out (show twinP xs[k] (xs.take k)[j] = false by rw [hjg]; simp [twinP, h1]))
                          clear h1
                          go_wp2_with fail
                          refine wp_region_over (by kernel_rfl) (by kernel_rfl) ?_
                          repeat (go_big_quiet_step (fail))
                          refine wpQuiet_nil ?_
                          intro _ hwx1
                          obtain ⟨x1, hwx1⟩ := hwx1
                          subst hwx1
                          go_wp2_with fail
                          go_roundw
                          case rel => exact ⟨j + 1, by omega, by go_num, HV.out, below_via hb4 (over_below wr x1)⟩
                          case measure => simp [intOf]; omega
                      · have HSO := Lib.hid (show soloA xs k xs[k] = true by
                          unfold soloA
                          rw [List.any_eq_false.2 (fun q hq => by
                            have h := HT.out
                            rw [List.take_of_length_le (by rw [hlk]; omega)] at h
                            rw [h q hq]; exact Bool.false_ne_true)]; rfl)
                        have HOK := Lib.hid (show okS xs k = true by rw [HO.out, HG.out, HGO.out, HU.out, HFR.out, HSO.out]; rfl)
                        go_wp2_with fail
                        go_roundw
                        case rel => exact ⟨k + 1, by omega, by go_num, range_next HA.out HOK.out, hb5⟩
                        case measure => simp [intOf]; omega
      · have HV := Lib.hid (goodA_many (ps := xs) (by omega))
        have h12' : decide ((k : Int) ≤ 12) = false := decide_eq_false h12
        have h13 : ¬ k ≤ 12 := by omega
        have hlt2 : (k : Int) < (xs.length : Int) := by omega
        go_wp2_with fail
        go_returns
        exact ⟨ret_bool HV.out, hb⟩
    · have hke : xs.length ≤ k := by omega
      have HV := Lib.hid (goodA_all (ps := xs) (okS_all (by have := HA.out; rwa [show k = xs.length by omega] at this)))
      go_wp2_with fail
      go_returns
      exact ⟨ret_bool HV.out, hb⟩
end Go.Proofs.YtpjnlcppjcnlgaaGreatDoor
