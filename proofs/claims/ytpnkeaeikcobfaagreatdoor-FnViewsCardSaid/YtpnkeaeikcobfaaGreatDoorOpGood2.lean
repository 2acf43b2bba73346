/- Contract of l17Good: the reference's loops that ask whether a list are opinions. No condition but the sizes. -/
import Derived.Test.YtpnkeaeikcobfaaGreatDoorOpGood
import Derived.Deep.DeepCutAuto
namespace Go.Proofs.YtpnkeaeikcobfaaGreatDoor
set_option linter.unusedVariables false
set_option linter.unusedSimpArgs false
open Go.RowKit
attribute [local irreducible] wpQuiet
theorem and4_false {a b c d e : Bool} (h : ((a && b) && (c && d)) = false) : (a && b && d && c && e) = false := by cases a <;> cases b <;> cases c <;> cases d <;> simp_all
theorem used_yes {xs : List Opinion} {k m : Nat} {v : Int} (hk : k < xs.length) (hm : m < k) (h : (xs[m]'(by omega)).over = v) : (!usedO xs k v) = false := by
  have : usedO xs k v = true := List.any_eq_true.2 ⟨xs[m]'(by omega), List.mem_take_iff_getElem.2 ⟨m, by omega, rfl⟩, by simpa using h⟩
  rw [this]; rfl
theorem used_no {xs : List Opinion} {k : Nat} {v : Int} (h : ∀ y ∈ xs.take k, decide (y.over = v) = false) : (!usedO xs k v) = true := by
  have : usedO xs k v = false := List.any_eq_false.2 fun y hy => by rw [h y hy]; exact Bool.false_ne_true
  rw [this]; rfl
theorem take_no {α : Type} {p : α → Bool} {xs : List α} {k : Nat} (hk : k < xs.length) (h0 : ∀ x ∈ xs.take k, p x = false) (h1 : p xs[k] = false) : ∀ x ∈ xs.take (k + 1), p x = false := by
  rw [take_succ_get xs k hk]
  intro x hx
  rcases List.mem_append.1 hx with h | h
  · exact h0 x h
  · simp at h; subst h; exact h1
set_option maxRecDepth 100000 in
set_option maxHeartbeats 8000000 in
theorem l17Good_c (xs : List Opinion) (A : Option Addr) (c : Nat) (w : World) (hr : Rd encOpinion 5 w.heap.size w A xs) (hn : xs.length ≤ 1048576) (hw : ∀ x ∈ xs, x.expert.size ≤ 9223372036854775807) :
    Calls Tryz.prog 30 #[.slice A xs.length c] w (Ret (.bool (goodO xs)) w) := by
  have HW := Lib.hid (fun (i : Nat) (h : i < xs.length) => hw xs[i] (List.getElem_mem h))
  clear hw
  go_enter Tryz.func30, Tryz.ntmps30
  go_wp2_with fail
  go_loopw [3] (fun i wr => ∃ k : Nat, k ≤ xs.length ∧ k ≤ 16 ∧ i = .int .i64 k ∧ (List.range k).all (okO xs) = true ∧ Below w.heap.size w wr) (fun i _ => xs.length - (intOf i).toNat)
  case atStart => exact ⟨0, Nat.zero_le _, by omega, rfl, rfl, Below.refl _ _⟩
  case round =>
    obtain ⟨k, hk, hk16, rfl, hall, hb⟩ := hrel
    have HA := Lib.hid hall
    clear hall
    by_cases hlt : k < xs.length
    · by_cases h15 : k ≤ 15
      · obtain ⟨b, off, rfl, hbs, d0, d1, d2, d3, d4⟩ := (hr.below hb).atOpinion hlt
        have HN := Lib.hid (fun h => goodO_no hlt h)
        have HO := Lib.hid (okO_val hlt)
        have h15d : decide ((k : Int) ≤ 15) = true := decide_eq_true (by omega)
        have h15e : decide (k ≤ 15) = true := decide_eq_true h15
        go_upto_region 5 with fail
        clear d0 d1 d2 d3 d4
        have hW := New.of wr (encOpinion xs[k]) 35
        unfold encOpinion at hW
        generalize wr.alloc (.cells #[.int .i64 xs[k].item, .string xs[k].expert, .int .i64 xs[k].day, .int .i64 xs[k].says, .int .i64 xs[k].over] 35) = W at *
        obtain ⟨hWb, hWl, hWc⟩ := hW
        have e0 := hWc 0 _ rfl
        have e1 := hWc 1 _ rfl
        have e2 := hWc 2 _ rfl
        have e3 := hWc 3 _ rfl
        have e4 := hWc 4 _ rfl
        clear hWc
        have hbW := hb.trans (hWb.mono hb.size)
        obtain ⟨hp, hhp⟩ : ∃ hp, wr.heap.size = hp := ⟨_, rfl⟩
        rw [hhp] at hWl e0 e1 e2 e3 e4 ⊢
        clear hhp hWb hb
        obtain ⟨b', off', hA, hbs', d0, d1, d2, d3, d4⟩ := (hr.below hbW).atOpinion hlt
        injection hA with hA; injection hA with hA1 hA2
        subst hA1 hA2
        clear hbs'
        have hbw : b < W.heap.size := Nat.lt_of_lt_of_le hbs hbW.size
        have hov := over_cell W
        obtain ⟨T5, hT5⟩ : ∃ T5 : Bool, ((xs[k].base && decide (-1 ≤ xs[k].over)) && (prevO xs k xs[k] && decide (xs[k].over < (k : Int)))) = T5 := ⟨_, rfl⟩
        have H5 := Lib.hid hT5
        clear hT5
        go_cut [43] (fun v wx => v = .bool (!T5) ∧ Below W.heap.size W wx)
        case first =>
          have HC : Hid (∀ x : World, Calls Tryz.prog 60 #[.agg #[.int .i64 xs[k].item, .string xs[k].expert, .int .i64 xs[k].day, .int .i64 xs[k].says, .int .i64 xs[k].over]] (over W x) (Ret (.bool (xs[k].base && decide (-1 ≤ xs[k].over))) (over W x))) := Lib.hid (fun x => l17One_c _ _ (HW.out k hlt))
          by_cases h1 : (xs[k].base && decide (-1 ≤ xs[k].over)) = true
          · rw [h1] at HC
            by_cases hk0 : k = 0
            · have hkz : decide (0 < (k : Int)) = false := decide_eq_false (by omega)
              have hkz1 : decide (0 < k) = false := decide_eq_false (by omega)
              have HP := Lib.hid (show prevO xs k xs[k] = true by subst hk0; exact prevO_0 _ _)
              clear hk0
              by_cases hok : xs[k].over < (k : Int)
              · have hik : decide ((k : Int) ≤ xs[k].over) = false := decide_eq_false (by omega)
                have HV := Lib.hid (show (!T5) = false by rw [← H5.out]; rw [h1, HP.out, decide_eq_true hok]; rfl)
                clear h1 hok
                refine wp_region_over (by kernel_rfl) (by kernel_rfl) ?_
                repeat (go_big_quiet_step (((go_at_call 60; exact Calls.over_of (HC.out _)))))
                refine wpQuiet_nil ?_
                intro _ hwx1
                obtain ⟨x1, hwx1⟩ := hwx1
                subst hwx1
                go_wp2_with fail
                go_meet
                exact ⟨vb HV.out.symm, over_below W x1⟩
              · have hik : decide ((k : Int) ≤ xs[k].over) = true := decide_eq_true (by omega)
                have HV := Lib.hid (show (!T5) = true by rw [← H5.out]; rw [h1, HP.out, decide_eq_false hok]; rfl)
                clear h1 hok
                refine wp_region_over (by kernel_rfl) (by kernel_rfl) ?_
                repeat (go_big_quiet_step (((go_at_call 60; exact Calls.over_of (HC.out _)))))
                refine wpQuiet_nil ?_
                intro _ hwx1
                obtain ⟨x1, hwx1⟩ := hwx1
                subst hwx1
                go_wp2_with fail
                go_meet
                exact ⟨vb HV.out.symm, over_below W x1⟩
            · obtain ⟨j, hj⟩ : ∃ j, k = j + 1 := ⟨k - 1, by omega⟩
              have hj' : j < xs.length := by omega
              obtain ⟨b', off', hA, hbs', g0, g1, g2, g3, g4⟩ := (hr.below hbW).atOpinion hj'
              injection hA with hA; injection hA with hA1 hA2
              subst hA1 hA2
              clear hbs'
              have hkz : decide (0 < (k : Int)) = true := decide_eq_true (by omega)
              have hkz1 : decide (0 < k) = true := decide_eq_true (by omega)
              have hkz2 : 0 < k := by omega
              have hsub : IntKind.i64.wrap ((k : Int) - 1) = (j : Int) := by
                rw [IntWalk.i64_in _ (by omega)]; omega
              have hj0 : (0 : Int) ≤ j := by omega
              have hj1 : (j : Int) ≤ xs.length := by omega
              have hj2 : (j : Int) < xs.length := by omega
              have HP := Lib.hid (show prevO xs k xs[k] = decide (xs[j].day ≤ xs[k].day) by subst hj; exact prevO_s hj' _)
              clear hk0 hj
              by_cases hd : xs[k].day < xs[j].day
              · have hd' : decide (xs[k].day < xs[j].day) = true := decide_eq_true hd
                have HP := Lib.hid (show prevO xs k xs[k] = false by rw [HP.out]; exact decide_eq_false (by omega))
                have HV := Lib.hid (show (!T5) = true by rw [← H5.out]; rw [h1, HP.out]; rfl)
                clear h1 hd
                refine wp_region_over (by kernel_rfl) (by kernel_rfl) ?_
                repeat (go_big_quiet_step (((go_at_call 60; exact Calls.over_of (HC.out _)))))
                refine wpQuiet_nil ?_
                intro _ hwx1
                obtain ⟨x1, hwx1⟩ := hwx1
                subst hwx1
                go_wp2_with fail
                go_meet
                exact ⟨vb HV.out.symm, over_below W x1⟩
              · have hd' : decide (xs[k].day < xs[j].day) = false := decide_eq_false hd
                have HP := Lib.hid (show prevO xs k xs[k] = true by rw [HP.out]; exact decide_eq_true (by omega))
                clear hd
                by_cases hok : xs[k].over < (k : Int)
                · have hik : decide ((k : Int) ≤ xs[k].over) = false := decide_eq_false (by omega)
                  have HV := Lib.hid (show (!T5) = false by rw [← H5.out]; rw [h1, HP.out, decide_eq_true hok]; rfl)
                  clear h1 hok
                  refine wp_region_over (by kernel_rfl) (by kernel_rfl) ?_
                  repeat (go_big_quiet_step (((go_at_call 60; exact Calls.over_of (HC.out _)))))
                  refine wpQuiet_nil ?_
                  intro _ hwx1
                  obtain ⟨x1, hwx1⟩ := hwx1
                  subst hwx1
                  go_wp2_with fail
                  go_meet
                  exact ⟨vb HV.out.symm, over_below W x1⟩
                · have hik : decide ((k : Int) ≤ xs[k].over) = true := decide_eq_true (by omega)
                  have HV := Lib.hid (show (!T5) = true by rw [← H5.out]; rw [h1, HP.out, decide_eq_false hok]; rfl)
                  clear h1 hok
                  refine wp_region_over (by kernel_rfl) (by kernel_rfl) ?_
                  repeat (go_big_quiet_step (((go_at_call 60; exact Calls.over_of (HC.out _)))))
                  refine wpQuiet_nil ?_
                  intro _ hwx1
                  obtain ⟨x1, hwx1⟩ := hwx1
                  subst hwx1
                  go_wp2_with fail
                  go_meet
                  exact ⟨vb HV.out.symm, over_below W x1⟩
          · have h1' : (xs[k].base && decide (-1 ≤ xs[k].over)) = false := by simpa only [Bool.not_eq_true] using h1
            rw [h1'] at HC
            have HV := Lib.hid (show (!T5) = true by rw [← H5.out]; rw [h1']; rfl)
            clear h1 h1'
            refine wp_region_over (by kernel_rfl) (by kernel_rfl) ?_
            repeat (go_big_quiet_step (((go_at_call 60; exact Calls.over_of (HC.out _)))))
            refine wpQuiet_nil ?_
            intro _ hwx1
            obtain ⟨x1, hwx1⟩ := hwx1
            subst hwx1
            go_wp2_with fail
            go_meet
            exact ⟨vb HV.out.symm, over_below W x1⟩
        case rest =>
          obtain ⟨rfl, hb1⟩ := hcut
          obtain ⟨W1, rfl⟩ : ∃ W1 : World, W1 = wc := ⟨_, rfl⟩
          clear hov hbw d0 d1 d2 d3 d4
          have e0 := (hb1.cell (p := ⟨hp, 0, none⟩) hWl).trans e0
          have e1 := (hb1.cell (p := ⟨hp, 1, none⟩) hWl).trans e1
          have e2 := (hb1.cell (p := ⟨hp, 2, none⟩) hWl).trans e2
          have e3 := (hb1.cell (p := ⟨hp, 3, none⟩) hWl).trans e3
          have e4 := (hb1.cell (p := ⟨hp, 4, none⟩) hWl).trans e4
          have hWl := Nat.lt_of_lt_of_le hWl hb1.size
          have hbW := below_via hbW hb1
          obtain ⟨b', off', hA, hbs', d0, d1, d2, d3, d4⟩ := (hr.below hbW).atOpinion hlt
          injection hA with hA; injection hA with hA1 hA2
          subst hA1 hA2
          clear hbs'
          have hbw : b < W1.heap.size := Nat.lt_of_lt_of_le hbs hbW.size
          have hov := over_cell W1
          cases T5 with
          | false =>
            have HK := Lib.hid (show okO xs k = false by rw [HO.out]; exact and4_false H5.out)
            go_wp2_with fail
            go_returns
            exact ⟨ret_bool (HN.out HK.out).symm, hbW⟩
          | true =>
            have hb5 := H5.out
            simp only [Bool.and_eq_true, decide_eq_true_eq] at hb5
            obtain ⟨⟨hbase, hm1⟩, hprev, hok⟩ := hb5
            have HB := Lib.hid (show okO xs k = (decide (xs[k].over < 0) || (tgtO xs xs[k] && !usedO xs k xs[k].over)) by rw [HO.out, hbase, hprev, decide_eq_true hm1, decide_eq_true hok]; rfl)
            clear hbase hprev
            obtain ⟨T7, hT7⟩ : ∃ T7 : Bool, (decide (0 ≤ xs[k].over) && !tgtO xs xs[k]) = T7 := ⟨_, rfl⟩
            have H7 := Lib.hid hT7
            clear hT7
            go_upto_region 7 with fail
            go_cut [68] (fun v wx => v = .bool T7 ∧ Below W1.heap.size W1 wx)
            case first =>
              by_cases hng : xs[k].over < 0
              · have h0 : decide (0 ≤ xs[k].over) = false := decide_eq_false (by omega)
                have HV := Lib.hid (show T7 = false by rw [← H7.out]; rw [h0]; rfl)
                clear hng hok hm1
                refine wp_region_over (by kernel_rfl) (by kernel_rfl) ?_
                repeat (go_big_quiet_step (fail))
                refine wpQuiet_nil ?_
                intro _ hwx1
                obtain ⟨x1, hwx1⟩ := hwx1
                subst hwx1
                go_wp2_with fail
                go_meet
                exact ⟨vb HV.out.symm, over_below W1 x1⟩
              · obtain ⟨t, hot⟩ : ∃ t : Nat, xs[k].over = (t : Int) := ⟨xs[k].over.toNat, by omega⟩
                have htl : t < xs.length := by omega
                have h0 : decide (0 ≤ (t : Int)) = true := decide_eq_true (by omega)
                have h0' : (0 : Int) ≤ (t : Int) := by omega
                have ht1 : (t : Int) < (xs.length : Int) := by omega
                have HG := Lib.hid (tgtO_val htl hot)
                have HZ := Lib.hid (show decide (0 ≤ xs[k].over) = true by rw [hot]; exact h0)
                rw [hot] at e4 d4
                clear hot hng hok hm1
                obtain ⟨b', off', hA, hbs', g0, g1, g2, g3, g4⟩ := (hr.below hbW).atOpinion htl
                injection hA with hA; injection hA with hA1 hA2
                subst hA1 hA2
                clear hbs'
                by_cases hi : xs[t].item = xs[k].item
                · have hi' : (xs[t].item != xs[k].item) = false := by simpa using hi
                  by_cases hx : xs[t].expert = xs[k].expert
                  · have hx' : (xs[t].expert.toList == xs[k].expert.toList) = true := by rw [toList_beq]; simpa using hx
                    have HV := Lib.hid (show T7 = false by rw [← H7.out]; rw [HZ.out, HG.out, decide_eq_true hi, decide_eq_true hx]; rfl)
                    clear hi hx
                    refine wp_region_over (by kernel_rfl) (by kernel_rfl) ?_
                    repeat (go_big_quiet_step (fail))
                    refine wpQuiet_nil ?_
                    intro _ hwx1
                    obtain ⟨x1, hwx1⟩ := hwx1
                    subst hwx1
                    go_wp2_with fail
                    go_meet
                    exact ⟨vb HV.out.symm, over_below W1 x1⟩
                  · have hx' : (xs[t].expert.toList == xs[k].expert.toList) = false := by rw [toList_beq]; simpa using hx
                    have HV := Lib.hid (show T7 = true by rw [← H7.out]; rw [HZ.out, HG.out, decide_eq_true hi, decide_eq_false hx]; rfl)
                    clear hi hx
                    refine wp_region_over (by kernel_rfl) (by kernel_rfl) ?_
                    repeat (go_big_quiet_step (fail))
                    refine wpQuiet_nil ?_
                    intro _ hwx1
                    obtain ⟨x1, hwx1⟩ := hwx1
                    subst hwx1
                    go_wp2_with fail
                    go_meet
                    exact ⟨vb HV.out.symm, over_below W1 x1⟩
                · have hi' : (xs[t].item != xs[k].item) = true := by simpa using hi
                  have HV := Lib.hid (show T7 = true by rw [← H7.out]; rw [HZ.out, HG.out, decide_eq_false hi]; rfl)
                  clear hi
                  refine wp_region_over (by kernel_rfl) (by kernel_rfl) ?_
                  repeat (go_big_quiet_step (fail))
                  refine wpQuiet_nil ?_
                  intro _ hwx1
                  obtain ⟨x1, hwx1⟩ := hwx1
                  subst hwx1
                  go_wp2_with fail
                  go_meet
                  exact ⟨vb HV.out.symm, over_below W1 x1⟩
            case rest =>
              obtain ⟨rfl, hb2⟩ := hcut
              obtain ⟨W2, rfl⟩ : ∃ W2 : World, W2 = wc := ⟨_, rfl⟩
              clear hov hbw d0 d1 d2 d3 d4
              have e0 := (hb2.cell (p := ⟨hp, 0, none⟩) hWl).trans e0
              have e1 := (hb2.cell (p := ⟨hp, 1, none⟩) hWl).trans e1
              have e2 := (hb2.cell (p := ⟨hp, 2, none⟩) hWl).trans e2
              have e3 := (hb2.cell (p := ⟨hp, 3, none⟩) hWl).trans e3
              have e4 := (hb2.cell (p := ⟨hp, 4, none⟩) hWl).trans e4
              have hWl := Nat.lt_of_lt_of_le hWl hb2.size
              have hbW := below_via hbW hb2
              obtain ⟨b', off', hA, hbs', d0, d1, d2, d3, d4⟩ := (hr.below hbW).atOpinion hlt
              injection hA with hA; injection hA with hA1 hA2
              subst hA1 hA2
              clear hbs'
              have hbw : b < W2.heap.size := Nat.lt_of_lt_of_le hbs hbW.size
              have hov := over_cell W2
              cases T7 with
              | true =>
                have HK := Lib.hid (show okO xs k = false by rw [HB.out]; have h := H7.out; simp only [Bool.and_eq_true, decide_eq_true_eq] at h; rw [decide_eq_false (by omega)]; have h2 := h.2; simp only [Bool.not_eq_true'] at h2; rw [h2]; rfl)
                go_wp2_with fail
                go_returns
                exact ⟨ret_bool (HN.out HK.out).symm, hbW⟩
              | false =>
                go_wp2_with fail
                obtain ⟨wo, rfl⟩ : ∃ wo : World, wo = wr := ⟨_, rfl⟩
                go_loopw [5] (fun i wq => ∃ m : Nat, m ≤ k ∧ i = .int .i64 m ∧ (0 ≤ xs[k].over → ∀ y ∈ xs.take m, decide (y.over = xs[k].over) = false) ∧ Below W2.heap.size W2 wq) (fun i _ => k - (intOf i).toNat)
                case atStart => exact ⟨0, Nat.zero_le _, rfl, by simp, Below.refl _ _⟩
                case round =>
                  obtain ⟨m, hm, rfl, hun, hbq⟩ := hrel
                  have HU := Lib.hid hun
                  clear hun
                  clear hov hbw d0 d1 d2 d3 d4
                  have e0 := (hbq.cell (p := ⟨hp, 0, none⟩) hWl).trans e0
                  have e1 := (hbq.cell (p := ⟨hp, 1, none⟩) hWl).trans e1
                  have e2 := (hbq.cell (p := ⟨hp, 2, none⟩) hWl).trans e2
                  have e3 := (hbq.cell (p := ⟨hp, 3, none⟩) hWl).trans e3
                  have e4 := (hbq.cell (p := ⟨hp, 4, none⟩) hWl).trans e4
                  have hWl := Nat.lt_of_lt_of_le hWl hbq.size
                  have hbW := below_via hbW hbq
                  obtain ⟨b', off', hA, hbs', d0, d1, d2, d3, d4⟩ := (hr.below hbW).atOpinion hlt
                  injection hA with hA; injection hA with hA1 hA2
                  subst hA1 hA2
                  clear hbs'
                  have hbw : b < wr.heap.size := Nat.lt_of_lt_of_le hbs hbW.size
                  have hov := over_cell wr
                  by_cases hmk : m < k
                  · have hml : m < xs.length := by omega
                    by_cases hng : xs[k].over < 0
                    · have h0 : decide (0 ≤ xs[k].over) = false := decide_eq_false (by omega)
                      have HV := Lib.hid (show 0 ≤ xs[k].over → ∀ y ∈ xs.take (m + 1), decide (y.over = xs[k].over) = false from fun h => absurd h (by omega))
                      clear hng
                      go_wp2_with fail
                      refine wp_region_over (by kernel_rfl) (by kernel_rfl) ?_
                      repeat (go_big_quiet_step (fail))
                      refine wpQuiet_nil ?_
                      intro _ hwx1
                      obtain ⟨x1, hwx1⟩ := hwx1
                      subst hwx1
                      go_wp2_with fail
                      go_roundw
                      case rel => exact ⟨m + 1, by omega, by go_num, HV.out, below_via hbq (over_below wr x1)⟩
                      case measure => simp [intOf]; omega
                    · have h0 : decide (0 ≤ xs[k].over) = true := decide_eq_true (by omega)
                      obtain ⟨b', off', hA, hbs', g0, g1, g2, g3, g4⟩ := (hr.below hbW).atOpinion hml
                      injection hA with hA; injection hA with hA1 hA2
                      subst hA1 hA2
                      clear hbs'
                      by_cases he : xs[m].over = xs[k].over
                      · have he' : (xs[m].over == xs[k].over) = true := by simpa using he
                        have HK := Lib.hid (show okO xs k = false by rw [HB.out, used_yes hlt hmk he, decide_eq_false hng]; simp only [Bool.and_false, Bool.or_false])
                        clear he hng
                        go_wp2_with fail
                        refine wp_region_over (by kernel_rfl) (by kernel_rfl) ?_
                        repeat (go_big_quiet_step (fail))
                        refine wpQuiet_nil ?_
                        intro _ hwx1
                        obtain ⟨x1, hwx1⟩ := hwx1
                        subst hwx1
                        go_wp2_with fail
                        go_returns
                        exact ⟨ret_bool (HN.out HK.out).symm, below_via hbW (over_below wr x1)⟩
                      · have he' : (xs[m].over == xs[k].over) = false := by simpa using he
                        have HV := Lib.hid (take_no (p := fun y : Opinion => decide (y.over = xs[k].over)) hml (HU.out (by omega)) (by simpa using he))
                        clear he hng
                        go_wp2_with fail
                        refine wp_region_over (by kernel_rfl) (by kernel_rfl) ?_
                        repeat (go_big_quiet_step (fail))
                        refine wpQuiet_nil ?_
                        intro _ hwx1
                        obtain ⟨x1, hwx1⟩ := hwx1
                        subst hwx1
                        go_wp2_with fail
                        go_roundw
                        case rel => exact ⟨m + 1, by omega, by go_num, fun _ => HV.out, below_via hbq (over_below wr x1)⟩
                        case measure => simp [intOf]; omega
                  · have hme : m = k := by omega
                    have HK := Lib.hid (show okO xs k = true by
                      rw [HB.out]
                      have h7 := H7.out
                      by_cases hng : xs[k].over < 0
                      · rw [decide_eq_true hng]; rfl
                      · have hu := HU.out (by omega)
                        rw [hme] at hu
                        rw [decide_eq_true (show 0 ≤ xs[k].over by omega), Bool.true_and] at h7
                        simp only [Bool.not_eq_false'] at h7
                        rw [h7, used_no hu]; simp only [Bool.and_true, Bool.or_true])
                    clear hme
                    go_wp2_with fail
                    go_roundw
                    case rel => exact ⟨k + 1, by omega, by omega, by go_num, range_next HA.out HK.out, hbW⟩
                    case measure => simp [intOf]; omega
      · have HV := Lib.hid (goodO_many (xs := xs) (by omega))
        go_wp2_with fail
        go_returns
        exact ⟨ret_bool HV.out, hb⟩
    · have hke : xs.length ≤ k := by omega
      have HV := Lib.hid (goodO_all (xs := xs) (by have := HA.out; have e : k = xs.length := by omega
                                                   rwa [e] at this))
      go_wp2_with fail
      go_returns
      exact ⟨ret_bool HV.out, hb⟩
end Go.Proofs.YtpnkeaeikcobfaaGreatDoor
