/- Contracts of ChangedMinds: the program's and the reference's. No condition but the sizes. -/
import Derived.Test.YtfkdefmdnkfpfaaOpLaw1
namespace Go.Proofs.Ytfkdefmdnkfpfaa
set_option linter.unusedVariables false
set_option linter.unusedSimpArgs false
open Go.RowKit
attribute [local irreducible] wpQuiet
def mindP (xs : List Opinion) (o : ByteArray) (x : Opinion) : Bool := decide (x.expert = o) && (decide (0 ≤ x.over) && match xs[x.over.toNat]? with | none => false | some y => decide (y.says ≠ x.says))
def mindN (xs : List Opinion) (o : ByteArray) (k : Nat) : Nat := ((xs.take k).filter (mindP xs o)).length
def mindB (xs : List Opinion) (o : ByteArray) : Bool := goodO xs && isW o
def mindV (xs : List Opinion) (o : ByteArray) : Int := if mindB xs o = true then (mindN xs o xs.length : Int) else 0
theorem mindN_le (xs : List Opinion) (o : ByteArray) (k : Nat) : mindN xs o k ≤ k := by unfold mindN; exact Nat.le_trans (List.length_filter_le _ _) (by simp; omega)
theorem mindN_yes {xs : List Opinion} {o : ByteArray} {k : Nat} (hk : k < xs.length) (h : mindP xs o xs[k] = true) : mindN xs o (k + 1) = mindN xs o k + 1 := by unfold mindN; rw [take_succ_get xs k hk, List.filter_append]; simp [h]
theorem mindN_no {xs : List Opinion} {o : ByteArray} {k : Nat} (hk : k < xs.length) (h : mindP xs o xs[k] = false) : mindN xs o (k + 1) = mindN xs o k := by unfold mindN; rw [take_succ_get xs k hk, List.filter_append]; simp [h]
theorem goodO_over {xs : List Opinion} (h : goodO xs = true) {k t : Nat} (hk : k < xs.length) (ho : xs[k].over = t) : t < xs.length := by
  have := goodO_at h hk
  rw [okO_val hk] at this
  simp only [Bool.and_eq_true, decide_eq_true_eq] at this
  have := this.1.1.2
  omega
theorem goodO_before {xs : List Opinion} (h : goodO xs = true) {k t : Nat} (hk : k < xs.length) (ho : xs[k].over = t) : t < k := by
  have := goodO_at h hk
  rw [okO_val hk] at this
  simp only [Bool.and_eq_true, decide_eq_true_eq] at this
  have := this.1.1.2
  omega
theorem mindP_val {xs : List Opinion} {x : Opinion} {t : Nat} (h : t < xs.length) (ho : x.over = t) (o : ByteArray) : mindP xs o x = (decide (x.expert = o) && decide (xs[t].says ≠ x.says)) := by simp [mindP, ho, h]
set_option maxRecDepth 100000 in
set_option maxHeartbeats 4000000 in
theorem implChangedMinds_c (xs : List Opinion) (A : Option Addr) (c : Nat) (o : ByteArray) (w : World) (hr : Rd encOpinion 5 w.heap.size w A xs) (hn : xs.length ≤ 1048576) (hw : ∀ x ∈ xs, x.expert.size ≤ 9223372036854775807) (hs : o.size ≤ 9223372036854775807) :
    Calls Try.prog 19 #[.slice A xs.length c, .string o] w (Ret (.tuple #[.int .i64 (mindV xs o), .bool (mindB xs o)]) w) := by
  have HW := Lib.hid hw
  clear hw
  by_cases hF : goodO xs = false
  · go_enter Try.func19, Try.ntmps19
    have hbg := Below.refl w.heap.size w
    go_wp2_with fail
    refine (areOpinions_c xs _ _ _ (hr.go hbg) hn HW.out).mono ?_
    rintro e wg0 ⟨rfl, hb0⟩
    have hbg := below_via hbg hb0
    go_wp2_with fail
    go_returns
    exact ⟨ret2 (vi (by simp [mindV, mindB, hF])) (vb (by simp [mindB, hF])), hbg⟩
  have G0 : goodO xs = true := by simpa using hF
  clear hF
  by_cases hF : isW o = false
  · go_enter Try.func19, Try.ntmps19
    have hbg := Below.refl w.heap.size w
    go_wp2_with fail
    refine (areOpinions_c xs _ _ _ (hr.go hbg) hn HW.out).mono ?_
    rintro e wg0 ⟨rfl, hb0⟩
    have hbg := below_via hbg hb0
    go_wp2_with fail
    refine (isWord_c _ _ hs).mono ?_
    rintro e wp1 ⟨rfl, rfl⟩
    go_wp2_with fail
    go_returns
    exact ⟨ret2 (vi (by simp [mindV, mindB, hF])) (vb (by simp [mindB, hF])), hbg⟩
  have G1 : isW o = true := by simpa using hF
  clear hF
  go_enter Try.func19, Try.ntmps19
  have hbg := Below.refl w.heap.size w
  go_wp2_with fail
  refine (areOpinions_c xs _ _ _ (hr.go hbg) hn HW.out).mono ?_
  rintro e wg0 ⟨rfl, hb0⟩
  have hbg := below_via hbg hb0
  go_wp2_with fail
  refine (isWord_c _ _ hs).mono ?_
  rintro e wp1 ⟨rfl, rfl⟩
  have HG := Lib.hid G0
  have HV := Lib.hid (show mindV xs o = (mindN xs o xs.length : Int) by simp [mindV, mindB, G0, G1])
  have HB := Lib.hid (show mindB xs o = true by simp [mindB, G0, G1])
  go_wp2_with fail
  clear G0 G1
  go_loopw [6, 19] (fun v i wr => ∃ k : Nat, k ≤ xs.length ∧ i = .int .i64 k ∧ v = .int .i64 (mindN xs o k : Int) ∧ Below w.heap.size w wr) (fun _ i _ => xs.length - (intOf i).toNat)
  case atStart => exact ⟨0, Nat.zero_le _, rfl, rfl, hbg⟩
  case round =>
    obtain ⟨k, hk, rfl, rfl, hb⟩ := hrel
    clear hbg
    have hle := mindN_le xs o k
    obtain ⟨q, hq⟩ : ∃ q, mindN xs o k = q := ⟨_, rfl⟩
    rw [hq] at hle
    rw [hq]
    have HQ := Lib.hid hq
    clear hq
    by_cases hlt : k < xs.length
    · obtain ⟨b, off, rfl, hbs, d0, d1, d2, d3, d4⟩ := (hr.below hb).atOpinion hlt
      go_wp2_with fail
      clear d0 d1 d2 d3 d4
      have hW := New.of wr (encOpinion xs[k]) 39
      unfold encOpinion at hW
      generalize wr.alloc (.cells #[.int .i64 xs[k].item, .string xs[k].expert, .int .i64 xs[k].day, .int .i64 xs[k].says, .int .i64 xs[k].over] 39) = W at *
      obtain ⟨hWb, hWl, hWc⟩ := hW
      have e0 := hWc 0 _ rfl
      have e1 := hWc 1 _ rfl
      have e2 := hWc 2 _ rfl
      have e3 := hWc 3 _ rfl
      have e4 := hWc 4 _ rfl
      clear hWc
      have hbW := hb.trans (hWb.mono hb.size)
      obtain ⟨hp, hhp⟩ : ∃ hp, wr.heap.size = hp := ⟨_, rfl⟩
      rw [hhp] at hWl e0 e1 e2 e3 e4 ⊢
      clear hhp hWb hb
      obtain ⟨b', off', hA, hbs', d0, d1, d2, d3, d4⟩ := (hr.below hbW).atOpinion hlt
      injection hA with hA; injection hA with hA1 hA2
      subst hA1 hA2
      clear hbs'
      have hbw : b < W.heap.size := Nat.lt_of_lt_of_le hbs hbW.size
      have hov := over_cell W
      by_cases h0 : xs[k].expert = o
      · have h0' : (xs[k].expert.toList == o.toList) = true := by rw [toList_beq]; simpa using h0
        by_cases hng : 0 ≤ xs[k].over
        · have hng' : decide (0 ≤ xs[k].over) = true := decide_eq_true hng
          obtain ⟨t, hot⟩ : ∃ t : Nat, xs[k].over = (t : Int) := ⟨xs[k].over.toNat, by omega⟩
          have htl : t < xs.length := goodO_over HG.out hlt hot
          have HP := Lib.hid (mindP_val htl hot o)
          have h0i : (0 : Int) ≤ (t : Int) := by omega
          have h0t : decide ((0 : Int) ≤ (t : Int)) = true := decide_eq_true h0i
          have ht1 : (t : Int) < (xs.length : Int) := by omega
          rw [hot] at e4 d4
          clear hot hng hng'
          obtain ⟨b', off', hA, hbs', g0, g1, g2, g3, g4⟩ := (hr.below hbW).atOpinion htl
          injection hA with hA; injection hA with hA1 hA2
          subst hA1 hA2
          clear hbs'
          by_cases hs' : xs[t].says = xs[k].says
          · have hs2 : (xs[t].says != xs[k].says) = false := by simpa using hs'
            have HM := Lib.hid (show mindN xs o (k + 1) = q by rw [← HQ.out]; exact mindN_no hlt (by rw [HP.out, hs']; simp))
            clear h0 hs'
            refine wp_region_over (by kernel_rfl) (by kernel_rfl) ?_
            repeat (go_big_quiet_step (fail))
            refine wpQuiet_nil ?_
            intro _ hwx1
            obtain ⟨x1, hwx1⟩ := hwx1
            subst hwx1
            go_wp2_with fail
            go_roundw
            case rel => exact ⟨k + 1, by omega, by go_num, by rw [HM.out], below_via hbW (over_below W x1)⟩
            case measure => simp [intOf]; omega
          · have hs2 : (xs[t].says != xs[k].says) = true := by simpa using hs'
            have HM := Lib.hid (show mindN xs o (k + 1) = q + 1 by rw [← HQ.out]; exact mindN_yes hlt (by rw [HP.out, decide_eq_true h0]; simpa using hs'))
            clear h0 hs'
            refine wp_region_over (by kernel_rfl) (by kernel_rfl) ?_
            repeat (go_big_quiet_step (fail))
            refine wpQuiet_nil ?_
            intro _ hwx1
            obtain ⟨x1, hwx1⟩ := hwx1
            subst hwx1
            go_wp2_with fail
            go_roundw
            case rel => exact ⟨k + 1, by omega, by go_num, by rw [HM.out]; go_num, below_via hbW (over_below W x1)⟩
            case measure => simp [intOf]; omega
        · have hng' : decide (0 ≤ xs[k].over) = false := decide_eq_false hng
          have HM := Lib.hid (show mindN xs o (k + 1) = q by rw [← HQ.out]; exact mindN_no hlt (by unfold mindP; rw [decide_eq_false hng]; simp))
          clear h0 hng
          refine wp_region_over (by kernel_rfl) (by kernel_rfl) ?_
          repeat (go_big_quiet_step (fail))
          refine wpQuiet_nil ?_
          intro _ hwx1
          obtain ⟨x1, hwx1⟩ := hwx1
          subst hwx1
          go_wp2_with fail
          go_roundw
          case rel => exact ⟨k + 1, by omega, by go_num, by rw [HM.out], below_via hbW (over_below W x1)⟩
          case measure => simp [intOf]; omega
      · have h0' : (xs[k].expert.toList == o.toList) = false := by rw [toList_beq]; simpa using h0
        have HM := Lib.hid (show mindN xs o (k + 1) = q by rw [← HQ.out]; exact mindN_no hlt (by unfold mindP; rw [decide_eq_false h0]; simp))
        clear h0
        refine wp_region_over (by kernel_rfl) (by kernel_rfl) ?_
        repeat (go_big_quiet_step (fail))
        refine wpQuiet_nil ?_
        intro _ hwx1
        obtain ⟨x1, hwx1⟩ := hwx1
        subst hwx1
        go_wp2_with fail
        go_roundw
        case rel => exact ⟨k + 1, by omega, by go_num, by rw [HM.out], below_via hbW (over_below W x1)⟩
        case measure => simp [intOf]; omega
    · have hke : k = xs.length := by omega
      have HV2 := Lib.hid (show mindV xs o = (q : Int) by rw [HV.out, ← hke, HQ.out])
      clear hke
      go_wp2_with fail
      go_returns
      exact ⟨ret2 (vi HV2.out.symm) (vb HB.out.symm), hb⟩
set_option maxRecDepth 100000 in
set_option maxHeartbeats 4000000 in
theorem specChangedMinds_c (xs : List Opinion) (A : Option Addr) (c : Nat) (o : ByteArray) (w : World) (hr : Rd encOpinion 5 w.heap.size w A xs) (hn : xs.length ≤ 1048576) (hw : ∀ x ∈ xs, x.expert.size ≤ 9223372036854775807) (hs : o.size ≤ 9223372036854775807) :
    Calls Try.prog 20 #[.slice A xs.length c, .string o] w (Ret (.tuple #[.int .i64 (mindV xs o), .bool (mindB xs o)]) w) := by
  have HW := Lib.hid hw
  clear hw
  by_cases hF : goodO xs = false
  · go_enter Try.func20, Try.ntmps20
    have hbg := Below.refl w.heap.size w
    go_wp2_with fail
    refine (l17Good_c xs _ _ _ (hr.go hbg) hn HW.out).mono ?_
    rintro e wg0 ⟨rfl, hb0⟩
    have hbg := below_via hbg hb0
    go_wp2_with fail
    go_returns
    exact ⟨ret2 (vi (by simp [mindV, mindB, hF])) (vb (by simp [mindB, hF])), hbg⟩
  have G0 : goodO xs = true := by simpa using hF
  clear hF
  by_cases hF : isW o = false
  · go_enter Try.func20, Try.ntmps20
    have hbg := Below.refl w.heap.size w
    go_wp2_with fail
    refine (l17Good_c xs _ _ _ (hr.go hbg) hn HW.out).mono ?_
    rintro e wg0 ⟨rfl, hb0⟩
    have hbg := below_via hbg hb0
    go_wp2_with fail
    refine (l2Word_c _ _ hs).mono ?_
    rintro e wp1 ⟨rfl, rfl⟩
    go_wp2_with fail
    go_returns
    exact ⟨ret2 (vi (by simp [mindV, mindB, hF])) (vb (by simp [mindB, hF])), hbg⟩
  have G1 : isW o = true := by simpa using hF
  clear hF
  go_enter Try.func20, Try.ntmps20
  have hbg := Below.refl w.heap.size w
  go_wp2_with fail
  refine (l17Good_c xs _ _ _ (hr.go hbg) hn HW.out).mono ?_
  rintro e wg0 ⟨rfl, hb0⟩
  have hbg := below_via hbg hb0
  go_wp2_with fail
  refine (l2Word_c _ _ hs).mono ?_
  rintro e wp1 ⟨rfl, rfl⟩
  have HG := Lib.hid G0
  have HV := Lib.hid (show mindV xs o = (mindN xs o xs.length : Int) by simp [mindV, mindB, G0, G1])
  have HB := Lib.hid (show mindB xs o = true by simp [mindB, G0, G1])
  go_wp2_with fail
  clear G0 G1
  go_loopw [6, 7] (fun v i wr => ∃ k : Nat, k ≤ xs.length ∧ i = .int .i64 k ∧ v = .int .i64 (mindN xs o k : Int) ∧ Below w.heap.size w wr) (fun _ i _ => xs.length - (intOf i).toNat)
  case atStart => exact ⟨0, Nat.zero_le _, rfl, rfl, hbg⟩
  case round =>
    obtain ⟨k, hk, rfl, rfl, hb⟩ := hrel
    clear hbg
    have hle := mindN_le xs o k
    obtain ⟨q, hq⟩ : ∃ q, mindN xs o k = q := ⟨_, rfl⟩
    rw [hq] at hle
    rw [hq]
    have HQ := Lib.hid hq
    clear hq
    by_cases hlt : k < xs.length
    · obtain ⟨b, off, rfl, hbs, d0, d1, d2, d3, d4⟩ := (hr.below hb).atOpinion hlt
      go_wp2_with fail
      clear d0 d1 d2 d3 d4
      have hW := New.of wr (encOpinion xs[k]) 39
      unfold encOpinion at hW
      generalize wr.alloc (.cells #[.int .i64 xs[k].item, .string xs[k].expert, .int .i64 xs[k].day, .int .i64 xs[k].says, .int .i64 xs[k].over] 39) = W at *
      obtain ⟨hWb, hWl, hWc⟩ := hW
      have e0 := hWc 0 _ rfl
      have e1 := hWc 1 _ rfl
      have e2 := hWc 2 _ rfl
      have e3 := hWc 3 _ rfl
      have e4 := hWc 4 _ rfl
      clear hWc
      have hbW := hb.trans (hWb.mono hb.size)
      obtain ⟨hp, hhp⟩ : ∃ hp, wr.heap.size = hp := ⟨_, rfl⟩
      rw [hhp] at hWl e0 e1 e2 e3 e4 ⊢
      clear hhp hWb hb
      obtain ⟨b', off', hA, hbs', d0, d1, d2, d3, d4⟩ := (hr.below hbW).atOpinion hlt
      injection hA with hA; injection hA with hA1 hA2
      subst hA1 hA2
      clear hbs'
      have hbw : b < W.heap.size := Nat.lt_of_lt_of_le hbs hbW.size
      have hov := over_cell W
      by_cases h0 : xs[k].expert = o
      · have h0' : (xs[k].expert.toList == o.toList) = true := by rw [toList_beq]; simpa using h0
        by_cases hng : 0 ≤ xs[k].over
        · have hng' : decide (0 ≤ xs[k].over) = true := decide_eq_true hng
          obtain ⟨t, hot⟩ : ∃ t : Nat, xs[k].over = (t : Int) := ⟨xs[k].over.toNat, by omega⟩
          have htl : t < xs.length := goodO_over HG.out hlt hot
          have HP := Lib.hid (mindP_val htl hot o)
          have h0i : (0 : Int) ≤ (t : Int) := by omega
          have h0t : decide ((0 : Int) ≤ (t : Int)) = true := decide_eq_true h0i
          have ht1 : (t : Int) < (xs.length : Int) := by omega
          rw [hot] at e4 d4
          clear hot hng hng'
          obtain ⟨b', off', hA, hbs', g0, g1, g2, g3, g4⟩ := (hr.below hbW).atOpinion htl
          injection hA with hA; injection hA with hA1 hA2
          subst hA1 hA2
          clear hbs'
          by_cases hs' : xs[t].says = xs[k].says
          · have hs2 : (xs[t].says != xs[k].says) = false := by simpa using hs'
            have HM := Lib.hid (show mindN xs o (k + 1) = q by rw [← HQ.out]; exact mindN_no hlt (by rw [HP.out, hs']; simp))
            clear h0 hs'
            refine wp_region_over (by kernel_rfl) (by kernel_rfl) ?_
            repeat (go_big_quiet_step (fail))
            refine wpQuiet_nil ?_
            intro _ hwx1
            obtain ⟨x1, hwx1⟩ := hwx1
            subst hwx1
            go_wp2_with fail
            go_roundw
            case rel => exact ⟨k + 1, by omega, by go_num, by rw [HM.out], below_via hbW (over_below W x1)⟩
            case measure => simp [intOf]; omega
          · have hs2 : (xs[t].says != xs[k].says) = true := by simpa using hs'
            have HM := Lib.hid (show mindN xs o (k + 1) = q + 1 by rw [← HQ.out]; exact mindN_yes hlt (by rw [HP.out, decide_eq_true h0]; simpa using hs'))
            clear h0 hs'
            refine wp_region_over (by kernel_rfl) (by kernel_rfl) ?_
            repeat (go_big_quiet_step (fail))
            refine wpQuiet_nil ?_
            intro _ hwx1
            obtain ⟨x1, hwx1⟩ := hwx1
            subst hwx1
            go_wp2_with fail
            go_roundw
            case rel => exact ⟨k + 1, by omega, by go_num, by rw [HM.out]; go_num, below_via hbW (over_below W x1)⟩
            case measure => simp [intOf]; omega
        · have hng' : decide (0 ≤ xs[k].over) = false := decide_eq_false hng
          have HM := Lib.hid (show mindN xs o (k + 1) = q by rw [← HQ.out]; exact mindN_no hlt (by unfold mindP; rw [decide_eq_false hng]; simp))
          clear h0 hng
          refine wp_region_over (by kernel_rfl) (by kernel_rfl) ?_
          repeat (go_big_quiet_step (fail))
          refine wpQuiet_nil ?_
          intro _ hwx1
          obtain ⟨x1, hwx1⟩ := hwx1
          subst hwx1
          go_wp2_with fail
          go_roundw
          case rel => exact ⟨k + 1, by omega, by go_num, by rw [HM.out], below_via hbW (over_below W x1)⟩
          case measure => simp [intOf]; omega
      · have h0' : (xs[k].expert.toList == o.toList) = false := by rw [toList_beq]; simpa using h0
        have HM := Lib.hid (show mindN xs o (k + 1) = q by rw [← HQ.out]; exact mindN_no hlt (by unfold mindP; rw [decide_eq_false h0]; simp))
        clear h0
        refine wp_region_over (by kernel_rfl) (by kernel_rfl) ?_
        repeat (go_big_quiet_step (fail))
        refine wpQuiet_nil ?_
        intro _ hwx1
        obtain ⟨x1, hwx1⟩ := hwx1
        subst hwx1
        go_wp2_with fail
        go_roundw
        case rel => exact ⟨k + 1, by omega, by go_num, by rw [HM.out], below_via hbW (over_below W x1)⟩
        case measure => simp [intOf]; omega
    · have hke : k = xs.length := by omega
      have HV2 := Lib.hid (show mindV xs o = (q : Int) by rw [HV.out, ← hke, HQ.out])
      clear hke
      go_wp2_with fail
      go_returns
      exact ⟨ret2 (vi HV2.out.symm) (vb HB.out.symm), hb⟩
end Go.Proofs.Ytfkdefmdnkfpfaa
