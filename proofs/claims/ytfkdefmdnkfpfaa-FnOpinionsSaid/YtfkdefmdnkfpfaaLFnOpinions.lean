/- The walk of the law FnOpinions: it answers true, whatever the code. No condition but that the code is one that can be. -/
import Derived.Test.YtfkdefmdnkfpfaaOpFn
import Derived.Test.YtfkdefmdnkfpfaaOpGive2
import Derived.Test.YtfkdefmdnkfpfaaOpMinds
import Derived.Test.YtfkdefmdnkfpfaaOpLaw1
import Derived.Deep.DeepCutAuto
namespace Go.Proofs.Ytfkdefmdnkfpfaa
set_option linter.unusedVariables false
set_option linter.unusedSimpArgs false
open Go.RowKit
attribute [local irreducible] wpQuiet
theorem rBig_c (n : Nat) (A : Option Addr) (c : Nat) (w : World) : Calls Try.prog 5 #[.slice A n c] w (Pure (.bool (decide (65536 < n))) w) := by
  go_enter Try.func5, Try.ntmps5
  go_wp2_with fail
  go_returns
  exact ⟨ret_bool (by simp; omega), rfl⟩
theorem okO_w {xs : List Opinion} (h : ∀ x ∈ xs, OkO x) : ∀ x ∈ xs, x.expert.size ≤ 9223372036854775807 := fun x hx => by have := (h x hx).1; omega
set_option maxRecDepth 100000 in
set_option maxHeartbeats 4000000 in
theorem lawFnOpinions_c (bs : List Int) (A : Option Addr) (c : Nat) (w : World) (hr : Rd encY 1 w.heap.size w A bs) (hm : bs.length ≤ 9223372036854775807) (hc : bs.length ≤ c) (hb : ∀ b ∈ bs, ByteI b) :
    Calls Try.prog 3 #[.slice A bs.length c] w (Ret (.bool true) w) := by
  have HB := Lib.hid hb
  clear hb
  by_cases hbig : 65536 < bs.length
  · have hd : decide (65536 < bs.length) = true := decide_eq_true hbig
    go_enter Try.func3, Try.ntmps3
    go_wp2_with (go_at_call 5; refine (rBig_c _ _ _ _).mono ?_; rw [hd]; rintro e w' ⟨rfl, rfl⟩)
    go_returns
    exact ⟨rfl, Below.refl _ _⟩
  · have hd : decide (65536 < bs.length) = false := decide_eq_false hbig
    have hn : bs.length ≤ 65536 := by omega
    clear hbig
    go_enter Try.func3, Try.ntmps3
    go_wp2_with (go_at_call 5; refine (rBig_c _ _ _ _).mono ?_; rw [hd]; rintro e w' ⟨rfl, rfl⟩)
    refine (drawGiveOpinion_c bs _ _ _ hr hn hc HB.out).mono ?_
    rintro e w1 ⟨B1, c1, xs, z, s, d, n, rfl, hl1, hok1, hz, hs, hdd, hnn, ho1, hb1⟩
    have HK1 := Lib.hid (okO_w hok1)
    clear hok1
    have hr1 := ho1.rd
    have hx := hb1
    go_wp2_with fail
    refine (implGiveOpinion_c xs _ _ z s d n _ hr1 (by omega) HK1.out (by omega) (by omega) (by omega) (by omega)).mono ?_
    rintro e w2 ⟨R2, c2, rfl, hb2, q2⟩
    have hx := below_step hx hb2
    have hr1 := hr1.go hb2
    go_wp2_with fail
    refine (specGiveOpinion_c xs _ _ z s d n _ hr1 (by omega) HK1.out (by omega) (by omega) (by omega) (by omega)).mono ?_
    rintro e w3 ⟨R3, c3, rfl, hb3, q3⟩
    have hx := below_step hx hb3
    have hr1 := hr1.go hb3
    have q2 := q2.go hb3
    have hgl := giveL_len xs z s d n
    obtain ⟨G, hG⟩ : ∃ G, giveB xs z s d n = G := ⟨_, rfl⟩
    rw [hG]
    have HG := Lib.hid hG
    clear hG hb1 hb2 hb3
    go_wp2_with fail
    refine (rOpinions_c _ _ _ _ _ _ q2.rd q3.rd (by omega)).mono ?_
    rintro e w4 ⟨rfl, hb4⟩
    have hx := below_step hx hb4
    have hr1 := hr1.go hb4
    have q2 := q2.go hb4
    clear q3 hb4
    go_upto_if 76 with fail
    go_cut [] (fun wx => Below w.heap.size w wx)
    case first =>
      cases G
      · go_wp2_with fail
        go_meet
        exact hx
      · have hG := HG.out
        obtain ⟨sB1, sB2⟩ := give_stB hG
        have hmem := give_stands hG
        have hcnt := give_count hG
        have hiB1 := give_hiB hG
        obtain ⟨tl, hT, hnot⟩ := give_hist hG
        have hyl := giveL_yes hG
        have HKY := Lib.hid (show ∀ y ∈ giveL xs z s d n, y.expert.size ≤ 9223372036854775807 from fun y hy => by
          rw [hyl] at hy
          rcases List.mem_append.1 hy with h | h
          · exact HK1.out y h
          · simp at h; subst h; simp only; omega)
        have hyln : (giveL xs z s d n).length = xs.length + 1 := by rw [hyl]; simp
        have HL := Lib.hid hyln
        have hyln2 : (giveL xs z s d n).length ≤ 101 := by omega
        clear hG hyl HG hyln
        generalize giveL xs z s d n = ys at *
        have hlA := stV_len (xs := xs) (z := z) (d := d) (by omega)
        have hlB := stV_len (xs := ys) (z := z) (d := d) (by omega)
        go_wp2_with fail
        refine (implStanding_c xs _ _ z d _ hr1 (by omega) HK1.out (by omega) (by omega)).mono ?_
        rw [sB1]
        rintro e w5 ⟨R5, c5, rfl, hb5, q5⟩
        have hx := below_step hx hb5
        have hr1 := hr1.go hb5
        have q2 := q2.go hb5
        go_wp2_with fail
        refine (implStanding_c ys _ _ z d _ q2.rd (by omega) HKY.out (by omega) (by omega)).mono ?_
        rw [sB2]
        rintro e w6 ⟨R6, c6, rfl, hb6, q6⟩
        have hx := below_step hx hb6
        have hr1 := hr1.go hb6
        have q2 := q2.go hb6
        have q5 := q5.go hb6
        clear sB1 sB2 hb5 hb6
        generalize stV xs z d = L1 at *
        generalize stV ys z d = L2 at *
        have HC := Lib.hid hcnt
        have hgt : decide ((L1.length : Int) + 1 < (L2.length : Int)) = false := decide_eq_false (by omega)
        have hgt2 : ¬ (L1.length : Int) + 1 < (L2.length : Int) := by omega
        go_wp2_with fail
        refine (rHas_c L2 _ _ _ _ q6.rd hlB).mono ?_
        rw [decide_eq_true hmem]
        rintro e w7 ⟨rfl, hb7⟩
        have hx := below_step hx hb7
        have q2 := q2.go hb7
        have q6 := q6.go hb7
        clear q5 hr1 hb7
        go_wp2_with fail
        refine (implHistoryOf_c ys _ _ (xs.length : Int) _ q2.rd (by omega) HKY.out (by omega)).mono ?_
        rw [hiB1, hT]
        rintro e w8 ⟨R8, c8, rfl, hb8, q8⟩
        have hx := below_step hx hb8
        have q6 := q6.go hb8
        clear q2 hb8 hT hiB1
        have hp8 : 0 < ((xs.length : Int) :: tl).length := by simp
        obtain ⟨bh, oh, hAe, hbh, k0⟩ := q8.rd.int (i := 0) hp8
        subst hAe
        simp only [Nat.add_zero, List.getElem_cons_zero] at k0
        cases tl with
        | nil =>
          simp only [List.length_cons, List.length_nil] at *
          go_wp2_with fail
          go_meet
          exact hx
        | cons v r =>
          have hnv := hnot v r rfl
          have hp9 : 1 < ((xs.length : Int) :: v :: r).length := by simp
          obtain ⟨bh', oh', hAe, _, k1⟩ := q8.rd.int (i := 1) hp9
          obtain ⟨rfl, rfl⟩ := addr_eq hAe
          simp only [List.getElem_cons_succ, List.getElem_cons_zero] at k1
          have hln : ((xs.length : Int) :: v :: r).length = r.length + 2 := by simp
          rw [hln] at *
          have hgt3 : decide ((1 : Int) < (r.length : Int) + 2) = true := decide_eq_true (by omega)
          have hgt4 : (1 : Int) < (r.length : Int) + 2 := by omega
          have hgt5 : ¬ (r.length : Int) + 2 ≤ 1 := by omega
          go_wp2_with fail
          refine (rHas_c L2 _ _ _ _ q6.rd hlB).mono ?_
          rw [decide_eq_false hnv]
          rintro e w9 ⟨rfl, hb9⟩
          have hx := below_step hx hb9
          go_wp2_with fail
          go_meet
          exact hx
    case rest =>
      clear hx hr1 q2 HG HK1 hl1 hz hs hdd hnn hgl
      have hx : Below w.heap.size w wc := hcut
      clear hcut
      go_wp2_with fail
      refine (drawHistoryOf_c bs _ _ _ (hr.go hx) hn hc HB.out).mono ?_
      rintro e w5 ⟨B5, c5, ys, i0, rfl, hl5, hok5, hi5, ho5, hb5⟩
      have HK5 := Lib.hid (okO_w hok5)
      clear hok5
      have hx := below_step hx hb5
      have hr5 := ho5.rd
      clear hb5 ho5
      go_wp2_with fail
      refine (implHistoryOf_c ys _ _ i0 _ hr5 (by omega) HK5.out (by omega)).mono ?_
      rintro e w6 ⟨R6, c6, rfl, hb6, q6⟩
      have hx := below_step hx hb6
      have hr5 := hr5.go hb6
      go_wp2_with fail
      refine (specHistoryOf_c ys _ _ i0 _ hr5 (by omega) HK5.out (by omega)).mono ?_
      rintro e w7 ⟨R7, c7, rfl, hb7, q7⟩
      have hx := below_step hx hb7
      have hr5 := hr5.go hb7
      have q6 := q6.go hb7
      have hl6 := hiV_len (xs := ys) (z := i0) (by omega)
      have HV := Lib.hid (fun (k : Nat) (v : Int) (h : (hiV ys i0)[k]? = some v) => hiV_all h)
      generalize hiB ys i0 = G at *
      generalize hiV ys i0 = L at *
      clear hb6 hb7
      go_wp2_with fail
      refine (rInts_c L _ _ _ _ _ q6.rd q7.rd hl6).mono ?_
      rintro e w8 ⟨rfl, hb8⟩
      have hx := below_step hx hb8
      have hr5 := hr5.go hb8
      have q6 := q6.go hb8
      have hr6 := q6.rd
      clear q7 q6 hb8
      go_wp2_with fail
      go_loopw [24] (fun i wr => ∃ k : Nat, k ≤ L.length ∧ i = .int .i64 k ∧ Below w8.heap.size w8 wr) (fun i _ => L.length - (intOf i).toNat)
      case atStart => exact ⟨0, Nat.zero_le _, rfl, Below.refl _ _⟩
      case round =>
        obtain ⟨k, hk, rfl, hb⟩ := hrel
        by_cases hlt : k < L.length
        · obtain ⟨i, m, hi, hmm, hi0, hv, e0, e1, hdec⟩ := HV.out k L[k] (List.getElem?_eq_getElem hlt)
          have HD := Lib.hid hdec
          clear hdec
          subst hi0
          obtain ⟨bL, oL, hAe, hbL, k0⟩ := (hr6.below hb).int hlt
          subst hAe
          rw [hv] at k0
          have HD2 := Lib.hid hv
          clear hv
          obtain ⟨by_, oy, hAe, hby, m0, m1, m2, m3, m4⟩ := (hr5.below hb).atOpinion hmm
          subst hAe
          rw [e0] at m0
          rw [e1] at m1
          have hm1 : (0 : Int) ≤ (m : Int) := by omega
          have hm2 : (m : Int) < (ys.length : Int) := by omega
          have hi1 : (0 : Int) ≤ (i : Int) := by omega
          have hi2 : (i : Int) < (ys.length : Int) := by omega
          have hk1 : (0 : Int) ≤ (k : Int) := by omega
          have hk2 : (k : Int) < (L.length : Int) := by omega
          generalize hIT : ys[i].item = IT at *
          generalize hEX : ys[i].expert = EX at *
          go_upto_region 27 with fail
          have hW := New.of wr [.int .i64 IT, .string EX, .int .i64 ys[m].day, .int .i64 ys[m].says, .int .i64 ys[m].over] 39
          generalize wr.alloc (.cells #[.int .i64 IT, .string EX, .int .i64 ys[m].day, .int .i64 ys[m].says, .int .i64 ys[m].over] 39) = W at *
          obtain ⟨hWb, hWl, hWc⟩ := hW
          have x0 := hWc 0 _ rfl
          have x1 := hWc 1 _ rfl
          clear hWc m0 m1 m2 m3 m4 k0
          have hbW := hb.trans (hWb.mono hb.size)
          obtain ⟨hp, hhp⟩ : ∃ hp, wr.heap.size = hp := ⟨_, rfl⟩
          rw [hhp] at hWl x0 x1 ⊢
          clear hhp hWb hb
          obtain ⟨by2, oy2, hAe, hby, i0', i1', _, _, _⟩ := (hr5.below hbW).atOpinion hi
          obtain ⟨rfl, rfl⟩ := addr_eq hAe
          rw [hIT] at i0'
          rw [hEX] at i1'
          obtain ⟨bL2, oL2, hAe, hbL, k0⟩ := (hr6.below hbW).int hlt
          obtain ⟨rfl, rfl⟩ := addr_eq hAe
          rw [HD2.out] at k0
          have hbyW : by_ < W.heap.size := Nat.lt_of_lt_of_le hby hbW.size
          have hbLW : bL < W.heap.size := Nat.lt_of_lt_of_le hbL hbW.size
          have hov := over_cell W
          have hself : (IT != IT) = false := by simp
          by_cases hk0 : k = 0
          · have hkz : decide (0 < (k : Int)) = false := decide_eq_false (by omega)
            have hkz1 : decide (0 < k) = false := decide_eq_false (by omega)
            clear hk0 hAe
            refine wp_region_over (by kernel_rfl) (by kernel_rfl) ?_
            repeat (go_big_quiet_step (fail))
            refine wpQuiet_nil ?_
            intro _ hwx1
            obtain ⟨x1, hwx1⟩ := hwx1
            subst hwx1
            go_wp2_with fail
            go_roundw
            case rel => exact ⟨k + 1, by omega, by go_num, below_via hbW (over_below W x1)⟩
            case measure => simp [intOf]; omega
          · obtain ⟨j, hj⟩ : ∃ j, k = j + 1 := ⟨k - 1, by omega⟩
            have hjl : j < L.length := by omega
            obtain ⟨u, hu, huv⟩ := HD.out (by omega)
            have hkj : k - 1 = j := by omega
            rw [hkj, List.getElem?_eq_getElem hjl] at hu
            injection hu with hu
            obtain ⟨bL3, oL3, hAe, _, kj⟩ := (hr6.below hbW).int hjl
            obtain ⟨rfl, rfl⟩ := addr_eq hAe
            rw [hu] at kj
            rw [HD2.out] at huv
            have hkz : decide (0 < (k : Int)) = true := decide_eq_true (by omega)
            have hkz1 : decide (0 < k) = true := decide_eq_true (by omega)
            have hkz2 : 0 < k := by omega
            have hsub : IntKind.i64.wrap ((k : Int) - 1) = (j : Int) := by
              rw [IntWalk.i64_in _ (by omega)]; omega
            have hj0 : (0 : Int) ≤ j := by omega
            have hj1 : (j : Int) ≤ L.length := by omega
            have hj2 : (j : Int) < L.length := by omega
            have hdc : decide (u ≤ (m : Int)) = false := decide_eq_false (by omega)
            have hdc2 : ¬ u ≤ (m : Int) := by omega
            clear hk0 hj hkj huv hAe
            refine wp_region_over (by kernel_rfl) (by kernel_rfl) ?_
            repeat (go_big_quiet_step (fail))
            refine wpQuiet_nil ?_
            intro _ hwx1
            obtain ⟨x1, hwx1⟩ := hwx1
            subst hwx1
            go_wp2_with fail
            go_roundw
            case rel => exact ⟨k + 1, by omega, by go_num, below_via hbW (over_below W x1)⟩
            case measure => simp [intOf]; omega
        · have hx := below_step hx hb
          clear hr5 hr6 hb HV HK5
          go_wp2_with fail
          refine (drawStanding_c bs _ _ _ (hr.go hx) hn hc HB.out).mono ?_
          rintro e w9 ⟨B9, c9, us, z, d, rfl, hl9, hok9, hz9, hd9, ho9, hb9⟩
          have HK9 := Lib.hid (okO_w hok9)
          clear hok9
          have hx := below_step hx hb9
          have hr9 := ho9.rd
          clear hb9 ho9
          go_wp2_with fail
          refine (implStanding_c us _ _ z d _ hr9 (by omega) HK9.out (by omega) (by omega)).mono ?_
          rintro e w10 ⟨R10, c10, rfl, hb10, q10⟩
          have hx := below_step hx hb10
          have hr9 := hr9.go hb10
          go_wp2_with fail
          refine (specStanding_c us _ _ z d _ hr9 (by omega) HK9.out (by omega) (by omega)).mono ?_
          rintro e w11 ⟨R11, c11, rfl, hb11, q11⟩
          have hx := below_step hx hb11
          have hr9 := hr9.go hb11
          have q10 := q10.go hb11
          have hl10 := stV_len (xs := us) (z := z) (d := d) (by omega)
          generalize stV us z d = L2 at *
          generalize stB us z d = G2 at *
          clear hb10 hb11
          go_wp2_with fail
          refine (drawChangedMinds_c bs _ _ _ (hr.go hx) hn hc HB.out).mono ?_
          rintro e w12 ⟨B12, c12, vs, nm, rfl, hl12, hok12, hnm, ho12, hb12⟩
          have HK12 := Lib.hid (okO_w hok12)
          clear hok12
          have hx := below_step hx hb12
          have hr9 := hr9.go hb12
          have q10 := q10.go hb12
          have q11 := q11.go hb12
          have hr12 := ho12.rd
          clear hb12 ho12
          go_wp2_with fail
          refine (implChangedMinds_c vs _ _ nm _ hr12 (by omega) HK12.out (by omega)).mono ?_
          rintro e w13 ⟨rfl, hb13⟩
          have hx := below_step hx hb13
          have hr9 := hr9.go hb13
          have q10 := q10.go hb13
          have q11 := q11.go hb13
          have hr12 := hr12.go hb13
          go_wp2_with fail
          refine (specChangedMinds_c vs _ _ nm _ hr12 (by omega) HK12.out (by omega)).mono ?_
          rintro e w14 ⟨rfl, hb14⟩
          have hx := below_step hx hb14
          have hr9 := hr9.go hb14
          have q10 := q10.go hb14
          have q11 := q11.go hb14
          generalize mindV vs nm = mv at *
          generalize mindB vs nm = mb at *
          clear hr12 hb13 hb14
          go_wp2_with fail
          refine (rInts_c L2 _ _ _ _ _ q10.rd q11.rd hl10).mono ?_
          rintro e w15 ⟨rfl, hb15⟩
          have hx := below_step hx hb15
          have hr9 := hr9.go hb15
          clear q10 q11 hb15
          go_wp2_with fail
          refine (implAreOpinions_c us _ _ _ hr9 (by omega) HK9.out).mono ?_
          rintro e w16 ⟨rfl, hb16⟩
          have hx := below_step hx hb16
          have hr9 := hr9.go hb16
          go_wp2_with fail
          refine (specAreOpinions_c us _ _ _ hr9 (by omega) HK9.out).mono ?_
          rintro e w17 ⟨rfl, hb17⟩
          have hx := below_step hx hb17
          go_wp2_with fail
          go_returns
          exact ⟨ret_bool (by simp), hx⟩
end Go.Proofs.Ytfkdefmdnkfpfaa
