/- The walk of the law FnTrials. No condition but that the code is one that can be. -/
import Derived.Test.YtpfkmfejginojaaTrFnP
import Derived.Test.YtpfkmfejginojaaVFn
import Derived.Test.YtpfkmfejginojaaTrDraw3
import Derived.Test.YtpfkmfejginojaaTrChance
import Derived.Test.YtpfkmfejginojaaTrMore2
import Derived.Deep.DeepCutAuto
namespace Go.Proofs.Ytpfkmfejginojaa
set_option linter.unusedVariables false
set_option linter.unusedSimpArgs false
open Go.RowKit
attribute [local irreducible] wpQuiet
theorem bestV_two (xs : List Trial) : ∃ (a : Int) (b : Bool), bestV xs = .tuple #[.int .i64 a, .bool b] := by
  unfold bestV; split
  · exact ⟨_, _, rfl⟩
  · exact ⟨_, _, rfl⟩
set_option maxRecDepth 100000 in
set_option maxHeartbeats 4000000 in
theorem lawFnTrials_c (bs : List Int) (A : Option Addr) (c : Nat) (w : World) (hr : Rd encY 1 w.heap.size w A bs) (hm : bs.length ≤ 9223372036854775807) (hc : bs.length ≤ c) (hb : ∀ b ∈ bs, ByteI b) :
    Calls Try.prog 5 #[.slice A bs.length c] w (Ret (.bool true) w) := by
  have HB := Lib.hid hb
  clear hb
  by_cases hbig : 65536 < bs.length
  · have hd : decide (65536 < bs.length) = true := decide_eq_true hbig
    go_enter Try.func5, Try.ntmps5
    go_wp2_with (go_at_call 18; refine (vBig_c _ _ _ _).mono ?_; rw [hd]; rintro e w' ⟨rfl, rfl⟩)
    go_returns
    exact ⟨rfl, Below.refl _ _⟩
  · have hd : decide (65536 < bs.length) = false := decide_eq_false hbig
    have hn : bs.length ≤ 65536 := by omega
    clear hbig
    go_enter Try.func5, Try.ntmps5
    go_wp2_with (go_at_call 18; refine (vBig_c _ _ _ _).mono ?_; rw [hd]; rintro e w' ⟨rfl, rfl⟩)
    refine (drawFewestTrials_c bs _ _ _ hr hn hc HB.out).mono ?_
    rintro e w1 ⟨B1, c1, xs, od, n, d, rfl, hl1, hnn, hdd, hok1, hod, ho1, hb1⟩
    clear hok1
    go_wp2_with fail
    have hbx := boxV_at (w1.heap.size + 1) w1 [.int .i64 od.real, .int .i64 od.fake] 31 (by omega)
    have hA := (Below.refl w1.heap.size w1).alloc (Nat.le_refl _) (.cells #[.int .i64 od.real, .int .i64 od.fake] 31)
    have hr1 := ho1.rd.go hA
    have hx := below_step hb1 hA
    have hps : w1.heap.size < (w1.alloc (.cells #[.int .i64 od.real, .int .i64 od.fake] 31)).heap.size := by simp
    simp only [List.toArray] at hbx
    have p0 := hbx.2.2.2 0 _ rfl
    have p1 := hbx.2.2.2 1 _ rfl
    clear hbx ho1 hb1 hA
    generalize w1.alloc (.cells #[.int .i64 od.real, .int .i64 od.fake] 31) = W at *
    generalize w1.heap.size = p at *
    refine (implFewestTrials_c xs _ _ od n d _ hr1 (by omega) (by omega) (by omega)).mono ?_
    rintro e w2 ⟨R2, c2, rfl, hb2, q2⟩
    have hx := below_step hx hb2
    have p0 := (hb2.cell (p := ⟨p, 0, none⟩) hps).trans p0
    have p1 := (hb2.cell (p := ⟨p, 1, none⟩) hps).trans p1
    have hps := Nat.lt_of_lt_of_le hps hb2.size
    have hr1 := hr1.go hb2
    go_wp2_with fail
    refine (specFewestTrials_c xs _ _ od n d _ hr1 (by omega) (by omega) (by omega)).mono ?_
    rintro e w3 ⟨R3, c3, rfl, hb3, q3⟩
    have hx := below_step hx hb3
    have p0 := (hb3.cell (p := ⟨p, 0, none⟩) hps).trans p0
    have p1 := (hb3.cell (p := ⟨p, 1, none⟩) hps).trans p1
    have hps := Nat.lt_of_lt_of_le hps hb3.size
    have hr1 := hr1.go hb3
    have q2 := q2.go hb3
    have hF := fwV_len xs od n d
    have hC := cpV_len xs od n d
    have hLW := Lib.hid (law_trials (xs := xs) (o := od) (num := n) (den := d))
    have hGT := Lib.hid (show fwB xs od n d = true → goodT xs = true from fun h => (ask_parts (by unfold fwB at h; simp only [Bool.and_eq_true] at h; exact h.1)).1)
    have HCI := fun (w : World) (h : Rd encTrial 3 w.heap.size w B1 xs) => implCheapestTrials_c xs B1 c1 od n d w h (by omega) (by omega) (by omega)
    have HCS := fun (w : World) (h : Rd encTrial 3 w.heap.size w B1 xs) => specCheapestTrials_c xs B1 c1 od n d w h (by omega) (by omega) (by omega)
    simp only [cpB_fwB] at HCI HCS
    have HCI := Lib.hid HCI
    have HCS := Lib.hid HCS
    generalize fwV xs od n d = F at *
    generalize cpV xs od n d = C at *
    generalize cpN xs od n d = N at *
    generalize fwB xs od n d = G at *
    go_wp2_with fail
    refine (vInts_c F _ _ _ _ _ q2.rd q3.rd hF).mono ?_
    rintro e w4 ⟨rfl, hb4⟩
    have hx := below_step hx hb4
    have hr1 := hr1.go hb4
    have q2 := q2.go hb4
    have p0 := (hb4.cell (p := ⟨p, 0, none⟩) hps).trans p0
    have p1 := (hb4.cell (p := ⟨p, 1, none⟩) hps).trans p1
    have hps := Nat.lt_of_lt_of_le hps hb4.size
    clear q3 hb2 hb3 hb4
    go_wp2_with fail
    refine (HCI.out _ hr1).mono ?_
    rintro e w5 ⟨R5, c5, rfl, hb5, q5⟩
    have hx := below_step hx hb5
    have p0 := (hb5.cell (p := ⟨p, 0, none⟩) hps).trans p0
    have p1 := (hb5.cell (p := ⟨p, 1, none⟩) hps).trans p1
    have hps := Nat.lt_of_lt_of_le hps hb5.size
    have hr1 := hr1.go hb5
    have q2 := q2.go hb5
    go_wp2_with fail
    refine (HCS.out _ hr1).mono ?_
    rintro e w6 ⟨R6, c6, rfl, hb6, q6⟩
    have hx := below_step hx hb6
    have p0 := (hb6.cell (p := ⟨p, 0, none⟩) hps).trans p0
    have p1 := (hb6.cell (p := ⟨p, 1, none⟩) hps).trans p1
    have hps := Nat.lt_of_lt_of_le hps hb6.size
    have hr1 := hr1.go hb6
    have q2 := q2.go hb6
    have q5 := q5.go hb6
    go_wp2_with fail
    refine (vInts_c C _ _ _ _ _ q5.rd q6.rd hC).mono ?_
    rintro e w7 ⟨rfl, hb7⟩
    have hx := below_step hx hb7
    have hr1 := hr1.go hb7
    have q2 := q2.go hb7
    have q5 := q5.go hb7
    clear q6 hb5 hb6 hb7 p0 p1 hps HCI HCS
    have hrF := q2.rd
    have hrC := q5.rd
    clear q2 q5
    go_upto_if 105 with fail
    go_cut [] (fun wx => Below w.heap.size w wx)
    case first =>
      cases G
      · go_wp2_with fail
        go_meet
        exact hx
      · have hgd := hGT.out rfl
        obtain ⟨l1, l2, l3⟩ := hLW.out rfl
        have hl6 := good_len hgd
        have HG := Lib.hid (fun (i : Nat) (h : i < xs.length) => good_all hgd h)
        have HS := Lib.hid (And.intro l2 l3)
        clear hGT hLW hgd l2 l3
        go_wp2_with fail
        go_loopw [17, 18, 19] (fun a b i wr => ∃ k : Nat, k ≤ xs.length ∧ i = .int .i64 k ∧ a = .int .i64 (sumP xs F k) ∧ b = .int .i64 (sumP xs C k) ∧ Below w7.heap.size w7 wr) (fun _ _ i _ => xs.length - (intOf i).toNat)
        case atStart => exact ⟨0, Nat.zero_le _, rfl, rfl, rfl, Below.refl _ _⟩
        case round =>
          obtain ⟨k, hk, rfl, rfl, rfl, hb⟩ := hrel
          have e1 := sumP_bd HG.out F k hk
          have e2 := sumP_bd HG.out C k hk
          by_cases hlt : k < xs.length
          · obtain ⟨bT, oT, rfl, hbT, d0, d1, d2⟩ := (hr1.go hb).atTrial hlt
            have hbd := ok_bd (HG.out k hlt)
            have F1 := Lib.hid (fun h => sumP_yes (xs := xs) (w := F) hlt h)
            have F2 := Lib.hid (fun h => sumP_no (xs := xs) (w := F) (k := k) h)
            have C1 := Lib.hid (fun h => sumP_yes (xs := xs) (w := C) hlt h)
            have C2 := Lib.hid (fun h => sumP_no (xs := xs) (w := C) (k := k) h)
            generalize xs[k].price = pr at *
            generalize sumP xs F k = sF at *
            generalize sumP xs C k = sC at *
            have hk0 : (0 : Int) ≤ (k : Int) := by omega
            have wF : IntKind.i64.wrap (sF + pr) = sF + pr := IntWalk.i64_in _ (by omega)
            have wC : IntKind.i64.wrap (sC + pr) = sC + pr := IntWalk.i64_in _ (by omega)
            clear d0 d1
            go_wp2_with fail
            refine (vHas_c F _ _ _ _ (hrF.go hb) hF).mono ?_
            rintro e w8 ⟨rfl, hb8⟩
            have hb := hb.trans (hb8.mono hb.size)
            have d2 := (hb8.cell (p := ⟨bT, oT + k * 3 + 2, none⟩) hbT).trans d2
            have hbT := Nat.lt_of_lt_of_le hbT hb8.size
            by_cases m1 : (k : Int) ∈ F
            · have n1 := Lib.hid (F1.out m1)
              rw [decide_eq_true m1]
              clear F1 F2 m1 hb8
              go_wp2_with fail
              refine (vHas_c C _ _ _ _ (hrC.go hb) hC).mono ?_
              rintro e w9 ⟨rfl, hb9⟩
              have hb := hb.trans (hb9.mono hb.size)
              have d2 := (hb9.cell (p := ⟨bT, oT + k * 3 + 2, none⟩) hbT).trans d2
              by_cases m2 : (k : Int) ∈ C
              · have n2 := Lib.hid (C1.out m2)
                rw [decide_eq_true m2]
                clear C1 C2 m2 hb9
                go_wp2_with fail
                go_roundw
                case rel => exact ⟨k + 1, by omega, by go_num, vi n1.out.symm, vi n2.out.symm, hb⟩
                case measure => simp [intOf]; omega
              · have n2 := Lib.hid (C2.out m2)
                rw [decide_eq_false m2]
                clear C1 C2 m2 hb9
                go_wp2_with fail
                go_roundw
                case rel => exact ⟨k + 1, by omega, by go_num, vi n1.out.symm, vi n2.out.symm, hb⟩
                case measure => simp [intOf]; omega
            · have n1 := Lib.hid (F2.out m1)
              rw [decide_eq_false m1]
              clear F1 F2 m1 hb8
              go_wp2_with fail
              refine (vHas_c C _ _ _ _ (hrC.go hb) hC).mono ?_
              rintro e w9 ⟨rfl, hb9⟩
              have hb := hb.trans (hb9.mono hb.size)
              have d2 := (hb9.cell (p := ⟨bT, oT + k * 3 + 2, none⟩) hbT).trans d2
              by_cases m2 : (k : Int) ∈ C
              · have n2 := Lib.hid (C1.out m2)
                rw [decide_eq_true m2]
                clear C1 C2 m2 hb9
                go_wp2_with fail
                go_roundw
                case rel => exact ⟨k + 1, by omega, by go_num, vi n1.out.symm, vi n2.out.symm, hb⟩
                case measure => simp [intOf]; omega
              · have n2 := Lib.hid (C2.out m2)
                rw [decide_eq_false m2]
                clear C1 C2 m2 hb9
                go_wp2_with fail
                go_roundw
                case rel => exact ⟨k + 1, by omega, by go_num, vi n1.out.symm, vi n2.out.symm, hb⟩
                case measure => simp [intOf]; omega
          · have hkk : k = xs.length := by omega
            subst hkk
            have hx := below_step hx hb
            obtain ⟨l2, l3⟩ := HS.out
            generalize sumP xs F xs.length = sF at *
            generalize sumP xs C xs.length = sC at *
            have t1 : decide ((C.length : Int) < F.length) = false := decide_eq_false (by omega)
            have t2 : decide (sF < N) = false := decide_eq_false (by omega)
            clear HS hb hr1 hrF hrC
            subst l3
            go_wp2_with fail
            go_meet
            exact hx
    case rest =>
      clear hx hr1 hrF hrC hLW hGT hl1 hnn hdd hod hF hC
      have hx : Below w.heap.size w wc := hcut
      clear hcut
      go_wp2_with fail
      refine (drawBestTrial_c bs _ _ _ (hr.go hx) hn hc HB.out).mono ?_
      rintro e w8 ⟨B8, c8, ys, rfl, hl8, _, ho8, hb8⟩
      have hx := below_step hx hb8
      have hr8 := ho8.rd
      obtain ⟨ba, bb, hbv⟩ := bestV_two ys
      clear ho8 hb8
      go_wp2_with fail
      refine (implBestTrial_c ys _ _ _ hr8 (by omega)).mono ?_
      rw [hbv]
      rintro e w9 ⟨rfl, hb9⟩
      have hx := below_step hx hb9
      have hr8 := hr8.go hb9
      go_wp2_with fail
      refine (specBestTrial_c ys _ _ _ hr8 (by omega)).mono ?_
      rw [hbv]
      rintro e w10 ⟨rfl, hb10⟩
      have hx := below_step hx hb10
      clear hr8 hb9 hb10 hbv
      go_wp2_with fail
      refine (drawResultChance_c bs _ _ _ (hr.go hx) hn hc HB.out).mono ?_
      rintro e w11 ⟨B11, c11, us, ov, B12, c12, vs, rfl, hl11, hl12, _, _, ho11, ho12, hb11⟩
      have hx := below_step hx hb11
      go_wp2_with fail
      have hA := (Below.refl w11.heap.size w11).alloc (Nat.le_refl _) (.cells #[.int .i64 ov.real, .int .i64 ov.fake] 31)
      have hr1 := ho11.rd.go hA
      have hr2 := ho12.rd.go hA
      have hx := below_step hx hA
      have hbx := boxV_at (w11.heap.size + 1) w11 [.int .i64 ov.real, .int .i64 ov.fake] 31 (by omega)
      have hps : w11.heap.size < (w11.alloc (.cells #[.int .i64 ov.real, .int .i64 ov.fake] 31)).heap.size := by simp
      simp only [List.toArray] at hbx
      have p0 := hbx.2.2.2 0 _ rfl
      have p1 := hbx.2.2.2 1 _ rfl
      clear hbx ho11 ho12 hb11 hA
      generalize w11.alloc (.cells #[.int .i64 ov.real, .int .i64 ov.fake] 31) = W2 at *
      generalize w11.heap.size = p2 at *
      refine (implResultChance_c us _ _ ov vs _ _ _ hr1 (by omega) hr2 (by omega)).mono ?_
      rintro e w12 ⟨rfl, hb12⟩
      have hx := below_step hx hb12
      have hr1 := hr1.go hb12
      have hr2 := hr2.go hb12
      have p0 := (hb12.cell (p := ⟨p2, 0, none⟩) hps).trans p0
      have p1 := (hb12.cell (p := ⟨p2, 1, none⟩) hps).trans p1
      go_wp2_with fail
      refine (specResultChance_c us _ _ ov vs _ _ _ hr1 (by omega) hr2 (by omega)).mono ?_
      rintro e w13 ⟨rfl, hb13⟩
      have hx := below_step hx hb13
      generalize chV1 us ov vs = v1 at *
      generalize chV2 us ov vs = v2 at *
      generalize chOk us ov vs = v3 at *
      go_wp2_with fail
      go_returns
      exact ⟨ret_bool (by simp), hx⟩
end Go.Proofs.Ytpfkmfejginojaa
