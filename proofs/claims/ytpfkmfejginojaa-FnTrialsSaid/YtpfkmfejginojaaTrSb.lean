/- l16Best: the reference's search over all sets of trials. No condition but the sizes. -/
import Derived.Test.YtpfkmfejginojaaTrSp
namespace Go.Proofs.Ytpfkmfejginojaa
set_option linter.unusedVariables false
set_option linter.unusedSimpArgs false
open Go.RowKit
attribute [local irreducible] wpQuiet
def cheapL (xs : List Trial) (a b : List Int) : Bool := decide (priceL xs a < priceL xs b) || (decide (priceL xs a = priceL xs b) && beforeL a b)
/-- The call returns the best trials, their prices, and whether there are some. -/
def RetBest (xs : List Trial) (b : List Int × Bool) (w : World) (e : Ending) (w' : World) : Prop := ∃ B c', e = .returned (.tuple #[.slice B b.1.length c', .int .i64 (priceL xs b.1), .bool b.2]) ∧ Below w.heap.size w w' ∧ Own encI 1 w.heap.size w'.heap.size w' B b.1
set_option maxRecDepth 100000 in
set_option maxHeartbeats 1600000 in
theorem l16BestF_c (xs : List Trial) (A : Option Addr) (c : Nat) (o : Odds) (num den : Int) (w : World) (hr : Rd encTrial 3 w.heap.size w A xs) (hg : goodT xs = true) (ho : isOd o.real o.fake = true) (h1 : 1 ≤ num) (h2 : num ≤ den) (h3 : den ≤ 1000) :
    Calls Try.prog 29 #[.slice A xs.length c, .agg #[.int .i64 o.real, .int .i64 o.fake], .int .i64 num, .int .i64 den, .bool false] w (RetBest xs (bestG xs o num den beforeL (2 ^ xs.length)) w) := by
  have hlen := good_len hg
  have HG := Lib.hid hg
  have hod := isOd_upto ho
  have HO := Lib.hid (oddsS_upto (o := o) hod (fun i h => good_all hg h))
  have HP := Lib.hid (fun l => priceL_bd (fun i h => good_all hg h) l)
  clear hg ho
  have hpw := pow_wrap hlen
  have hN := pow_le hlen
  generalize hNN : 2 ^ xs.length = N at *
  clear hNN
  have hbA : Below w.heap.size w ((w.alloc (.cells #[.int .i64 o.real, .int .i64 o.fake] 31)).alloc (.cells #[] 3)) := by go_grown
  have p0 : ((w.alloc (.cells #[.int .i64 o.real, .int .i64 o.fake] 31)).alloc (.cells #[] 3)).cell? ⟨w.heap.size, 0, none⟩ = some (.int .i64 o.real) := by simp [go_sem]
  have p1 : ((w.alloc (.cells #[.int .i64 o.real, .int .i64 o.fake] 31)).alloc (.cells #[] 3)).cell? ⟨w.heap.size, 1, none⟩ = some (.int .i64 o.fake) := by simp [go_sem]
  have hsA : w.heap.size < ((w.alloc (.cells #[.int .i64 o.real, .int .i64 o.fake] 31)).alloc (.cells #[] 3)).heap.size := by simp; omega
  go_enter Try.func29, Try.ntmps29
  go_wp2_with fail
  have hs2 : w.heap.size + 1 = w.heap.size + 1 := rfl
  generalize (w.alloc (.cells #[.int .i64 o.real, .int .i64 o.fake] 31)).alloc (.cells #[] 3) = W0 at *
  clear hs2
  go_loopw [13, 14, 15, 16] (fun u l f v wr => ∃ s : Nat, s ≤ N ∧ v = .int .i64 s ∧ l = .int .i64 (priceL xs (bestG xs o num den beforeL s).1) ∧ f = .bool (bestG xs o num den beforeL s).2 ∧ (∃ A' c', u = .slice A' (bestG xs o num den beforeL s).1.length c' ∧ Own encI 1 W0.heap.size wr.heap.size wr A' (bestG xs o num den beforeL s).1) ∧ Below W0.heap.size W0 wr) (fun _ _ _ v _ => N - (intOf v).toNat)
  case atStart => exact ⟨0, Nat.zero_le _, rfl, rfl, rfl, ⟨_, _, rfl, Own.nil (Nat.le_refl _)⟩, Below.refl _ _⟩
  case round =>
    obtain ⟨s, hs, rfl, rfl, rfl, ⟨Ab, cb, rfl, hob⟩, hb⟩ := hrel
    have hbl := bestG_len (xs := xs) (o := o) (num := num) (den := den) (lt := beforeL) s
    by_cases hlt : s < N
    · have HY := Lib.hid (fun h => bestG_yes (xs := xs) (o := o) (num := num) (den := den) (lt := beforeL) (s := s) h)
      have HNo := Lib.hid (fun h => bestG_no (xs := xs) (o := o) (num := num) (den := den) (lt := beforeL) (s := s) h)
      have hpb1 := (HP.out (bestG xs o num den beforeL s).1).1
      have hpb2 := (HP.out (bestG xs o num den beforeL s).1).2
      generalize bestG xs o num den beforeL s = BF at *
      obtain ⟨B, f⟩ := BF
      simp only at HY HNo hbl hob hpb1 hpb2 ⊢
      have q0 := (hb.cell (p := ⟨w.heap.size, 0, none⟩) hsA).trans p0
      have q1 := (hb.cell (p := ⟨w.heap.size, 1, none⟩) hsA).trans p1
      obtain ⟨u1, u2, u3, u4⟩ := upto6 (HO.out s xs.length (Nat.le_refl _)) hlen
      have hwl := whichK_len s xs.length
      have hpw1 := (HP.out (whichK s xs.length)).1
      have hpw2 := (HP.out (whichK s xs.length)).2
      have hpo : priceL xs B = priceL xs B := rfl
      go_wp2_with fail
      refine (l16Some_c xs _ _ o s _ (((hr.go hbA).below hb).more hb.size) HG.out hod (by omega)).mono ?_
      rintro _ w2 ⟨B2, c2, rfl, hb2, ho2⟩
      have hobr := hob.go hb2
      have hbg := hb.trans (hb2.mono hb.size)
      generalize whichK s xs.length = wk at *
      generalize oddsS xs o s xs.length = od at *
      have m1 : 0 ≤ od.real * den := Int.mul_nonneg (by omega) (by omega)
      have m2 : od.real * den ≤ 1000000000000000 * 1000 := Int.mul_le_mul u2 (by omega) (by omega) (by omega)
      have m3 : 0 ≤ num * (od.real + od.fake) := Int.mul_nonneg (by omega) (by omega)
      have m4 : num * (od.real + od.fake) ≤ 1000 * 2000000000000000 := Int.mul_le_mul (by omega) (by omega) (by omega) (by omega)
      have hen := enough_spec od num den
      have e0 : (w2.alloc (.cells #[.int .i64 od.real, .int .i64 od.fake] 31)).cell? ⟨w2.heap.size, 0, none⟩ = some (.int .i64 od.real) := by simp
      have e1 : (w2.alloc (.cells #[.int .i64 od.real, .int .i64 od.fake] 31)).cell? ⟨w2.heap.size, 1, none⟩ = some (.int .i64 od.fake) := by simp
      have hbx : Below w2.heap.size w2 (w2.alloc (.cells #[.int .i64 od.real, .int .i64 od.fake] 31)) := by go_grown
      go_upto_region 6 with fail
      generalize w2.alloc (.cells #[.int .i64 od.real, .int .i64 od.fake] 31) = W2 at *
      have ho2 := ho2.go hbx
      have hobr := hobr.go hbx
      have hbg := hbg.trans (hbx.mono hbg.size)
      have hsx := hbx.size
      have hso := hb2.size
      cases hE : enough od num den with
      | false =>
        rw [hE] at hen
        have HB := Lib.hid (HNo.out (by rw [hE]; rfl))
        clear hE HY HNo
        go_wp2_with fail
        go_roundw
        case rel => exact ⟨s + 1, by omega, by go_num, by rw [HB.out], by rw [HB.out], ⟨Ab, cb, by rw [HB.out], by rw [HB.out]; exact hobr.wide (Nat.le_refl _) (Nat.le_trans hso hsx) (Nat.le_refl _)⟩, hbg⟩
        case measure => simp [intOf]; omega
      | true =>
        rw [hE] at hen
        cases f with
        | false =>
          have HB := Lib.hid (HY.out (by rw [hE]; rfl))
          clear hE HY HNo
          go_wp2_with fail
          go_roundw
          case rel => exact ⟨s + 1, by omega, by go_num, by rw [HB.out], by rw [HB.out], ⟨B2, c2, by rw [HB.out], by rw [HB.out]; exact ho2.wide hb.size hsx (Nat.le_refl _)⟩, hbg⟩
          case measure => simp [intOf]; omega
        | true =>
          go_wp2_with fail
          refine (l2Before_c wk B _ _ _ _ _ (ho2.rd) (hobr.rd) (by omega) (by omega)).mono ?_
          rintro _ w5 ⟨rfl, hb5⟩
          have ho5 := ho2.go hb5
          have hob5 := hobr.go hb5
          have hbg5 := hbg.trans (hb5.mono hbg.size)
          have hs5 := hb5.size
          cases hL : beforeL wk B with
          | true =>
            have HB := Lib.hid (HY.out (by rw [hE, hL]; rfl))
            clear hE HY HNo hL
            go_wp2_with fail
            go_roundw
            case rel => exact ⟨s + 1, by omega, by go_num, by rw [HB.out], by rw [HB.out], ⟨B2, c2, by rw [HB.out], by rw [HB.out]; exact ho5.wide hb.size (Nat.le_trans hsx hs5) (Nat.le_refl _)⟩, hbg5⟩
            case measure => simp [intOf]; omega
          | false =>
            have HB := Lib.hid (HNo.out (by rw [hE, hL]; rfl))
            clear hE HY HNo hL
            go_wp2_with fail
            go_roundw
            case rel => exact ⟨s + 1, by omega, by go_num, by rw [HB.out], by rw [HB.out], ⟨Ab, cb, by rw [HB.out], by rw [HB.out]; exact hob5.wide (Nat.le_refl _) (Nat.le_trans hso (Nat.le_trans hsx hs5)) (Nat.le_refl _)⟩, hbg5⟩
            case measure => simp [intOf]; omega
    · have hse : s = N := by omega
      subst hse
      go_wp2_with fail
      go_returns
      exact ⟨Ab, cb, rfl, hbA.trans (hb.mono hbA.size), hob.wide hbA.size (Nat.le_refl _) (Nat.le_refl _)⟩
set_option maxRecDepth 100000 in
set_option maxHeartbeats 1600000 in
theorem l16BestC_c (xs : List Trial) (A : Option Addr) (c : Nat) (o : Odds) (num den : Int) (w : World) (hr : Rd encTrial 3 w.heap.size w A xs) (hg : goodT xs = true) (ho : isOd o.real o.fake = true) (h1 : 1 ≤ num) (h2 : num ≤ den) (h3 : den ≤ 1000) :
    Calls Try.prog 29 #[.slice A xs.length c, .agg #[.int .i64 o.real, .int .i64 o.fake], .int .i64 num, .int .i64 den, .bool true] w (RetBest xs (bestG xs o num den (cheapL xs) (2 ^ xs.length)) w) := by
  have hlen := good_len hg
  have HG := Lib.hid hg
  have hod := isOd_upto ho
  have HO := Lib.hid (oddsS_upto (o := o) hod (fun i h => good_all hg h))
  have HP := Lib.hid (fun l => priceL_bd (fun i h => good_all hg h) l)
  clear hg ho
  have hpw := pow_wrap hlen
  have hN := pow_le hlen
  generalize hNN : 2 ^ xs.length = N at *
  clear hNN
  have hbA : Below w.heap.size w ((w.alloc (.cells #[.int .i64 o.real, .int .i64 o.fake] 31)).alloc (.cells #[] 3)) := by go_grown
  have p0 : ((w.alloc (.cells #[.int .i64 o.real, .int .i64 o.fake] 31)).alloc (.cells #[] 3)).cell? ⟨w.heap.size, 0, none⟩ = some (.int .i64 o.real) := by simp [go_sem]
  have p1 : ((w.alloc (.cells #[.int .i64 o.real, .int .i64 o.fake] 31)).alloc (.cells #[] 3)).cell? ⟨w.heap.size, 1, none⟩ = some (.int .i64 o.fake) := by simp [go_sem]
  have hsA : w.heap.size < ((w.alloc (.cells #[.int .i64 o.real, .int .i64 o.fake] 31)).alloc (.cells #[] 3)).heap.size := by simp; omega
  go_enter Try.func29, Try.ntmps29
  go_wp2_with fail
  have hs2 : w.heap.size + 1 = w.heap.size + 1 := rfl
  generalize (w.alloc (.cells #[.int .i64 o.real, .int .i64 o.fake] 31)).alloc (.cells #[] 3) = W0 at *
  clear hs2
  go_loopw [13, 14, 15, 16] (fun u l f v wr => ∃ s : Nat, s ≤ N ∧ v = .int .i64 s ∧ l = .int .i64 (priceL xs (bestG xs o num den (cheapL xs) s).1) ∧ f = .bool (bestG xs o num den (cheapL xs) s).2 ∧ (∃ A' c', u = .slice A' (bestG xs o num den (cheapL xs) s).1.length c' ∧ Own encI 1 W0.heap.size wr.heap.size wr A' (bestG xs o num den (cheapL xs) s).1) ∧ Below W0.heap.size W0 wr) (fun _ _ _ v _ => N - (intOf v).toNat)
  case atStart => exact ⟨0, Nat.zero_le _, rfl, rfl, rfl, ⟨_, _, rfl, Own.nil (Nat.le_refl _)⟩, Below.refl _ _⟩
  case round =>
    obtain ⟨s, hs, rfl, rfl, rfl, ⟨Ab, cb, rfl, hob⟩, hb⟩ := hrel
    have hbl := bestG_len (xs := xs) (o := o) (num := num) (den := den) (lt := (cheapL xs)) s
    by_cases hlt : s < N
    · have HY := Lib.hid (fun h => bestG_yes (xs := xs) (o := o) (num := num) (den := den) (lt := (cheapL xs)) (s := s) h)
      have HNo := Lib.hid (fun h => bestG_no (xs := xs) (o := o) (num := num) (den := den) (lt := (cheapL xs)) (s := s) h)
      have hpb1 := (HP.out (bestG xs o num den (cheapL xs) s).1).1
      have hpb2 := (HP.out (bestG xs o num den (cheapL xs) s).1).2
      generalize bestG xs o num den (cheapL xs) s = BF at *
      obtain ⟨B, f⟩ := BF
      simp only at HY HNo hbl hob hpb1 hpb2 ⊢
      have q0 := (hb.cell (p := ⟨w.heap.size, 0, none⟩) hsA).trans p0
      have q1 := (hb.cell (p := ⟨w.heap.size, 1, none⟩) hsA).trans p1
      obtain ⟨u1, u2, u3, u4⟩ := upto6 (HO.out s xs.length (Nat.le_refl _)) hlen
      have hwl := whichK_len s xs.length
      have hpw1 := (HP.out (whichK s xs.length)).1
      have hpw2 := (HP.out (whichK s xs.length)).2
      have hpo : priceL xs B = priceL xs B := rfl
      go_wp2_with fail
      refine (l16Some_c xs _ _ o s _ (((hr.go hbA).below hb).more hb.size) HG.out hod (by omega)).mono ?_
      rintro _ w2 ⟨B2, c2, rfl, hb2, ho2⟩
      have hobr := hob.go hb2
      have hbg := hb.trans (hb2.mono hb.size)
      generalize whichK s xs.length = wk at *
      generalize oddsS xs o s xs.length = od at *
      have m1 : 0 ≤ od.real * den := Int.mul_nonneg (by omega) (by omega)
      have m2 : od.real * den ≤ 1000000000000000 * 1000 := Int.mul_le_mul u2 (by omega) (by omega) (by omega)
      have m3 : 0 ≤ num * (od.real + od.fake) := Int.mul_nonneg (by omega) (by omega)
      have m4 : num * (od.real + od.fake) ≤ 1000 * 2000000000000000 := Int.mul_le_mul (by omega) (by omega) (by omega) (by omega)
      have hen := enough_spec od num den
      have e0 : (w2.alloc (.cells #[.int .i64 od.real, .int .i64 od.fake] 31)).cell? ⟨w2.heap.size, 0, none⟩ = some (.int .i64 od.real) := by simp
      have e1 : (w2.alloc (.cells #[.int .i64 od.real, .int .i64 od.fake] 31)).cell? ⟨w2.heap.size, 1, none⟩ = some (.int .i64 od.fake) := by simp
      have hbx : Below w2.heap.size w2 (w2.alloc (.cells #[.int .i64 od.real, .int .i64 od.fake] 31)) := by go_grown
      go_upto_region 6 with fail
      generalize w2.alloc (.cells #[.int .i64 od.real, .int .i64 od.fake] 31) = W2 at *
      have ho2 := ho2.go hbx
      have hobr := hobr.go hbx
      have hbg := hbg.trans (hbx.mono hbg.size)
      have hsx := hbx.size
      have hso := hb2.size
      cases hE : enough od num den with
      | false =>
        rw [hE] at hen
        have HB := Lib.hid (HNo.out (by rw [hE]; rfl))
        clear hE HY HNo
        go_wp2_with fail
        go_roundw
        case rel => exact ⟨s + 1, by omega, by go_num, by rw [HB.out], by rw [HB.out], ⟨Ab, cb, by rw [HB.out], by rw [HB.out]; exact hobr.wide (Nat.le_refl _) (Nat.le_trans hso hsx) (Nat.le_refl _)⟩, hbg⟩
        case measure => simp [intOf]; omega
      | true =>
        rw [hE] at hen
        cases f with
        | false =>
          have HB := Lib.hid (HY.out (by rw [hE]; rfl))
          clear hE HY HNo
          go_wp2_with fail
          go_roundw
          case rel => exact ⟨s + 1, by omega, by go_num, by rw [HB.out], by rw [HB.out], ⟨B2, c2, by rw [HB.out], by rw [HB.out]; exact ho2.wide hb.size hsx (Nat.le_refl _)⟩, hbg⟩
          case measure => simp [intOf]; omega
        | true =>
          go_wp2_with fail
          refine (l2Before_c wk B _ _ _ _ _ (ho2.rd) (hobr.rd) (by omega) (by omega)).mono ?_
          rintro _ w5 ⟨rfl, hb5⟩
          have ho5 := ho2.go hb5
          have hob5 := hobr.go hb5
          have hbg5 := hbg.trans (hb5.mono hbg.size)
          have hs5 := hb5.size
          have hbef : ∃ r, beforeL wk B = r := ⟨_, rfl⟩
          obtain ⟨r1, hr1⟩ := hbef
          rw [hr1]
          by_cases hpl : priceL xs wk < priceL xs B
          · have HB := Lib.hid (HY.out (by rw [hE]; simp [cheapL, hpl]))
            clear hE HY HNo
            go_wp2_with fail
            go_roundw
            case rel => exact ⟨s + 1, by omega, by go_num, by rw [HB.out], by rw [HB.out], ⟨B2, c2, by rw [HB.out], by rw [HB.out]; exact ho5.wide hb.size (Nat.le_trans hsx hs5) (Nat.le_refl _)⟩, hbg5⟩
            case measure => simp [intOf]; omega
          · by_cases hpe : priceL xs wk = priceL xs B
            · have hpe' : (priceL xs wk == priceL xs B) = true := by simpa using hpe
              have HCH := Lib.hid (show cheapL xs wk B = beforeL wk B by simp [cheapL, hpe])
              clear hpe
              go_wp2_with fail
              refine (l2Before_c wk B _ _ _ _ _ (ho5.rd) (hob5.rd) (by omega) (by omega)).mono ?_
              rintro _ w6 ⟨rfl, hb6⟩
              have ho6 := ho5.go hb6
              have hob6 := hob5.go hb6
              have hbg6 := hbg5.trans (hb6.mono hbg5.size)
              have hs6 := hb6.size
              rw [hr1]
              cases hL : r1 with
              | true =>
                have HB := Lib.hid (HY.out (by rw [hE, HCH.out, hr1, hL]; rfl))
                clear hE HY HNo
                rw [hL] at hr1
                clear hL hr1
                go_wp2_with fail
                go_roundw
                case rel => exact ⟨s + 1, by omega, by go_num, by rw [HB.out], by rw [HB.out], ⟨B2, c2, by rw [HB.out], by rw [HB.out]; exact ho6.wide hb.size (Nat.le_trans hsx (Nat.le_trans hs5 hs6)) (Nat.le_refl _)⟩, hbg6⟩
                case measure => simp [intOf]; omega
              | false =>
                have HB := Lib.hid (HNo.out (by rw [hE, HCH.out, hr1, hL]; rfl))
                clear hE HY HNo
                rw [hL] at hr1
                clear hL hr1
                go_wp2_with fail
                go_roundw
                case rel => exact ⟨s + 1, by omega, by go_num, by rw [HB.out], by rw [HB.out], ⟨Ab, cb, by rw [HB.out], by rw [HB.out]; exact hob6.wide (Nat.le_refl _) (Nat.le_trans hso (Nat.le_trans hsx (Nat.le_trans hs5 hs6))) (Nat.le_refl _)⟩, hbg6⟩
                case measure => simp [intOf]; omega
            · have hpe' : (priceL xs wk == priceL xs B) = false := by simpa using hpe
              have HB := Lib.hid (HNo.out (by rw [hE]; simp [cheapL, hpl, hpe]))
              clear hE HY HNo hpe
              go_wp2_with fail
              go_roundw
              case rel => exact ⟨s + 1, by omega, by go_num, by rw [HB.out], by rw [HB.out], ⟨Ab, cb, by rw [HB.out], by rw [HB.out]; exact hob5.wide (Nat.le_refl _) (Nat.le_trans hso (Nat.le_trans hsx hs5)) (Nat.le_refl _)⟩, hbg5⟩
              case measure => simp [intOf]; omega
    · have hse : s = N := by omega
      subst hse
      go_wp2_with fail
      go_returns
      exact ⟨Ab, cb, rfl, hbA.trans (hb.mono hbA.size), hob.wide hbA.size (Nat.le_refl _) (Nat.le_refl _)⟩
end Go.Proofs.Ytpfkmfejginojaa
