/- ItemsUnder: the reference's contract. No condition but the sizes. -/
import Derived.Test.YtehoocnhooemoaaAlPoS
import Derived.Test.YtehoocnhooemoaaAlItP
namespace Go.Proofs.Ytehoocnhooemoaa
set_option linter.unusedVariables false
set_option linter.unusedSimpArgs false
open Go.RowKit
attribute [local irreducible] wpQuiet
set_option maxRecDepth 100000 in
set_option maxHeartbeats 1600000 in
theorem specItemsUnder_c (xs : List Page) (A : Option Addr) (c : Nat) (z : Int) (w : World) (hr : RdP w.heap.size w A xs) (hcap : xs.length ≤ c) (hn : xs.length ≤ 1048576) (hs : sumI xs ≤ 1048576) (hw : ∀ x ∈ xs, x.title.size ≤ 9223372036854775807 ∧ x.items.length ≤ 9223372036854775807 ∧ ∀ z ∈ x.items, Fits z) (hz : -9223372036854775808 ≤ z ∧ z ≤ 9223372036854775807) :
    Calls Try.prog 15 #[.slice A xs.length c, .int .i64 z] w (RetL encI 1 (iuV xs z) (lvB xs z) w) := by
  have HW := Lib.hid hw
  clear hw
  by_cases hF : goodA xs = false
  · go_enter Try.func15, Try.ntmps15
    have hbg := (show Below w.heap.size w (w.alloc (.cells #[] 3)) by go_grown)
    have hbx := Below.refl (w.alloc (.cells #[] 3)).heap.size (w.alloc (.cells #[] 3))
    go_wp2_with fail
    refine (l18Good_c xs _ _ _ (hr.go hbg) hcap hn hs HW.out).mono ?_
    rintro e wg0 ⟨rfl, hb0⟩
    have hbg := below_via hbg hb0
    have hbx := below_via hbx hb0
    go_wp2_with fail
    go_returns
    have HB : lvB xs z = false := by simp [lvB, hF]
    exact ⟨_, _, ret_list (by rw [iuV_no HB]; rfl) HB.symm, hbg, Own.none_ (iuV_no HB) (Nat.le_refl _)⟩
  have G0 : goodA xs = true := by simpa using hF
  clear hF
  go_enter Try.func15, Try.ntmps15
  have hbg := (show Below w.heap.size w (w.alloc (.cells #[] 3)) by go_grown)
  have hbx := Below.refl (w.alloc (.cells #[] 3)).heap.size (w.alloc (.cells #[] 3))
  go_wp2_with fail
  refine (l18Good_c xs _ _ _ (hr.go hbg) hcap hn hs HW.out).mono ?_
  rintro e wg0 ⟨rfl, hb0⟩
  have hbg := below_via hbg hb0
  have hbx := below_via hbx hb0
  have HG := Lib.hid G0
  have hlen := goodA_len G0
  go_wp2_with fail
  clear G0
  refine (l18Find_c xs _ _ _ _ (hr.go hbg) hn).mono ?_
  rintro _ w1 ⟨rfl, hb1⟩
  have hbg := below_via hbg hb1
  rcases lv_of xs z HG.out with ⟨j, hj, hi, he, hB, hv⟩ | ⟨hi, hB, hv⟩
  · subst he
    rw [hi]
    have HB := Lib.hid hB
    have HP := Lib.hid (iuV_yes hB)
    clear hi hv hB
    have hj2 : ¬ (j : Int) < 0 := by omega
    go_wp2_with fail
    refine (l18Part_c xs _ _ j _ (hr.go hbg) HG.out hj).mono ?_
    rintro _ w2 ⟨B2, c2, rfl, hb2, ho2⟩
    have hP := ho2.rd
    have hpl := partK_len xs xs[j].id xs.length
    have hbg := below_via hbg hb2
    change (partA xs xs[j].id).length ≤ xs.length at hpl
    generalize partA xs xs[j].id = P at *
    clear ho2
    go_wp2_with fail
    go_loopw [6, 8] (fun u i wr => ∃ (k c' : Nat) (A' : Option Addr), k ≤ xs.length ∧ i = .int .i64 k ∧ u = .slice A' (puts (iuL xs P k)).length c' ∧ (puts (iuL xs P k)).length ≤ c' ∧ Own encI 1 w2.heap.size wr.heap.size wr A' (puts (iuL xs P k)) ∧ Below w2.heap.size w2 wr) (fun _ i _ => xs.length - (intOf i).toNat)
    case atStart => exact ⟨0, 0, _, Nat.zero_le _, rfl, rfl, Nat.le_refl _, Own.nil (Nat.le_refl _), Below.refl _ _⟩
    case round =>
      obtain ⟨k, c', A', hk, rfl, rfl, hcl, ho, hb⟩ := hrel
      have hul := iuL_len (P := P) hk
      have hsl := sumI_take_le xs k
      by_cases hlt : k < xs.length
      · have hil : xs[k].items.length ≤ 8 := (good_base HG.out hlt).2.2.2.1
        have hk0 : (0 : Int) ≤ (k : Int) := by omega
        have hk1 : (k : Int) < (xs.length : Int) := by omega
        by_cases hm : xs[k].id ∈ P
        · have HS := Lib.hid (iuL_yes hlt hm)
          have HD := Lib.hid (decide_eq_true hm)
          clear hm
          generalize iuL xs P k = L at *
          go_wp2_with fail
          go_loopw [6, 9] (fun u v wr3 => ∃ (m c3 : Nat) (A3 : Option Addr), m ≤ xs[k].items.length ∧ v = .int .i64 m ∧ u = .slice A3 (puts (L ++ xs[k].items.take m)).length c3 ∧ (puts (L ++ xs[k].items.take m)).length ≤ c3 ∧ Own encI 1 w2.heap.size wr3.heap.size wr3 A3 (puts (L ++ xs[k].items.take m)) ∧ Below w2.heap.size w2 wr3) (fun _ v _ => xs[k].items.length - (intOf v).toNat)
          case atStart => exact ⟨0, c', A', Nat.zero_le _, rfl, by simp, by simpa using hcl, by simpa using ho, hb⟩
          case round =>
            obtain ⟨m, c3, A3, hmi, rfl, rfl, hcl3, ho3, hb3⟩ := hrel
            clear ho hb hcl
            have hpl3 := puts_len (L ++ xs[k].items.take m)
            rw [List.length_append, List.length_take] at hpl3
            obtain ⟨b, off, Ai, ci, rfl, hbs, d0, d1, d2, d3, hci, hri⟩ := ((hr.go hbg).below hb3).page hlt
            by_cases hlm : m < xs[k].items.length
            · obtain ⟨bi, oi, rfl, hbis, g0⟩ := hri.int hlm
              have hm0 : (0 : Int) ≤ (m : Int) := by omega
              have hm1 : (m : Int) < (xs[k].items.length : Int) := by omega
              have HPS := Lib.hid (show puts (L ++ xs[k].items.take (m + 1)) = putI (puts (L ++ xs[k].items.take m)) (xs[k].items[m]) by rw [← puts_snoc, List.append_assoc, List.take_succ_eq_append_getElem hlm])
              generalize puts (L ++ xs[k].items.take m) = ys at *
              go_wp2_with fail
              refine (l1Has_c P _ _ _ _ (hP.go hb3) (by omega)).mono ?_
              rw [HD.out]
              rintro _ _ ⟨rfl, rfl⟩
              go_wp2_with fail
              refine (l1Put_c ys _ _ _ _ w2.heap.size _ ho3 hb3.size hcl3 (by omega)).mono ?_
              rintro _ w5 ⟨B5, c5, rfl, hb5, ho5, hc5⟩
              rw [← HPS.out] at ho5 hc5 ⊢
              have hbl := hb3.trans (hb5.mono hb3.size)
              go_wp2_with fail
              go_roundw
              case rel => exact ⟨m + 1, c5, B5, by omega, by go_num, rfl, hc5, ho5, hbl⟩
              case measure => simp [intOf]; omega
            · have hme : m = xs[k].items.length := by omega
              have HE := Lib.hid (show L ++ xs[k].items.take m = iuL xs P (k + 1) by rw [hme, List.take_length, HS.out])
              rw [HE.out] at ho3 hcl3
              go_wp2_with fail
              go_roundw
              case rel => exact ⟨k + 1, c3, A3, by omega, by go_num, by rw [HE.out], hcl3, ho3, hb3⟩
              case measure => simp [intOf]; omega
        · have HS := Lib.hid (iuL_no hlt hm)
          have HD := Lib.hid (decide_eq_false hm)
          clear hm
          generalize iuL xs P k = L at *
          go_wp2_with fail
          go_loopw [6, 9] (fun u v wr3 => v = .int .i64 0 ∧ u = .slice A' (puts L).length c' ∧ Own encI 1 w2.heap.size wr3.heap.size wr3 A' (puts L) ∧ Below w2.heap.size w2 wr3) (fun _ v _ => 0)
          case atStart => exact ⟨rfl, rfl, ho, hb⟩
          case round =>
            obtain ⟨rfl, rfl, ho3, hb3⟩ := hrel
            clear ho hb
            obtain ⟨b, off, Ai, ci, rfl, hbs, d0, d1, d2, d3, hci, hri⟩ := ((hr.go hbg).below hb3).page hlt
            by_cases hlm : 0 < xs[k].items.length
            · have hm1 : (0 : Int) < (xs[k].items.length : Int) := by omega
              go_wp2_with fail
              refine (l1Has_c P _ _ _ _ (hP.go hb3) (by omega)).mono ?_
              rw [HD.out]
              rintro _ _ ⟨rfl, rfl⟩
              go_wp2_with fail
              go_roundw
              case rel => exact ⟨k + 1, c', A', by omega, by go_num, by rw [HS.out], by rw [HS.out]; exact hcl, by rw [HS.out]; exact ho3, hb3⟩
              case measure => simp [intOf]; omega
            · go_wp2_with fail
              go_roundw
              case rel => exact ⟨k + 1, c', A', by omega, by go_num, by rw [HS.out], by rw [HS.out]; exact hcl, by rw [HS.out]; exact ho3, hb3⟩
              case measure => simp [intOf]; omega
      · have hke : k = xs.length := by omega
        have HE2 := Lib.hid (show puts (iuL xs P k) = iuV xs xs[j].id by rw [hke]; exact HP.out.symm)
        go_wp2_with fail
        go_returns
        exact ⟨A', c', ret_list (by rw [HE2.out]) HB.out.symm, hbg.trans (hb.mono hbg.size), (ho.cast HE2.out).wide hbg.size (Nat.le_refl _) (Nat.le_refl _)⟩
  · rw [hi]
    have HB := Lib.hid hB
    have HP := Lib.hid (iuV_no hB)
    clear hi hv hB
    go_wp2_with fail
    go_returns
    exact ⟨_, _, ret_list (by rw [HP.out]; rfl) HB.out.symm, hbg, Own.none_ HP.out (Nat.le_refl _)⟩
end Go.Proofs.Ytehoocnhooemoaa
