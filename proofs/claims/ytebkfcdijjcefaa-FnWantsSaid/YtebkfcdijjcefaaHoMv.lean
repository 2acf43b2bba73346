/- Contract of moveItem: the program's function that moves one piece of an item. No condition but that the holds lie in order, that each is there at least once, and the sizes. -/
import Derived.Test.YtebkfcdijjcefaaHoBin2
import Derived.Test.YtebkfcdijjcefaaInsHold
import Derived.Test.YtebkfcdijjcefaaDelHold
import Derived.Test.YtebkfcdijjcefaaOwnR
import Derived.Deep.DeepCutAuto
namespace Go.Proofs.Ytebkfcdijjcefaa
set_option linter.unusedVariables false
set_option linter.unusedSimpArgs false
open Go.RowKit
attribute [local irreducible] wpQuiet
def mvH (xs : List Hold) (a b : ByteArray) (z : Int) : List Hold := incH (incH xs a z (-1)) b z 1
def mvV (xs : List Hold) (a b : ByteArray) (z : Int) : List Hold := if hasH xs a z = true then mvH xs a b z else []
theorem inc_at {xs : List Hold} {o : ByteArray} {z : Int} (h : hasH xs o z = true) (n : Int) : ∃ p : Nat, posH xs o z = p ∧ ∃ hl : p < xs.length, incH xs o z n = xs.take p ++ keepZ (xs[p].plus n) ++ xs.drop (p + 1) := by
  have hl := hasH_lt h
  refine ⟨_, rfl, hl, ?_⟩
  unfold hasH at h
  rw [List.getElem?_eq_getElem hl] at h
  unfold incH
  rw [List.getElem?_eq_getElem hl]
  simp only []
  rw [if_pos h]
theorem inc_no {xs : List Hold} {o : ByteArray} {z : Int} (h : hasH xs o z = false) (n : Int) : incH xs o z n = xs.take (posH xs o z) ++ [⟨o, z, n⟩] ++ xs.drop (posH xs o z) := by
  unfold hasH at h
  unfold incH
  cases hg : xs[posH xs o z]? with
  | none =>
    have hl : xs.length ≤ posH xs o z := List.getElem?_eq_none_iff.1 hg
    simp only []
    rw [List.take_of_length_le hl, List.drop_of_length_le hl, List.append_nil]
  | some x =>
    rw [hg] at h
    simp only [] at h ⊢
    rw [if_neg (by rw [h]; exact Bool.false_ne_true)]
theorem set_parts {xs : List Hold} {i : Nat} (h : i < xs.length) (x : Hold) : xs.set i x = xs.take i ++ [x] ++ xs.drop (i + 1) := by
  rw [List.set_eq_take_append_cons_drop, if_pos h]; simp
theorem delHold_l (ys : List Hold) (A : Option Addr) (cap L i lo : Nat) (w : World) (ho : OutR encHold 3 41 lo (.slice A L cap) ys w) (hL : ys.length = L) (hi : i < L) (hn : L ≤ 1048576) (hlo : lo ≤ w.heap.size) :
    Calls Try.prog 52 #[.slice A L cap, .int .i64 i, .int .i64 ((i : Int) + 1)] w (RetG encHold 3 41 lo (ys.take i ++ ys.drop (i + 1)) w) := by
  obtain ⟨n, rfl⟩ : ∃ n, L = n + 1 := ⟨L - 1, by omega⟩
  exact delHold_c ys A cap i n lo w ho hL hi (by omega) hlo
set_option maxRecDepth 100000 in
set_option maxHeartbeats 1600000 in
theorem moveItem_c (xs : List Hold) (A : Option Addr) (c : Nat) (a b : ByteArray) (z : Int) (w : World) (hr : Rd encHold 3 w.heap.size w A xs) (hs : OrdH xs) (hz : nzH xs) (hn : xs.length ≤ 100000) (hcb : ∀ x ∈ xs, x.count ≤ 1000000000) :
    Calls Try.prog 30 #[.slice A xs.length c, .string a, .string b, .int .i64 z] w (RetL encHold 3 (mvV xs a b z) (hasH xs a z) w) := by
  have HS := Lib.hid hs
  have HZ := Lib.hid hz
  have HB := Lib.hid hcb
  clear hs hz hcb
  by_cases hh : hasH xs a z = true
  · obtain ⟨p, hP, hp, hinc⟩ := inc_at hh (-1)
    have HMV := Lib.hid (show mvV xs a b z = incH (incH xs a z (-1)) b z 1 by simp [mvV, hh, mvH])
    have HOI := Lib.hid (ord_inc HS.out a z (-1))
    have HNZ := Lib.hid (nz_inc HS.out HZ.out (o := a) (z := z) (n := -1) (by have := has_cnt HS.out HZ.out a z; rw [hh] at this; have := of_decide_eq_true this.symm; omega) (.inl hh))
    have HLI := Lib.hid (len_inc_le HS.out a z (-1))
    obtain ⟨X, hX⟩ : ∃ X, xs[p] = X := ⟨_, rfl⟩
    have k1 : 1 ≤ X.count := by rw [← hX]; exact HZ.out _ (List.getElem_mem hp)
    have k2 : X.count ≤ 1000000000 := by rw [← hX]; exact HB.out _ (List.getElem_mem hp)
    have hBY : ∀ y ∈ incH xs a z (-1), y.count ≤ 1000000000 := by
      rw [hinc]
      intro y hy
      rw [List.mem_append, List.mem_append] at hy
      rcases hy with (hy | hy) | hy
      · exact HB.out y (List.mem_of_mem_take hy)
      · unfold keepZ at hy
        split at hy
        · cases hy
        · obtain rfl : y = (xs[p]).plus (-1) := by simpa using hy
          have := HB.out _ (List.getElem_mem hp)
          show xs[p].count + -1 ≤ _
          omega
      · exact HB.out y (List.mem_of_mem_drop hy)
    have HBY := Lib.hid hBY
    have HI1 := Lib.hid (show X.count = 1 → (xs.set p (X.plus (-1))).take p ++ (xs.set p (X.plus (-1))).drop (p + 1) = incH xs a z (-1) from fun h => by
      rw [hinc, hX]
      have : keepZ (X.plus (-1)) = [] := by unfold keepZ; rw [if_pos (by show X.count + -1 = 0; omega)]
      rw [this, List.append_nil, List.take_set_of_le (Nat.le_refl _), List.drop_set_of_lt (by omega)])
    have HI2 := Lib.hid (show X.count ≠ 1 → xs.set p (X.plus (-1)) = incH xs a z (-1) from fun h => by
      rw [hinc, hX]
      have : keepZ (X.plus (-1)) = [X.plus (-1)] := by unfold keepZ; rw [if_neg (by show ¬ X.count + -1 = 0; omega)]
      rw [this, set_parts hp])
    clear hBY hinc
    generalize incH xs a z (-1) = YS at *
    have HX := Lib.hid hX
    clear hX
    go_enter Try.func30, Try.ntmps30
    go_wp2_with fail
    refine (binO_c xs _ _ a z _ hr HS.out (by omega)).mono ?_
    rintro e w1 ⟨rfl, hb1⟩
    rw [hh, hP]
    go_wp2_with fail
    refine (cloneHold_c xs _ _ _ (hr.go hb1) (by omega)).mono ?_
    rintro e w2 ⟨A2, c2, rfl, ho2, hb2⟩
    obtain ⟨g, c3, hv, hcap, hlg, hgw, hfz, hcl⟩ := ho2.openedR encHold_len (by omega)
    injection hv with hv _ hv2
    subst hv hv2
    have d2 := hcl p X (by rw [List.getElem?_eq_getElem hp, HX.out]) 2 _ rfl
    have f2 := hfz (p * 3 + 2)
    have hi0 : (0 : Int) ≤ (p : Int) := by omega
    have hi1 : (p : Int) < (xs.length : Int) := by omega
    clear hcl hfz
    go_upto_region 6 with fail
    have ho3 := ho2.cellSetR (i := p) (j := 2) (m' := X.plus (-1)) (u := .int .i64 (X.count - 1)) encHold_len hp (by decide) (by rw [HX.out]; rfl)
    have e2 := World.cell?_setCell_same w2 ⟨g, p * 3 + 2, none⟩ (.int .i64 (X.count - 1)) d2
    have hb3 := hb2.setCell (p := ⟨g, p * 3 + 2, none⟩) hlg (.int .i64 (X.count - 1))
    clear d2 f2 ho2
    generalize w2.setCell ⟨g, p * 3 + 2, none⟩ (.int .i64 (X.count - 1)) = w3 at *
    have hsz := hb3.size
    go_upto_if 38 with fail
    go_cut [12] (fun v wx => OutR encHold 3 41 w1.heap.size v YS wx ∧ Below w1.heap.size w1 wx)
    case first =>
      by_cases hK : X.count = 1
      · have hk0 : X.count - 1 = 0 := by omega
        have hIY := HI1.out hK
        rw [hk0]
        go_wp2_with fail
        refine (delHold_l (xs.set p (X.plus (-1))) (some ⟨g, 0, none⟩) c2 xs.length p w1.heap.size _ ho3 (List.length_set ..) hp (by omega) hsz).mono ?_
        rw [hIY]
        rintro e w4 ⟨A4, c4, rfl, ho4, hb4⟩
        go_wp2_with fail
        go_meet
        exact ⟨ho4, hb3.trans hb4⟩
      · have hk0 : (X.count - 1 == 0) = false := by rw [beq_eq_false_iff_ne]; omega
        have hIY := HI2.out hK
        rw [hIY] at ho3
        go_wp2_with fail
        go_meet
        exact ⟨ho3, hb3⟩
    case rest =>
      obtain ⟨ho4, hb4⟩ := hcut
      clear ho3 hb3 hb2 e2 hsz hgw hcap
      have hyl : YS.length ≤ 1000000 := by have := HLI.out; omega
      obtain ⟨A4, c4, rfl, hw4, _⟩ := ho4.own encHold_len
      go_wp2_with fail
      refine (binO_c YS _ _ b z _ hw4.rd HOI.out (by omega)).mono ?_
      rintro e w5 ⟨rfl, hb5⟩
      have ho5 := ho4.below hb5
      have hbw := hb1.trans ((hb4.trans (hb5.mono hb4.size)).mono hb1.size)
      have hs5 : w1.heap.size ≤ w5.heap.size := Nat.le_trans hb4.size hb5.size
      clear ho4 hw4 hb4 hb5
      by_cases hh2 : hasH YS b z = true
      · obtain ⟨q, hQ, hq, hinc⟩ := inc_at hh2 1
        obtain ⟨Y, hY⟩ : ∃ Y, YS[q] = Y := ⟨_, rfl⟩
        rw [hY] at hinc
        have j1 : 1 ≤ Y.count := by rw [← hY]; exact HNZ.out _ (List.getElem_mem hq)
        have j2 : Y.count ≤ 1000000000 := by rw [← hY]; exact HBY.out _ (List.getElem_mem hq)
        have hkz : keepZ (Y.plus 1) = [Y.plus 1] := by unfold keepZ; rw [if_neg (by show ¬ Y.count + 1 = 0; omega)]
        have hIY := Lib.hid (show YS.set q (Y.plus 1) = mvV xs a b z by rw [HMV.out, hinc, hkz, set_parts hq])
        rw [hh2, hQ]
        obtain ⟨g2, c5, hv, hcap, hlg2, hgw2, hfz, hcl⟩ := ho5.openedR encHold_len (by omega)
        injection hv with hv _ hv2
        subst hv hv2
        have d2 := hcl q Y (by rw [List.getElem?_eq_getElem hq, hY]) 2 _ rfl
        have f2 := hfz (q * 3 + 2)
        have hi0 : (0 : Int) ≤ (q : Int) := by omega
        have hi1 : (q : Int) < (YS.length : Int) := by omega
        have ho6 := ho5.cellSetR (i := q) (j := 2) (m' := Y.plus 1) (u := .int .i64 (Y.count + 1)) encHold_len hq (by decide) (by rw [hY]; rfl)
        have hb6 := hbw.setCell (p := ⟨g2, q * 3 + 2, none⟩) (Nat.le_trans hb1.size hlg2) (.int .i64 (Y.count + 1))
        rw [hIY.out] at ho6
        have hlen : YS.length = (mvV xs a b z).length := by rw [← hIY.out, List.length_set]
        have HL := Lib.hid hlen
        obtain ⟨A6, c6, hv6, hw6, _⟩ := ho6.own encHold_len
        injection hv6 with hv6 _ hv7
        subst hv6 hv7
        have hw6 := Lib.hid (hw6.wide (lo' := w.heap.size) hb1.size (Nat.le_refl _) (Nat.le_refl _))
        have hb6 := Lib.hid hb6
        clear hcl hfz hinc hkz hIY hlen ho6 hbw
        go_wp2_with fail
        go_returns
        exact ⟨some ⟨g2, 0, none⟩, c4, ret_list rfl hh.symm, hb6.out, hw6.out⟩
      · have hh3 : hasH YS b z = false := by simpa using hh2
        have hinc := inc_no hh3 1
        rw [hh3]
        have hql := posH_le YS b z
        generalize hQ : posH YS b z = q at *
        have HIY := Lib.hid (show YS.take q ++ [⟨b, z, 1⟩] ++ YS.drop q = mvV xs a b z by rw [HMV.out, hinc])
        clear hinc
        go_wp2_with fail
        have hA := (Below.refl w5.heap.size w5).alloc (Nat.le_refl _) (.cells #[.string b, .int .i64 z, .int .i64 1] 41)
        have ho6 := ho5.below hA
        have hv := heap_alloc_new w5 (.cells #[.string b, .int .i64 z, .int .i64 1] 41)
        have hlt := fun g h => (World.ownsRow.lt ho5 g h).2
        have hbx := hbw.trans (hA.mono hbw.size)
        have hsx : w1.heap.size ≤ (w5.alloc (.cells #[.string b, .int .i64 z, .int .i64 1] 41)).heap.size := by simp; omega
        clear hA ho5 hbw
        generalize w5.alloc (.cells #[.string b, .int .i64 z, .int .i64 1] 41) = w6 at *
        refine (insHold_c YS _ _ ⟨b, z, 1⟩ q w5.heap.size w1.heap.size _ ho6 hql hv (fun g h => by have := hlt g h; omega) (by omega) hsx).mono ?_
        rw [HIY.out]
        rintro e w7 ⟨A7, c7, rfl, ho7, hb7⟩
        obtain ⟨A8, c8, hv8, hw8, _⟩ := ho7.own encHold_len
        injection hv8 with hv8 _ hv9
        subst hv8 hv9
        have hw8 := Lib.hid (hw8.wide (lo' := w.heap.size) hb1.size (Nat.le_refl _) (Nat.le_refl _))
        have hb8 := Lib.hid (hbx.trans (hb7.mono hb1.size))
        clear ho7 hbx hb7 ho6
        go_wp2_with fail
        go_returns
        exact ⟨_, _, ret_list rfl hh.symm, hb8.out, hw8.out⟩
  · have hh0 : hasH xs a z = false := by simpa using hh
    have HM := Lib.hid (show mvV xs a b z = [] by simp [mvV, hh0])
    clear hh
    go_enter Try.func30, Try.ntmps30
    go_wp2_with fail
    refine (binO_c xs _ _ a z _ hr HS.out (by omega)).mono ?_
    rintro e w1 ⟨rfl, hb1⟩
    rw [hh0]
    go_wp2_with fail
    go_returns
    exact ⟨none, 0, ret_list (by rw [HM.out]; rfl) hh0.symm, hb1, Own.none_ HM.out (Nat.le_refl _)⟩
end Go.Proofs.Ytebkfcdijjcefaa
