/- MovePage: the plain words and the contracts of the program and the reference. No condition but the sizes. -/
import Derived.Test.YtpjnlcppjcnlgaaGreatDoorAlRes
namespace Go.Proofs.YtpjnlcppjcnlgaaGreatDoor
set_option linter.unusedVariables false
set_option linter.unusedSimpArgs false
open Go.RowKit
attribute [local irreducible] wpQuiet
def mvF (u : Int) (p : Page) : Page := ⟨p.id, p.title, u, p.items⟩
def mvL (xs : List Page) (z u : Int) : List Page := atL xs (idxI (idP z) xs) (mvF u)
def mvB (xs : List Page) (z u : Int) : Bool := lvB xs z && goodA (mvL xs z u)
def mvV (xs : List Page) (z u : Int) : List Page := ifA (mvL xs z u) (mvB xs z u)
section
variable {xs : List Page} {z u : Int}
theorem mvB_good (h : mvB xs z u = true) : goodA (mvL xs z u) = true := by unfold mvB at h; exact (Bool.and_eq_true _ _ ▸ h).2
theorem mvV_len (xs : List Page) (z u : Int) : (mvV xs z u).length ≤ 2097152 := ifA_len mvB_good
theorem mvV_sum (xs : List Page) (z u : Int) : sumI (mvV xs z u) ≤ 2097152 := ifA_sum mvB_good
theorem mvV_no (h : mvB xs z u = false) : mvV xs z u = [] := ifA_no h
theorem mvV_yes (h : mvB xs z u = true) : mvV xs z u = mvL xs z u := ifA_yes h
theorem mvB_lv (h : lvB xs z = false) : mvB xs z u = false := by simp [mvB, h]
theorem mvB_at (h : lvB xs z = true) : mvB xs z u = goodA (mvL xs z u) := by simp [mvB, h]
theorem lvB_bad (h : goodA xs = false) : lvB xs z = false := by simp [lvB, h]
end
set_option maxRecDepth 100000 in
set_option maxHeartbeats 1600000 in
theorem implMovePage_c (xs : List Page) (A : Option Addr) (c : Nat) (z u : Int) (w : World) (hr : RdP w.heap.size w A xs) (hcap : xs.length ≤ c) (hn : xs.length ≤ 1048576) (hs : sumI xs ≤ 1048576) (hw : ∀ x ∈ xs, x.title.size ≤ 9223372036854775807 ∧ x.items.length ≤ 9223372036854775807 ∧ ∀ z ∈ x.items, Fits z) (hz : -9223372036854775808 ≤ z ∧ z ≤ 9223372036854775807) (hu : -9223372036854775808 ≤ u ∧ u ≤ 9223372036854775807) :
    Calls Tryz.prog 18 #[.slice A xs.length c, .int .i64 z, .int .i64 u] w (RetA (mvV xs z u) (mvB xs z u) w) := by
  have HW := Lib.hid hw
  clear hw
  go_enter Tryz.func18, Tryz.ntmps18
  go_wp2_with fail
  refine (pageAt_c xs _ _ _ _ hr hn).mono ?_
  rintro _ w1 ⟨rfl, hb1⟩
  go_wp2_with fail
  refine (isAlbum_c xs _ _ _ (hr.go hb1) hcap hn hs HW.out).mono ?_
  rintro _ w2 ⟨rfl, hb2⟩
  have hbg := below_via hb1 hb2
  cases hG : goodA xs with
  | false =>
    have HB := Lib.hid (mvB_lv (u := u) (lvB_bad (z := z) hG))
    clear hG
    go_wp2_with fail
    go_returns
    exact ⟨_, _, ret_list (by rw [mvV_no HB.out]; rfl) HB.out.symm, hbg, OwnP.none_ (mvV_no HB.out) (Nat.le_refl _)⟩
  | true =>
    have HG := Lib.hid hG
    rcases lv_of xs z hG with ⟨j, hj, hi, he, hB, hv⟩ | ⟨hi, hB, hv⟩
    · have HQ := Lib.hid (show mvL xs z u = xs.set j (mvF u xs[j]) by unfold mvL; rw [hi, atL_at hj])
      have HB := Lib.hid (mvB_at (u := u) hB)
      rw [hi]
      clear hi hv hB hG he
      have hj2 : ¬ (j : Int) < 0 := by omega
      have hj3 : (0 : Int) ≤ (j : Int) := by omega
      have hj4 : (j : Int) < (xs.length : Int) := by omega
      go_wp2_with fail
      refine (copyAlbum_c xs _ _ _ (hr.go hbg) hn hs).mono ?_
      rintro _ w3 ⟨v, ix, ms, rfl, hb3, hC⟩
      obtain ⟨g, c', m, rfl, hcc, hlo, hlt, hg0, hfz, hm, hit, d0, d1, d2, d3⟩ := hC.at_ hj
      have hC2 := hC.field (i := j) (j := 2) (u := .int .i64 u) (m' := ⟨m.id, m.title, u, m.A, m.n, m.c⟩) (p' := mvF u xs[j]) hj hm (by omega) rfl ⟨hit.1, hit.2.1, rfl, hit.2.2.2⟩
      have HWQ := Lib.hid (hw_set (j := j) (p := mvF u xs[j]) HW.out (have h0 := HW.out xs[j] (List.getElem_mem hj); h0))
      have hsQ := sumI_set_le xs j (mvF u xs[j])
      have hil : (mvF u xs[j]).items.length ≤ 8 := (good_base HG.out hj).2.2.2.1
      have h96 := goodA_sum HG.out
      have hQl : (xs.set j (mvF u xs[j])).length = xs.length := List.length_set ..
      obtain ⟨Q, hQ⟩ : ∃ Q, xs.set j (mvF u xs[j]) = Q := ⟨_, rfl⟩
      have HQ := Lib.hid (HQ.out.trans hQ)
      rw [hQ] at hC2 HWQ hsQ hQl
      rw [HQ.out] at HB
      have HQL := Lib.hid hQl
      clear hQ
      go_wp2_with fail
      obtain ⟨A4, c4, hv4, _, hOw⟩ := hC2.shape
      injection hv4 with e1 e2 e3
      subst e1
      have hb4 := (below_via hbg hb3).setCell (p := ⟨g, j * 4 + 2, none⟩) (Nat.le_trans hbg.size hlo) (.int .i64 u)
      have hlw := hbg.size
      clear hC hC2 hit hm d0 d1 d2 d3 hfz e2 e3
      generalize w3.setCell ⟨g, j * 4 + 2, none⟩ (.int .i64 u) = w4 at *
      have hres := albumResult_c Q _ c' w4 hOw.rd (by omega) (by omega) (by omega) HWQ.out
      rw [hQl] at hres
      refine hres.mono ?_
      rintro _ w5 ⟨hb5, hcs⟩
      have hOw := hOw.go hb5
      have hbl := below_via hb4 hb5
      rcases hcs with ⟨hgd, rfl⟩ | ⟨hgd, rfl⟩
      · have HB := Lib.hid (HB.out.trans hgd)
        go_wp2_with fail
        go_returns
        exact ⟨_, _, ret_list (by rw [mvV_yes HB.out, HQ.out, HQL.out]) HB.out.symm, hbl, (hOw.wide hlw hb5.size (Nat.le_refl _)).cast (by rw [mvV_yes HB.out, HQ.out])⟩
      · have HB := Lib.hid (HB.out.trans hgd)
        go_wp2_with fail
        go_returns
        exact ⟨_, _, ret_list (by rw [mvV_no HB.out]; rfl) HB.out.symm, hbl, OwnP.none_ (mvV_no HB.out) (Nat.le_refl _)⟩
    · have HB := Lib.hid (mvB_lv (u := u) hB)
      rw [hi]
      clear hi hv hB hG
      go_wp2_with fail
      go_returns
      exact ⟨_, _, ret_list (by rw [mvV_no HB.out]; rfl) HB.out.symm, hbg, OwnP.none_ (mvV_no HB.out) (Nat.le_refl _)⟩
set_option maxRecDepth 100000 in
set_option maxHeartbeats 1600000 in
theorem specMovePage_c (xs : List Page) (A : Option Addr) (c : Nat) (z u : Int) (w : World) (hr : RdP w.heap.size w A xs) (hcap : xs.length ≤ c) (hn : xs.length ≤ 1048576) (hs : sumI xs ≤ 1048576) (hw : ∀ x ∈ xs, x.title.size ≤ 9223372036854775807 ∧ x.items.length ≤ 9223372036854775807 ∧ ∀ z ∈ x.items, Fits z) (hz : -9223372036854775808 ≤ z ∧ z ≤ 9223372036854775807) (hu : -9223372036854775808 ≤ u ∧ u ≤ 9223372036854775807) :
    Calls Tryz.prog 19 #[.slice A xs.length c, .int .i64 z, .int .i64 u] w (RetA (mvV xs z u) (mvB xs z u) w) := by
  have HW := Lib.hid hw
  clear hw
  go_enter Tryz.func19, Tryz.ntmps19
  go_wp2_with fail
  refine (l18Find_c xs _ _ _ _ hr hn).mono ?_
  rintro _ w1 ⟨rfl, hb1⟩
  go_wp2_with fail
  refine (l18Good_c xs _ _ _ (hr.go hb1) hcap hn hs HW.out).mono ?_
  rintro _ w2 ⟨rfl, hb2⟩
  have hbg := below_via hb1 hb2
  cases hG : goodA xs with
  | false =>
    have HB := Lib.hid (mvB_lv (u := u) (lvB_bad (z := z) hG))
    clear hG
    go_wp2_with fail
    go_returns
    exact ⟨_, _, ret_list (by rw [mvV_no HB.out]; rfl) HB.out.symm, below_via hbg (by go_grown), OwnP.none_ (mvV_no HB.out) (Nat.le_refl _)⟩
  | true =>
    have HG := Lib.hid hG
    rcases lv_of xs z hG with ⟨j, hj, hi, he, hB, hv⟩ | ⟨hi, hB, hv⟩
    · have HQ := Lib.hid (show mvL xs z u = xs.set j (mvF u xs[j]) by unfold mvL; rw [hi, atL_at hj])
      have HB := Lib.hid (mvB_at (u := u) hB)
      rw [hi]
      clear hi hv hB hG he
      have hj2 : ¬ (j : Int) < 0 := by omega
      have hj3 : (0 : Int) ≤ (j : Int) := by omega
      have hj4 : (j : Int) < (xs.length : Int) := by omega
      go_wp2_with fail
      refine (l18Own_c xs _ _ _ (hr.go hbg) hn hs).mono ?_
      rintro _ w3 ⟨v, ix, ms, rfl, hb3, hC⟩
      obtain ⟨g, c', m, rfl, hcc, hlo, hlt, hg0, hfz, hm, hit, d0, d1, d2, d3⟩ := hC.at_ hj
      have hil : xs[j].items.length ≤ 8 := (good_base HG.out hj).2.2.2.1
      go_upto_region 6 with fail
      have hW := New.of w3 [.int .i64 xs[j].id, .string xs[j].title, .int .i64 xs[j].under, .slice m.A xs[j].items.length m.c] 56
      have f2 := World.frozen?_alloc_new w3 #[.int .i64 xs[j].id, .string xs[j].title, .int .i64 xs[j].under, .slice m.A xs[j].items.length m.c] 56 2
      generalize w3.alloc (.cells #[.int .i64 xs[j].id, .string xs[j].title, .int .i64 xs[j].under, .slice m.A xs[j].items.length m.c] 56) = W at *
      obtain ⟨hWb, hWl, hWc⟩ := hW
      have e0 := hWc 0 _ rfl
      have e1 := hWc 1 _ rfl
      have e2 := hWc 2 _ rfl
      have e3 := hWc 3 _ rfl
      clear hWc
      have hbW := below_via hbg (below_via hb3 hWb)
      obtain ⟨hp, hhp⟩ : ∃ hp, w3.heap.size = hp := ⟨_, rfl⟩
      have hwp : w.heap.size ≤ hp := by rw [← hhp]; exact Nat.le_trans hbg.size hb3.size
      have hlt' := hlt
      rw [hhp] at hWl e0 e1 e2 e3 f2 hlt' ⊢
      go_upto_region 7 with fail
      have hS := hWb.setCell (p := ⟨hp, 2, none⟩) (by rw [hhp]; exact Nat.le_refl _) (.int .i64 u)
      have hbS := hbW.setCell (p := ⟨hp, 2, none⟩) hwp (.int .i64 u)
      have k0 := (World.cell?_setCell_other W ⟨hp, 2, none⟩ ⟨hp, 0, none⟩ (.int .i64 u) (by simp)).trans e0
      have k1 := (World.cell?_setCell_other W ⟨hp, 2, none⟩ ⟨hp, 1, none⟩ (.int .i64 u) (by simp)).trans e1
      have k2 := World.cell?_setCell_same W ⟨hp, 2, none⟩ (.int .i64 u) e2
      have k3 := (World.cell?_setCell_other W ⟨hp, 2, none⟩ ⟨hp, 3, none⟩ (.int .i64 u) (by simp)).trans e3
      clear e0 e1 e2 e3 f2
      generalize W.setCell ⟨hp, 2, none⟩ (.int .i64 u) = W2 at *
      have d0 := (hS.cell (p := ⟨g, _, none⟩) hlt).trans d0
      have d1 := (hS.cell (p := ⟨g, _, none⟩) hlt).trans d1
      have d2 := (hS.cell (p := ⟨g, _, none⟩) hlt).trans d2
      have d3 := (hS.cell (p := ⟨g, _, none⟩) hlt).trans d3
      have hfz : ∀ o, W2.frozen? ⟨g, o, none⟩ = false := fun o => (hS.frozen (p := ⟨g, o, none⟩) hlt).trans (hfz o)
      have hC2 := hC.go hS
      obtain ⟨m2, hm2, hit2⟩ := hC2.it j _ (List.getElem?_eq_getElem hj)
      rw [hm] at hm2
      injection hm2 with hm2
      subst hm2
      have ho2 := hit2.2.2.2.2.1
      have hx2 := hit2.2.2.2.2.2
      rw [hit2.2.2.2.1] at ho2 hx2
      have hC3 := hC2.page hj (mvF u xs[j]) ho2 hx2
      have HWQ := Lib.hid (hw_set (j := j) (p := mvF u xs[j]) HW.out (have h0 := HW.out xs[j] (List.getElem_mem hj); h0))
      have hsQ := sumI_set_le xs j (mvF u xs[j])
      have hilQ : (mvF u xs[j]).items.length ≤ 8 := hil
      have h96 := goodA_sum HG.out
      have hQl : (xs.set j (mvF u xs[j])).length = xs.length := List.length_set ..
      obtain ⟨Q, hQ⟩ : ∃ Q, xs.set j (mvF u xs[j]) = Q := ⟨_, rfl⟩
      have HQ := Lib.hid (HQ.out.trans hQ)
      rw [hQ] at hC3 HWQ hsQ hQl
      rw [HQ.out] at HB
      have HQL := Lib.hid hQl
      clear hQ
      have hb4 := below_setCells (Nat.le_trans hbg.size hlo) [.int .i64 xs[j].id, .string xs[j].title, .int .i64 u, .slice m.A xs[j].items.length m.c] (j * 4) _ hbS
      obtain ⟨A4, c4, hv4, _, hOw⟩ := hC3.shape
      injection hv4 with e1 e2 e3
      subst e1
      have hlw := hbg.size
      clear hC hC2 hC3 hit hit2 hm e2 e3 ho2 hx2 hhp
      go_wp2_with fail
      have hb4' : Below w.heap.size w ((((W2.setCell ⟨g, j * 4, none⟩ (.int .i64 xs[j].id)).setCell ⟨g, j * 4 + 1, none⟩ (.string xs[j].title)).setCell ⟨g, j * 4 + 2, none⟩ (.int .i64 u)).setCell ⟨g, j * 4 + 3, none⟩ (.slice m.A xs[j].items.length m.c)) := hb4
      change OwnP w2.heap.size ((((W2.setCell ⟨g, j * 4, none⟩ (.int .i64 xs[j].id)).setCell ⟨g, j * 4 + 1, none⟩ (.string xs[j].title)).setCell ⟨g, j * 4 + 2, none⟩ (.int .i64 u)).setCell ⟨g, j * 4 + 3, none⟩ (.slice m.A xs[j].items.length m.c)).heap.size ((((W2.setCell ⟨g, j * 4, none⟩ (.int .i64 xs[j].id)).setCell ⟨g, j * 4 + 1, none⟩ (.string xs[j].title)).setCell ⟨g, j * 4 + 2, none⟩ (.int .i64 u)).setCell ⟨g, j * 4 + 3, none⟩ (.slice m.A xs[j].items.length m.c)) (some ⟨g, 0, none⟩) Q at hOw
      generalize (((W2.setCell ⟨g, j * 4, none⟩ (.int .i64 xs[j].id)).setCell ⟨g, j * 4 + 1, none⟩ (.string xs[j].title)).setCell ⟨g, j * 4 + 2, none⟩ (.int .i64 u)).setCell ⟨g, j * 4 + 3, none⟩ (.slice m.A xs[j].items.length m.c) = w4 at *
      have hres := l18Good_c Q _ c' w4 hOw.rd (by omega) (by omega) (by omega) HWQ.out
      rw [hQl] at hres
      refine hres.mono ?_
      rintro _ w5 ⟨rfl, hb5⟩
      have hOw := hOw.go hb5
      have hbl := below_via hb4' hb5
      cases hgd : goodA Q with
      | true =>
        have HB := Lib.hid (HB.out.trans hgd)
        go_wp2_with fail
        go_returns
        exact ⟨_, _, ret_list (by rw [mvV_yes HB.out, HQ.out, HQL.out]) HB.out.symm, hbl, (hOw.wide hlw hb5.size (Nat.le_refl _)).cast (by rw [mvV_yes HB.out, HQ.out])⟩
      | false =>
        have HB := Lib.hid (HB.out.trans hgd)
        go_wp2_with fail
        go_returns
        exact ⟨_, _, ret_list (by rw [mvV_no HB.out]; rfl) HB.out.symm, below_via hbl (by go_grown), OwnP.none_ (mvV_no HB.out) (Nat.le_refl _)⟩
    · have HB := Lib.hid (mvB_lv (u := u) hB)
      rw [hi]
      clear hi hv hB hG
      go_wp2_with fail
      go_returns
      exact ⟨_, _, ret_list (by rw [mvV_no HB.out]; rfl) HB.out.symm, below_via hbg (by go_grown), OwnP.none_ (mvV_no HB.out) (Nat.le_refl _)⟩
end Go.Proofs.YtpjnlcppjcnlgaaGreatDoor
