/- AddPage: the plain words and the contracts of the program and the reference. No condition but the sizes. -/
import Derived.Test.YtpjnlcppjcnlgaaGreatDoorAlRes
import Derived.Test.YtpjnlcppjcnlgaaGreatDoorAlTop
import Derived.Test.YtpjnlcppjcnlgaaGreatDoorApp
import Derived.Test.YtpjnlcppjcnlgaaGreatDoorAlMgP
namespace Go.Proofs.YtpjnlcppjcnlgaaGreatDoor
set_option linter.unusedVariables false
set_option linter.unusedSimpArgs false
open Go.RowKit
attribute [local irreducible] wpQuiet
def apId (xs : List Page) : Int := match xs[xs.length - 1]? with | none => 1 | some p => p.id + 1
def apL (xs : List Page) (t : ByteArray) (u : Int) : List Page := xs ++ [⟨apId xs, t, u, []⟩]
def apB (xs : List Page) (t : ByteArray) (u : Int) : Bool := goodA xs && goodA (apL xs t u)
def apV (xs : List Page) (t : ByteArray) (u : Int) : List Page := ifA (apL xs t u) (apB xs t u)
def apN (xs : List Page) (t : ByteArray) (u : Int) : Int := if apB xs t u = true then apId xs else 0
section
variable {xs : List Page} {t : ByteArray} {u : Int}
theorem apB_good (h : apB xs t u = true) : goodA (apL xs t u) = true := by unfold apB at h; exact (Bool.and_eq_true _ _ ▸ h).2
theorem apV_len (xs : List Page) (t : ByteArray) (u : Int) : (apV xs t u).length ≤ 2097152 := ifA_len apB_good
theorem apV_sum (xs : List Page) (t : ByteArray) (u : Int) : sumI (apV xs t u) ≤ 2097152 := ifA_sum apB_good
theorem apV_no (h : apB xs t u = false) : apV xs t u = [] := ifA_no h
theorem apV_yes (h : apB xs t u = true) : apV xs t u = apL xs t u := ifA_yes h
theorem apN_no (h : apB xs t u = false) : apN xs t u = 0 := by simp [apN, h]
theorem apN_yes (h : apB xs t u = true) : apN xs t u = apId xs := by simp [apN, h]
theorem apB_bad (h : goodA xs = false) : apB xs t u = false := by simp [apB, h]
theorem apB_ok (h : goodA xs = true) : apB xs t u = goodA (apL xs t u) := by simp [apB, h]
theorem apId_0 (h : xs.length = 0) : apId xs = 1 := by unfold apId; rw [List.getElem?_eq_none (by omega)]
theorem apId_s (h : 0 < xs.length) : apId xs = (xs[xs.length - 1]'(by omega)).id + 1 := by unfold apId; rw [List.getElem?_eq_getElem (by omega)]
end
/-- The call returns an album of its own, a number, and b. -/
def RetA3 (ps : List Page) (n : Int) (b : Bool) (w : World) (e : Ending) (w' : World) : Prop := ∃ B c', e = .returned (.tuple #[.slice B ps.length c', .int .i64 n, .bool b]) ∧ Below w.heap.size w w' ∧ OwnP w.heap.size w'.heap.size w' B ps
theorem ret_a3 {b b' : Bool} {A : Option Addr} {n m c : Nat} {x y : Int} (hn : n = m) (hx : x = y) (hb : b = b') : Ending.returned (.tuple #[.slice A n c, .int .i64 x, .bool b]) = .returned (.tuple #[.slice A m c, .int .i64 y, .bool b']) := by rw [hn, hb, hx]
set_option maxRecDepth 100000 in
set_option maxHeartbeats 1600000 in
theorem implAddPage_c (xs : List Page) (A : Option Addr) (c : Nat) (t : ByteArray) (u : Int) (w : World) (hr : RdP w.heap.size w A xs) (hcap : xs.length ≤ c) (hn : xs.length ≤ 1048576) (hs : sumI xs ≤ 1048576) (hw : ∀ x ∈ xs, x.title.size ≤ 9223372036854775807 ∧ x.items.length ≤ 9223372036854775807 ∧ ∀ z ∈ x.items, Fits z) (ht : t.size ≤ 9223372036854775807) (hu : -9223372036854775808 ≤ u ∧ u ≤ 9223372036854775807) :
    Calls Tryz.prog 6 #[.slice A xs.length c, .string t, .int .i64 u] w (RetA3 (apV xs t u) (apN xs t u) (apB xs t u) w) := by
  have HW := Lib.hid hw
  clear hw
  go_enter Tryz.func6, Tryz.ntmps6
  go_wp2_with fail
  refine (isAlbum_c xs _ _ _ hr hcap hn hs HW.out).mono ?_
  rintro _ w2 ⟨rfl, hbg⟩
  cases hG : goodA xs with
  | false =>
    have HB := Lib.hid (apB_bad (t := t) (u := u) hG)
    clear hG
    go_wp2_with fail
    go_returns
    exact ⟨_, _, ret_a3 (by rw [apV_no HB.out]; rfl) (apN_no HB.out).symm HB.out.symm, hbg, OwnP.none_ (apV_no HB.out) (Nat.le_refl _)⟩
  | true =>
    have HG := Lib.hid hG
    have HB := Lib.hid (apB_ok (t := t) (u := u) hG)
    have hlen := goodA_len hG
    have h96 := goodA_sum hG
    clear hG
    by_cases h0 : xs.length = 0
    · have HI := Lib.hid (apId_0 h0)
      have h0' : ¬ (0 : Int) < (xs.length : Int) := by omega
      clear h0
      go_wp2_with fail
      refine (copyAlbum_c xs _ _ _ (hr.go hbg) hn hs).mono ?_
      rintro _ w3 ⟨v, ix, ms, rfl, hb3, hC⟩
      have hml := hC.len
      have hb5 : Below w3.heap.size w3 (w3.alloc (.cells #[.int .i64 1, .string t, .int .i64 u, .slice none 0 0] 56)) := (Below.refl _ _).alloc (Nat.le_refl _) _
      have hout := hC.out.below hb5
      have hn4 : (ms.length + 1) * 56 ≤ 140737488355328 := by omega
      have hlb := hb3.size
      go_wp2_with (at_builtin; refine wp_appH rfl _ _ _ rfl 56 (.agg #[.int .i64 0, .string ⟨#[]⟩, .int .i64 0, .slice none 0 0]) 4 56 Tryz.underlying24 infoPage rfl (by decide) encPM_len onePM (base := w2.heap.size) (m := 1) (ys := ms) (zs := [(⟨1, t, u, none, 0, 0⟩ : PageM)]) rfl rfl rfl hout (rd_new (x := (⟨1, t, u, none, 0, 0⟩ : PageM)) (vs := [.int .i64 1, .string t, .int .i64 u, .slice none 0 0]) rfl rfl) (by omega) (by omega) (by simp; omega) ?_; intro v7 w7 ho7 hg7 hv7)
      obtain ⟨ix', hC7⟩ := hC.push (p := ⟨1, t, u, []⟩) (A3 := none) (c3 := 0) (base := w3.heap.size) hb5 hlb (Out.nil _) (Nat.le_refl _) ho7 hg7 hv7
      have hbl := Below.grown ((below_via hbg hb3).trans (hb5.mono (Nat.le_trans hbg.size hlb))) hg7 (by have := hbg.size; simp; omega) (fun g hg => Nat.le_trans hbg.size (hC.out.from_ g hg))
      have hQl : (xs ++ [(⟨1, t, u, []⟩ : Page)]).length = xs.length + 1 := by simp
      have hQs : sumI (xs ++ [(⟨1, t, u, []⟩ : Page)]) = sumI xs := by rw [sumI_append]; simp [sumI]
      have HWQ : Hid (∀ x ∈ xs ++ [(⟨1, t, u, []⟩ : Page)], x.title.size ≤ 9223372036854775807 ∧ x.items.length ≤ 9223372036854775807 ∧ ∀ z ∈ x.items, Fits z) := Lib.hid (fun x hx => by
        rcases List.mem_append.1 hx with h | h
        · exact HW.out x h
        · rw [List.mem_singleton] at h; subst h; exact ⟨ht, by simp, fun z hz => by cases hz⟩)
      have HQ := Lib.hid (show apL xs t u = xs ++ [(⟨1, t, u, []⟩ : Page)] by unfold apL; rw [HI.out])
      rw [HQ.out] at HB
      generalize xs ++ [(⟨1, t, u, []⟩ : Page)] = Q at *
      obtain ⟨A4, c4, rfl, hc4, hOw⟩ := hC7.shape
      have hlw := hbg.size
      have HQL := Lib.hid hQl
      clear hC hC7 hout hb5 ho7 hg7 hv7
      refine (albumResult_c Q _ _ _ hOw.rd hc4 (by omega) (by omega) HWQ.out).mono ?_
      rintro _ w8 ⟨hb8, hcs⟩
      have hOw := hOw.go hb8
      have hbl := below_via hbl hb8
      have HI := HI
      rcases hcs with ⟨hgd, rfl⟩ | ⟨hgd, rfl⟩
      · have HB := Lib.hid (HB.out.trans hgd)
        go_wp2_with fail
        go_returns
        exact ⟨_, _, ret_a3 (by rw [apV_yes HB.out, HQ.out, HQL.out]) (by rw [apN_yes HB.out, HI.out]) HB.out.symm, hbl, (hOw.wide hlw hb8.size (Nat.le_refl _)).cast (by rw [apV_yes HB.out, HQ.out])⟩
      · have HB := Lib.hid (HB.out.trans hgd)
        go_wp2_with fail
        go_returns
        exact ⟨_, _, ret_a3 (by rw [apV_no HB.out]; rfl) (apN_no HB.out).symm HB.out.symm, hbl, OwnP.none_ (apV_no HB.out) (Nat.le_refl _)⟩
    · have HI := Lib.hid (apId_s (show 0 < xs.length by omega))
      have h0' : (0 : Int) < (xs.length : Int) := by omega
      have hlast : xs.length - 1 < xs.length := by omega
      obtain ⟨b, off, Ai, ci, hA, hbs, d0, d1, d2, d3, hci, hri⟩ := (hr.go hbg).page hlast
      have hgb := good_base HG.out hlast
      have hid1 : 1 ≤ xs[xs.length - 1].id := hgb.1
      have hid2 : xs[xs.length - 1].id ≤ 99 := hgb.2.1
      clear hgb d1 d2 d3 hri
      subst hA
      generalize xs[xs.length - 1].id = q at *
      go_wp2_with fail
      refine (copyAlbum_c xs _ _ _ (hr.go hbg) hn hs).mono ?_
      rintro _ w3 ⟨v, ix, ms, rfl, hb3, hC⟩
      have hml := hC.len
      have hb5 : Below w3.heap.size w3 (w3.alloc (.cells #[.int .i64 (q + 1), .string t, .int .i64 u, .slice none 0 0] 56)) := (Below.refl _ _).alloc (Nat.le_refl _) _
      have hout := hC.out.below hb5
      have hn4 : (ms.length + 1) * 56 ≤ 140737488355328 := by omega
      have hlb := hb3.size
      go_wp2_with (at_builtin; refine wp_appH rfl _ _ _ rfl 56 (.agg #[.int .i64 0, .string ⟨#[]⟩, .int .i64 0, .slice none 0 0]) 4 56 Tryz.underlying24 infoPage rfl (by decide) encPM_len onePM (base := w2.heap.size) (m := 1) (ys := ms) (zs := [(⟨(q + 1), t, u, none, 0, 0⟩ : PageM)]) rfl rfl rfl hout (rd_new (x := (⟨(q + 1), t, u, none, 0, 0⟩ : PageM)) (vs := [.int .i64 (q + 1), .string t, .int .i64 u, .slice none 0 0]) rfl rfl) (by omega) (by omega) (by simp; omega) ?_; intro v7 w7 ho7 hg7 hv7)
      obtain ⟨ix', hC7⟩ := hC.push (p := ⟨(q + 1), t, u, []⟩) (A3 := none) (c3 := 0) (base := w3.heap.size) hb5 hlb (Out.nil _) (Nat.le_refl _) ho7 hg7 hv7
      have hbl := Below.grown ((below_via hbg hb3).trans (hb5.mono (Nat.le_trans hbg.size hlb))) hg7 (by have := hbg.size; simp; omega) (fun g hg => Nat.le_trans hbg.size (hC.out.from_ g hg))
      have hQl : (xs ++ [(⟨(q + 1), t, u, []⟩ : Page)]).length = xs.length + 1 := by simp
      have hQs : sumI (xs ++ [(⟨(q + 1), t, u, []⟩ : Page)]) = sumI xs := by rw [sumI_append]; simp [sumI]
      have HWQ : Hid (∀ x ∈ xs ++ [(⟨(q + 1), t, u, []⟩ : Page)], x.title.size ≤ 9223372036854775807 ∧ x.items.length ≤ 9223372036854775807 ∧ ∀ z ∈ x.items, Fits z) := Lib.hid (fun x hx => by
        rcases List.mem_append.1 hx with h | h
        · exact HW.out x h
        · rw [List.mem_singleton] at h; subst h; exact ⟨ht, by simp, fun z hz => by cases hz⟩)
      have HQ := Lib.hid (show apL xs t u = xs ++ [(⟨(q + 1), t, u, []⟩ : Page)] by unfold apL; rw [HI.out])
      rw [HQ.out] at HB
      generalize xs ++ [(⟨(q + 1), t, u, []⟩ : Page)] = Q at *
      obtain ⟨A4, c4, rfl, hc4, hOw⟩ := hC7.shape
      have hlw := hbg.size
      have HQL := Lib.hid hQl
      clear hC hC7 hout hb5 ho7 hg7 hv7
      refine (albumResult_c Q _ _ _ hOw.rd hc4 (by omega) (by omega) HWQ.out).mono ?_
      rintro _ w8 ⟨hb8, hcs⟩
      have hOw := hOw.go hb8
      have hbl := below_via hbl hb8
      have HI := HI
      rcases hcs with ⟨hgd, rfl⟩ | ⟨hgd, rfl⟩
      · have HB := Lib.hid (HB.out.trans hgd)
        go_wp2_with fail
        go_returns
        exact ⟨_, _, ret_a3 (by rw [apV_yes HB.out, HQ.out, HQL.out]) (by rw [apN_yes HB.out, HI.out]) HB.out.symm, hbl, (hOw.wide hlw hb8.size (Nat.le_refl _)).cast (by rw [apV_yes HB.out, HQ.out])⟩
      · have HB := Lib.hid (HB.out.trans hgd)
        go_wp2_with fail
        go_returns
        exact ⟨_, _, ret_a3 (by rw [apV_no HB.out]; rfl) (apN_no HB.out).symm HB.out.symm, hbl, OwnP.none_ (apV_no HB.out) (Nat.le_refl _)⟩
set_option maxRecDepth 100000 in
set_option maxHeartbeats 1600000 in
theorem specAddPage_c (xs : List Page) (A : Option Addr) (c : Nat) (t : ByteArray) (u : Int) (w : World) (hr : RdP w.heap.size w A xs) (hcap : xs.length ≤ c) (hn : xs.length ≤ 1048576) (hs : sumI xs ≤ 1048576) (hw : ∀ x ∈ xs, x.title.size ≤ 9223372036854775807 ∧ x.items.length ≤ 9223372036854775807 ∧ ∀ z ∈ x.items, Fits z) (ht : t.size ≤ 9223372036854775807) (hu : -9223372036854775808 ≤ u ∧ u ≤ 9223372036854775807) :
    Calls Tryz.prog 7 #[.slice A xs.length c, .string t, .int .i64 u] w (RetA3 (apV xs t u) (apN xs t u) (apB xs t u) w) := by
  have HW := Lib.hid hw
  clear hw
  have hbg := Below.refl w.heap.size w
  cases hG : goodA xs with
  | false =>
    have HG := Lib.hid hG
    have HB := Lib.hid (apB_bad (t := t) (u := u) hG)
    clear hG
    by_cases h0 : xs.length = 0
    · have h0' : ¬ (0 : Int) < (xs.length : Int) := by omega
      clear h0
      go_enter Tryz.func7, Tryz.ntmps7
      go_wp2_with fail
      refine (l18Own_c xs _ _ _ (hr.go hbg) hn hs).mono ?_
      rintro _ w3 ⟨v, ix, ms, rfl, hb3, hC⟩
      have hml := hC.len
      have hb5 : Below w3.heap.size w3 (w3.alloc (.cells #[.int .i64 1, .string t, .int .i64 u, .slice none 0 0] 56)) := (Below.refl _ _).alloc (Nat.le_refl _) _
      have hout := hC.out.below hb5
      have hn4 : (ms.length + 1) * 56 ≤ 140737488355328 := by omega
      have hlb := hb3.size
      go_wp2_with (at_builtin; refine wp_appH rfl _ _ _ rfl 56 (.agg #[.int .i64 0, .string ⟨#[]⟩, .int .i64 0, .slice none 0 0]) 4 56 Tryz.underlying24 infoPage rfl (by decide) encPM_len onePM (base := w.heap.size) (m := 1) (ys := ms) (zs := [(⟨1, t, u, none, 0, 0⟩ : PageM)]) rfl rfl rfl hout (rd_new (x := (⟨1, t, u, none, 0, 0⟩ : PageM)) (vs := [.int .i64 1, .string t, .int .i64 u, .slice none 0 0]) rfl rfl) (by omega) (by omega) (by simp; omega) ?_; intro v7 w7 ho7 hg7 hv7)
      have hbl := Below.grown ((below_via hbg hb3).trans (hb5.mono (Nat.le_trans hbg.size hlb))) hg7 (by have := hbg.size; simp; omega) (fun g hg => Nat.le_trans hbg.size (hC.out.from_ g hg))
      clear hC hout hb5 ho7 hg7 hv7
      refine (l18Good_c xs _ _ _ (hr.go hbl) hcap hn hs HW.out).mono ?_
      rw [HG.out]
      rintro _ w8 ⟨rfl, hb8⟩
      have hbl := below_via hbl hb8
      go_wp2_with fail
      go_returns
      exact ⟨_, _, ret_a3 (by rw [apV_no HB.out]; rfl) (apN_no HB.out).symm HB.out.symm, below_via hbl (by go_grown), OwnP.none_ (apV_no HB.out) (Nat.le_refl _)⟩
    · have h0' : (0 : Int) < (xs.length : Int) := by omega
      have hlast : xs.length - 1 < xs.length := by omega
      obtain ⟨b, off, Ai, ci, hA, hbs, d0, d1, d2, d3, hci, hri⟩ := hr.page hlast
      clear d1 d2 d3 hri
      subst hA
      generalize xs[xs.length - 1].id = q at *
      go_enter Tryz.func7, Tryz.ntmps7
      go_wp2_with fail
      generalize wrap64 (q + 1) = q2 at *
      refine (l18Own_c xs _ _ _ (hr.go hbg) hn hs).mono ?_
      rintro _ w3 ⟨v, ix, ms, rfl, hb3, hC⟩
      have hml := hC.len
      have hb5 : Below w3.heap.size w3 (w3.alloc (.cells #[.int .i64 q2, .string t, .int .i64 u, .slice none 0 0] 56)) := (Below.refl _ _).alloc (Nat.le_refl _) _
      have hout := hC.out.below hb5
      have hn4 : (ms.length + 1) * 56 ≤ 140737488355328 := by omega
      have hlb := hb3.size
      go_wp2_with (at_builtin; refine wp_appH rfl _ _ _ rfl 56 (.agg #[.int .i64 0, .string ⟨#[]⟩, .int .i64 0, .slice none 0 0]) 4 56 Tryz.underlying24 infoPage rfl (by decide) encPM_len onePM (base := w.heap.size) (m := 1) (ys := ms) (zs := [(⟨q2, t, u, none, 0, 0⟩ : PageM)]) rfl rfl rfl hout (rd_new (x := (⟨q2, t, u, none, 0, 0⟩ : PageM)) (vs := [.int .i64 q2, .string t, .int .i64 u, .slice none 0 0]) rfl rfl) (by omega) (by omega) (by simp; omega) ?_; intro v7 w7 ho7 hg7 hv7)
      have hbl := Below.grown ((below_via hbg hb3).trans (hb5.mono (Nat.le_trans hbg.size hlb))) hg7 (by have := hbg.size; simp; omega) (fun g hg => Nat.le_trans hbg.size (hC.out.from_ g hg))
      clear hC hout hb5 ho7 hg7 hv7
      refine (l18Good_c xs _ _ _ (hr.go hbl) hcap hn hs HW.out).mono ?_
      rw [HG.out]
      rintro _ w8 ⟨rfl, hb8⟩
      have hbl := below_via hbl hb8
      go_wp2_with fail
      go_returns
      exact ⟨_, _, ret_a3 (by rw [apV_no HB.out]; rfl) (apN_no HB.out).symm HB.out.symm, below_via hbl (by go_grown), OwnP.none_ (apV_no HB.out) (Nat.le_refl _)⟩
  | true =>
    have HG := Lib.hid hG
    have HB := Lib.hid (apB_ok (t := t) (u := u) hG)
    have hlen := goodA_len hG
    have h96 := goodA_sum hG
    clear hG
    by_cases h0 : xs.length = 0
    · have HI := Lib.hid (apId_0 h0)
      have h0' : ¬ (0 : Int) < (xs.length : Int) := by omega
      clear h0
      go_enter Tryz.func7, Tryz.ntmps7
      go_wp2_with fail
      refine (l18Own_c xs _ _ _ (hr.go hbg) hn hs).mono ?_
      rintro _ w3 ⟨v, ix, ms, rfl, hb3, hC⟩
      have hml := hC.len
      have hb5 : Below w3.heap.size w3 (w3.alloc (.cells #[.int .i64 1, .string t, .int .i64 u, .slice none 0 0] 56)) := (Below.refl _ _).alloc (Nat.le_refl _) _
      have hout := hC.out.below hb5
      have hn4 : (ms.length + 1) * 56 ≤ 140737488355328 := by omega
      have hlb := hb3.size
      go_wp2_with (at_builtin; refine wp_appH rfl _ _ _ rfl 56 (.agg #[.int .i64 0, .string ⟨#[]⟩, .int .i64 0, .slice none 0 0]) 4 56 Tryz.underlying24 infoPage rfl (by decide) encPM_len onePM (base := w.heap.size) (m := 1) (ys := ms) (zs := [(⟨1, t, u, none, 0, 0⟩ : PageM)]) rfl rfl rfl hout (rd_new (x := (⟨1, t, u, none, 0, 0⟩ : PageM)) (vs := [.int .i64 1, .string t, .int .i64 u, .slice none 0 0]) rfl rfl) (by omega) (by omega) (by simp; omega) ?_; intro v7 w7 ho7 hg7 hv7)
      obtain ⟨ix', hC7⟩ := hC.push (p := ⟨1, t, u, []⟩) (A3 := none) (c3 := 0) (base := w3.heap.size) hb5 hlb (Out.nil _) (Nat.le_refl _) ho7 hg7 hv7
      have hbl := Below.grown ((below_via hbg hb3).trans (hb5.mono (Nat.le_trans hbg.size hlb))) hg7 (by have := hbg.size; simp; omega) (fun g hg => Nat.le_trans hbg.size (hC.out.from_ g hg))
      have hQl : (xs ++ [(⟨1, t, u, []⟩ : Page)]).length = xs.length + 1 := by simp
      have hQs : sumI (xs ++ [(⟨1, t, u, []⟩ : Page)]) = sumI xs := by rw [sumI_append]; simp [sumI]
      have HWQ : Hid (∀ x ∈ xs ++ [(⟨1, t, u, []⟩ : Page)], x.title.size ≤ 9223372036854775807 ∧ x.items.length ≤ 9223372036854775807 ∧ ∀ z ∈ x.items, Fits z) := Lib.hid (fun x hx => by
        rcases List.mem_append.1 hx with h | h
        · exact HW.out x h
        · rw [List.mem_singleton] at h; subst h; exact ⟨ht, by simp, fun z hz => by cases hz⟩)
      have HQ := Lib.hid (show apL xs t u = xs ++ [(⟨1, t, u, []⟩ : Page)] by unfold apL; rw [HI.out])
      rw [HQ.out] at HB
      generalize xs ++ [(⟨1, t, u, []⟩ : Page)] = Q at *
      obtain ⟨A4, c4, rfl, hc4, hOw⟩ := hC7.shape
      have hlw := hbg.size
      have HQL := Lib.hid hQl
      clear hC hC7 hout hb5 ho7 hg7 hv7
      clear hQl
      refine (l18Good_c xs _ _ _ (hr.go hbl) hcap (by omega) (by omega) HW.out).mono ?_
      rw [HG.out]
      rintro _ w8 ⟨rfl, hb8⟩
      have hOw := hOw.go hb8
      have hbl := below_via hbl hb8
      go_wp2_with fail
      refine (l18Good_c Q _ _ _ hOw.rd hc4 (by have := HQL.out; omega) (by omega) HWQ.out).mono ?_
      rintro _ w9 ⟨rfl, hb9⟩
      have hOw := hOw.go hb9
      have hbl := below_via hbl hb9
      have hsz9 := Nat.le_trans hb8.size hb9.size
      cases hgd : goodA Q with
      | true =>
        have HB := Lib.hid (HB.out.trans hgd)
        go_wp2_with fail
        go_returns
        exact ⟨_, _, ret_a3 (by rw [apV_yes HB.out, HQ.out]) (by rw [apN_yes HB.out, HI.out]) HB.out.symm, hbl, (hOw.wide hlw hsz9 (Nat.le_refl _)).cast (by rw [apV_yes HB.out, HQ.out])⟩
      | false =>
        have HB := Lib.hid (HB.out.trans hgd)
        go_wp2_with fail
        go_returns
        exact ⟨_, _, ret_a3 (by rw [apV_no HB.out]; rfl) (apN_no HB.out).symm HB.out.symm, below_via hbl (by go_grown), OwnP.none_ (apV_no HB.out) (Nat.le_refl _)⟩
    · have HI := Lib.hid (apId_s (show 0 < xs.length by omega))
      have h0' : (0 : Int) < (xs.length : Int) := by omega
      have hlast : xs.length - 1 < xs.length := by omega
      obtain ⟨b, off, Ai, ci, hA, hbs, d0, d1, d2, d3, hci, hri⟩ := (hr.go hbg).page hlast
      have hgb := good_base HG.out hlast
      have hid1 : 1 ≤ xs[xs.length - 1].id := hgb.1
      have hid2 : xs[xs.length - 1].id ≤ 99 := hgb.2.1
      clear hgb d1 d2 d3 hri
      subst hA
      generalize xs[xs.length - 1].id = q at *
      go_enter Tryz.func7, Tryz.ntmps7
      go_wp2_with fail
      refine (l18Own_c xs _ _ _ (hr.go hbg) hn hs).mono ?_
      rintro _ w3 ⟨v, ix, ms, rfl, hb3, hC⟩
      have hml := hC.len
      have hb5 : Below w3.heap.size w3 (w3.alloc (.cells #[.int .i64 (q + 1), .string t, .int .i64 u, .slice none 0 0] 56)) := (Below.refl _ _).alloc (Nat.le_refl _) _
      have hout := hC.out.below hb5
      have hn4 : (ms.length + 1) * 56 ≤ 140737488355328 := by omega
      have hlb := hb3.size
      go_wp2_with (at_builtin; refine wp_appH rfl _ _ _ rfl 56 (.agg #[.int .i64 0, .string ⟨#[]⟩, .int .i64 0, .slice none 0 0]) 4 56 Tryz.underlying24 infoPage rfl (by decide) encPM_len onePM (base := w.heap.size) (m := 1) (ys := ms) (zs := [(⟨(q + 1), t, u, none, 0, 0⟩ : PageM)]) rfl rfl rfl hout (rd_new (x := (⟨(q + 1), t, u, none, 0, 0⟩ : PageM)) (vs := [.int .i64 (q + 1), .string t, .int .i64 u, .slice none 0 0]) rfl rfl) (by omega) (by omega) (by simp; omega) ?_; intro v7 w7 ho7 hg7 hv7)
      obtain ⟨ix', hC7⟩ := hC.push (p := ⟨(q + 1), t, u, []⟩) (A3 := none) (c3 := 0) (base := w3.heap.size) hb5 hlb (Out.nil _) (Nat.le_refl _) ho7 hg7 hv7
      have hbl := Below.grown ((below_via hbg hb3).trans (hb5.mono (Nat.le_trans hbg.size hlb))) hg7 (by have := hbg.size; simp; omega) (fun g hg => Nat.le_trans hbg.size (hC.out.from_ g hg))
      have hQl : (xs ++ [(⟨(q + 1), t, u, []⟩ : Page)]).length = xs.length + 1 := by simp
      have hQs : sumI (xs ++ [(⟨(q + 1), t, u, []⟩ : Page)]) = sumI xs := by rw [sumI_append]; simp [sumI]
      have HWQ : Hid (∀ x ∈ xs ++ [(⟨(q + 1), t, u, []⟩ : Page)], x.title.size ≤ 9223372036854775807 ∧ x.items.length ≤ 9223372036854775807 ∧ ∀ z ∈ x.items, Fits z) := Lib.hid (fun x hx => by
        rcases List.mem_append.1 hx with h | h
        · exact HW.out x h
        · rw [List.mem_singleton] at h; subst h; exact ⟨ht, by simp, fun z hz => by cases hz⟩)
      have HQ := Lib.hid (show apL xs t u = xs ++ [(⟨(q + 1), t, u, []⟩ : Page)] by unfold apL; rw [HI.out])
      rw [HQ.out] at HB
      generalize xs ++ [(⟨(q + 1), t, u, []⟩ : Page)] = Q at *
      obtain ⟨A4, c4, rfl, hc4, hOw⟩ := hC7.shape
      have hlw := hbg.size
      have HQL := Lib.hid hQl
      clear hC hC7 hout hb5 ho7 hg7 hv7
      clear hQl
      refine (l18Good_c xs _ _ _ (hr.go hbl) hcap (by omega) (by omega) HW.out).mono ?_
      rw [HG.out]
      rintro _ w8 ⟨rfl, hb8⟩
      have hOw := hOw.go hb8
      have hbl := below_via hbl hb8
      go_wp2_with fail
      refine (l18Good_c Q _ _ _ hOw.rd hc4 (by have := HQL.out; omega) (by omega) HWQ.out).mono ?_
      rintro _ w9 ⟨rfl, hb9⟩
      have hOw := hOw.go hb9
      have hbl := below_via hbl hb9
      have hsz9 := Nat.le_trans hb8.size hb9.size
      cases hgd : goodA Q with
      | true =>
        have HB := Lib.hid (HB.out.trans hgd)
        go_wp2_with fail
        go_returns
        exact ⟨_, _, ret_a3 (by rw [apV_yes HB.out, HQ.out]) (by rw [apN_yes HB.out, HI.out]) HB.out.symm, hbl, (hOw.wide hlw hsz9 (Nat.le_refl _)).cast (by rw [apV_yes HB.out, HQ.out])⟩
      | false =>
        have HB := Lib.hid (HB.out.trans hgd)
        go_wp2_with fail
        go_returns
        exact ⟨_, _, ret_a3 (by rw [apV_no HB.out]; rfl) (apN_no HB.out).symm HB.out.symm, below_via hbl (by go_grown), OwnP.none_ (apV_no HB.out) (Nat.le_refl _)⟩
end Go.Proofs.YtpjnlcppjcnlgaaGreatDoor
namespace Go.Proofs.YtpjnlcppjcnlgaaGreatDoor
set_option linter.unusedVariables false
set_option linter.unusedSimpArgs false
open Go.RowKit
attribute [local irreducible] wpQuiet
/-- The call returns an album of its own with room for its pages, n and b. -/
def RetA3C (ps : List Page) (n : Int) (b : Bool) (w : World) (e : Ending) (w' : World) : Prop := ∃ B c', e = .returned (.tuple #[.slice B ps.length c', .int .i64 n, .bool b]) ∧ Below w.heap.size w w' ∧ OwnP w.heap.size w'.heap.size w' B ps ∧ ps.length ≤ c'
set_option maxRecDepth 100000 in
set_option maxHeartbeats 1600000 in
theorem implAddPageC_c (xs : List Page) (A : Option Addr) (c : Nat) (t : ByteArray) (u : Int) (w : World) (hr : RdP w.heap.size w A xs) (hcap : xs.length ≤ c) (hn : xs.length ≤ 1048576) (hs : sumI xs ≤ 1048576) (hw : ∀ x ∈ xs, x.title.size ≤ 9223372036854775807 ∧ x.items.length ≤ 9223372036854775807 ∧ ∀ z ∈ x.items, Fits z) (ht : t.size ≤ 9223372036854775807) (hu : -9223372036854775808 ≤ u ∧ u ≤ 9223372036854775807) :
    Calls Tryz.prog 6 #[.slice A xs.length c, .string t, .int .i64 u] w (RetA3C (apV xs t u) (apN xs t u) (apB xs t u) w) := by
  have HW := Lib.hid hw
  clear hw
  go_enter Tryz.func6, Tryz.ntmps6
  go_wp2_with fail
  refine (isAlbum_c xs _ _ _ hr hcap hn hs HW.out).mono ?_
  rintro _ w2 ⟨rfl, hbg⟩
  cases hG : goodA xs with
  | false =>
    have HB := Lib.hid (apB_bad (t := t) (u := u) hG)
    clear hG
    go_wp2_with fail
    go_returns
    exact ⟨_, _, ret_a3 (by rw [apV_no HB.out]; rfl) (apN_no HB.out).symm HB.out.symm, hbg, OwnP.none_ (apV_no HB.out) (Nat.le_refl _), by rw [apV_no HB.out]; exact Nat.zero_le _⟩
  | true =>
    have HG := Lib.hid hG
    have HB := Lib.hid (apB_ok (t := t) (u := u) hG)
    have hlen := goodA_len hG
    have h96 := goodA_sum hG
    clear hG
    by_cases h0 : xs.length = 0
    · have HI := Lib.hid (apId_0 h0)
      have h0' : ¬ (0 : Int) < (xs.length : Int) := by omega
      clear h0
      go_wp2_with fail
      refine (copyAlbum_c xs _ _ _ (hr.go hbg) hn hs).mono ?_
      rintro _ w3 ⟨v, ix, ms, rfl, hb3, hC⟩
      have hml := hC.len
      have hb5 : Below w3.heap.size w3 (w3.alloc (.cells #[.int .i64 1, .string t, .int .i64 u, .slice none 0 0] 56)) := (Below.refl _ _).alloc (Nat.le_refl _) _
      have hout := hC.out.below hb5
      have hn4 : (ms.length + 1) * 56 ≤ 140737488355328 := by omega
      have hlb := hb3.size
      go_wp2_with (at_builtin; refine wp_appH rfl _ _ _ rfl 56 (.agg #[.int .i64 0, .string ⟨#[]⟩, .int .i64 0, .slice none 0 0]) 4 56 Tryz.underlying24 infoPage rfl (by decide) encPM_len onePM (base := w2.heap.size) (m := 1) (ys := ms) (zs := [(⟨1, t, u, none, 0, 0⟩ : PageM)]) rfl rfl rfl hout (rd_new (x := (⟨1, t, u, none, 0, 0⟩ : PageM)) (vs := [.int .i64 1, .string t, .int .i64 u, .slice none 0 0]) rfl rfl) (by omega) (by omega) (by simp; omega) ?_; intro v7 w7 ho7 hg7 hv7)
      obtain ⟨ix', hC7⟩ := hC.push (p := ⟨1, t, u, []⟩) (A3 := none) (c3 := 0) (base := w3.heap.size) hb5 hlb (Out.nil _) (Nat.le_refl _) ho7 hg7 hv7
      have hbl := Below.grown ((below_via hbg hb3).trans (hb5.mono (Nat.le_trans hbg.size hlb))) hg7 (by have := hbg.size; simp; omega) (fun g hg => Nat.le_trans hbg.size (hC.out.from_ g hg))
      have hQl : (xs ++ [(⟨1, t, u, []⟩ : Page)]).length = xs.length + 1 := by simp
      have hQs : sumI (xs ++ [(⟨1, t, u, []⟩ : Page)]) = sumI xs := by rw [sumI_append]; simp [sumI]
      have HWQ : Hid (∀ x ∈ xs ++ [(⟨1, t, u, []⟩ : Page)], x.title.size ≤ 9223372036854775807 ∧ x.items.length ≤ 9223372036854775807 ∧ ∀ z ∈ x.items, Fits z) := Lib.hid (fun x hx => by
        rcases List.mem_append.1 hx with h | h
        · exact HW.out x h
        · rw [List.mem_singleton] at h; subst h; exact ⟨ht, by simp, fun z hz => by cases hz⟩)
      have HQ := Lib.hid (show apL xs t u = xs ++ [(⟨1, t, u, []⟩ : Page)] by unfold apL; rw [HI.out])
      rw [HQ.out] at HB
      generalize xs ++ [(⟨1, t, u, []⟩ : Page)] = Q at *
      obtain ⟨A4, c4, rfl, hc4, hOw⟩ := hC7.shape
      have hlw := hbg.size
      have HQL := Lib.hid hQl
      clear hC hC7 hout hb5 ho7 hg7 hv7
      refine (albumResult_c Q _ _ _ hOw.rd hc4 (by omega) (by omega) HWQ.out).mono ?_
      rintro _ w8 ⟨hb8, hcs⟩
      have hOw := hOw.go hb8
      have hbl := below_via hbl hb8
      have HI := HI
      rcases hcs with ⟨hgd, rfl⟩ | ⟨hgd, rfl⟩
      · have HB := Lib.hid (HB.out.trans hgd)
        go_wp2_with fail
        go_returns
        exact ⟨_, _, ret_a3 (by rw [apV_yes HB.out, HQ.out, HQL.out]) (by rw [apN_yes HB.out, HI.out]) HB.out.symm, hbl, (hOw.wide hlw hb8.size (Nat.le_refl _)).cast (by rw [apV_yes HB.out, HQ.out]), by rw [apV_yes HB.out, HQ.out]; exact hc4⟩
      · have HB := Lib.hid (HB.out.trans hgd)
        go_wp2_with fail
        go_returns
        exact ⟨_, _, ret_a3 (by rw [apV_no HB.out]; rfl) (apN_no HB.out).symm HB.out.symm, hbl, OwnP.none_ (apV_no HB.out) (Nat.le_refl _), by rw [apV_no HB.out]; exact Nat.zero_le _⟩
    · have HI := Lib.hid (apId_s (show 0 < xs.length by omega))
      have h0' : (0 : Int) < (xs.length : Int) := by omega
      have hlast : xs.length - 1 < xs.length := by omega
      obtain ⟨b, off, Ai, ci, hA, hbs, d0, d1, d2, d3, hci, hri⟩ := (hr.go hbg).page hlast
      have hgb := good_base HG.out hlast
      have hid1 : 1 ≤ xs[xs.length - 1].id := hgb.1
      have hid2 : xs[xs.length - 1].id ≤ 99 := hgb.2.1
      clear hgb d1 d2 d3 hri
      subst hA
      generalize xs[xs.length - 1].id = q at *
      go_wp2_with fail
      refine (copyAlbum_c xs _ _ _ (hr.go hbg) hn hs).mono ?_
      rintro _ w3 ⟨v, ix, ms, rfl, hb3, hC⟩
      have hml := hC.len
      have hb5 : Below w3.heap.size w3 (w3.alloc (.cells #[.int .i64 (q + 1), .string t, .int .i64 u, .slice none 0 0] 56)) := (Below.refl _ _).alloc (Nat.le_refl _) _
      have hout := hC.out.below hb5
      have hn4 : (ms.length + 1) * 56 ≤ 140737488355328 := by omega
      have hlb := hb3.size
      go_wp2_with (at_builtin; refine wp_appH rfl _ _ _ rfl 56 (.agg #[.int .i64 0, .string ⟨#[]⟩, .int .i64 0, .slice none 0 0]) 4 56 Tryz.underlying24 infoPage rfl (by decide) encPM_len onePM (base := w2.heap.size) (m := 1) (ys := ms) (zs := [(⟨(q + 1), t, u, none, 0, 0⟩ : PageM)]) rfl rfl rfl hout (rd_new (x := (⟨(q + 1), t, u, none, 0, 0⟩ : PageM)) (vs := [.int .i64 (q + 1), .string t, .int .i64 u, .slice none 0 0]) rfl rfl) (by omega) (by omega) (by simp; omega) ?_; intro v7 w7 ho7 hg7 hv7)
      obtain ⟨ix', hC7⟩ := hC.push (p := ⟨(q + 1), t, u, []⟩) (A3 := none) (c3 := 0) (base := w3.heap.size) hb5 hlb (Out.nil _) (Nat.le_refl _) ho7 hg7 hv7
      have hbl := Below.grown ((below_via hbg hb3).trans (hb5.mono (Nat.le_trans hbg.size hlb))) hg7 (by have := hbg.size; simp; omega) (fun g hg => Nat.le_trans hbg.size (hC.out.from_ g hg))
      have hQl : (xs ++ [(⟨(q + 1), t, u, []⟩ : Page)]).length = xs.length + 1 := by simp
      have hQs : sumI (xs ++ [(⟨(q + 1), t, u, []⟩ : Page)]) = sumI xs := by rw [sumI_append]; simp [sumI]
      have HWQ : Hid (∀ x ∈ xs ++ [(⟨(q + 1), t, u, []⟩ : Page)], x.title.size ≤ 9223372036854775807 ∧ x.items.length ≤ 9223372036854775807 ∧ ∀ z ∈ x.items, Fits z) := Lib.hid (fun x hx => by
        rcases List.mem_append.1 hx with h | h
        · exact HW.out x h
        · rw [List.mem_singleton] at h; subst h; exact ⟨ht, by simp, fun z hz => by cases hz⟩)
      have HQ := Lib.hid (show apL xs t u = xs ++ [(⟨(q + 1), t, u, []⟩ : Page)] by unfold apL; rw [HI.out])
      rw [HQ.out] at HB
      generalize xs ++ [(⟨(q + 1), t, u, []⟩ : Page)] = Q at *
      obtain ⟨A4, c4, rfl, hc4, hOw⟩ := hC7.shape
      have hlw := hbg.size
      have HQL := Lib.hid hQl
      clear hC hC7 hout hb5 ho7 hg7 hv7
      refine (albumResult_c Q _ _ _ hOw.rd hc4 (by omega) (by omega) HWQ.out).mono ?_
      rintro _ w8 ⟨hb8, hcs⟩
      have hOw := hOw.go hb8
      have hbl := below_via hbl hb8
      have HI := HI
      rcases hcs with ⟨hgd, rfl⟩ | ⟨hgd, rfl⟩
      · have HB := Lib.hid (HB.out.trans hgd)
        go_wp2_with fail
        go_returns
        exact ⟨_, _, ret_a3 (by rw [apV_yes HB.out, HQ.out, HQL.out]) (by rw [apN_yes HB.out, HI.out]) HB.out.symm, hbl, (hOw.wide hlw hb8.size (Nat.le_refl _)).cast (by rw [apV_yes HB.out, HQ.out]), by rw [apV_yes HB.out, HQ.out]; exact hc4⟩
      · have HB := Lib.hid (HB.out.trans hgd)
        go_wp2_with fail
        go_returns
        exact ⟨_, _, ret_a3 (by rw [apV_no HB.out]; rfl) (apN_no HB.out).symm HB.out.symm, hbl, OwnP.none_ (apV_no HB.out) (Nat.le_refl _), by rw [apV_no HB.out]; exact Nat.zero_le _⟩
end Go.Proofs.YtpjnlcppjcnlgaaGreatDoor
namespace Go.Proofs.YtpjnlcppjcnlgaaGreatDoor
set_option linter.unusedVariables false
set_option linter.unusedSimpArgs false
open Go.RowKit
attribute [local irreducible] wpQuiet
def lenOf : Value → Nat
  | .slice _ n _ => n
  | _ => 0
def lcExt (ys : List Int) (L : Nat) : List Int := ys ++ List.replicate (L + 1 - ys.length) 0
def lcStep (ys : List Int) (L n : Nat) : List Int := (lcExt ys L).set L ((lcExt ys L).getD L 0 + (n : Int))
def lcK (xs : List Page) : Nat → List Int
  | 0 => []
  | k + 1 => match xs[k]? with | none => lcK xs k | some p => lcStep (lcK xs k) (levJ xs k) p.items.length
def lcV (xs : List Page) : List Int := if goodA xs = true then lcK xs xs.length else []
theorem lcK_s {xs : List Page} {k : Nat} (h : k < xs.length) : lcK xs (k + 1) = lcStep (lcK xs k) (levJ xs k) xs[k].items.length := by
  conv => lhs; unfold lcK
  simp only [List.getElem?_eq_getElem h]
theorem lcExt_len (ys : List Int) (L : Nat) : L < (lcExt ys L).length ∧ (lcExt ys L).length ≤ max ys.length (L + 1) := by
  unfold lcExt; rw [List.length_append, List.length_replicate]; omega
theorem lcK_bd (xs : List Page) (hi : ∀ (k : Nat) (h : k < xs.length), xs[k].items.length ≤ 8) : ∀ k, k ≤ xs.length → (lcK xs k).length ≤ k + 2 ∧ ∀ v ∈ lcK xs k, 0 ≤ v ∧ v ≤ 8 * (k : Int)
  | 0, _ => by simp [lcK]
  | k + 1, h => by
    obtain ⟨h1, h2⟩ := lcK_bd xs hi k (by omega)
    have hk := hi k (by omega)
    have hl := levJ_le xs k
    have he := lcExt_len (lcK xs k) (levJ xs k)
    have hm : ∀ v ∈ lcExt (lcK xs k) (levJ xs k), 0 ≤ v ∧ v ≤ 8 * (k : Int) := fun v hv => by
      unfold lcExt at hv
      rcases List.mem_append.1 hv with h | h
      · exact h2 v h
      · have := List.eq_of_mem_replicate h; omega
    rw [lcK_s (by omega)]
    unfold lcStep
    refine ⟨by rw [List.length_set]; omega, fun v hv => ?_⟩
    rcases List.mem_or_eq_of_mem_set hv with h | h
    · have := hm v h; omega
    · have hg : (lcExt (lcK xs k) (levJ xs k)).getD (levJ xs k) 0 = (lcExt (lcK xs k) (levJ xs k))[levJ xs k]'he.1 := by
        rw [List.getD_eq_getElem?_getD, List.getElem?_eq_getElem he.1]; rfl
      have := hm _ (List.getElem_mem he.1)
      rw [h, hg]; omega
theorem lcV_len (xs : List Page) : (lcV xs).length ≤ 2097152 := by
  unfold lcV
  split
  · rename_i hg
    have hn := goodA_len hg
    have := (lcK_bd xs (fun k h => (good_base hg h).2.2.2.1) xs.length (Nat.le_refl _)).1
    omega
  · simp
theorem Out.set_ {base g cap n j : Nat} {E : TypeId} {ys : List Int} {w : World} (h : Out (Value.int .i64) E base (.slice (some ⟨g, 0, none⟩) n cap) ys w) (x : Int) : Out (Value.int .i64) E base (.slice (some ⟨g, 0, none⟩) n cap) (ys.set j x) (w.setCell ⟨g, j, none⟩ (.int .i64 x)) := by
  have hn : n = ys.length := by
    rcases h.2 with ⟨h1, _⟩ | ⟨g', cap', cur, h1, _⟩
    · cases h1
    · injection h1
  subst hn
  have := (World.ownsRow.stored h j (.int .i64 x)).1
  unfold Out
  rw [List.length_set, List.map_set]
  exact this
theorem wpList_pushG {α : Type} {P : Program} {ops : Array Oper} {rest : List Oper} {o : Oper} {a : Act} {Q : Exit → Act → World → Prop} {w : World} (hgd : o.guard = none) (s x : Operand) (t : TypeId)
    (ho : o.op = .call { callee := .builtin .append, args := #[s, x], argTypes := #[t, t] }) (E : TypeId) (z : Value) (bytes : Nat) (ht : P.underlying t = some (.slice E))
    (hi : (P.info? E).map (fun i => (i.zero, i.size, i.bytes)) = some (some z, 1, bytes)) (hzs : z.cells.size = 1)
    {V : α → Value} {base : Nat} {v : Value} {ys : List α} (xx : α) (hs : a.eval s = v) (hown : Out V E base v ys w) (H : Nat) (hx : a.eval x = .slice (some ⟨H, 0, none⟩) 1 1) (hH : w.heap.size = H)
    (h1 : (V xx).oneCell' = true) (hlen : (ys.length + 1) * bytes ≤ 140737488355328) (hle : ys.length + 1 ≤ 9223372036854775807) (hbase : base ≤ w.heap.size)
    (h : ∀ v' w', Out V E base v' (ys ++ [xx]) w' → Below base w w' → (w.alloc (.cells #[V xx] E)).grownBy w' v.ownBlock → wpList P ops Q rest (a.put o.dst v') w') : wpList P ops Q (o :: rest) a (w.alloc (.cells #[V xx] E)) := by
  subst hH
  obtain ⟨i0, hi0, hz0, hz1, hz2⟩ := info_parts hi
  have ho1 : Out V E base v ys (w.alloc (.cells #[V xx] E)) := hown.below ((Below.refl _ _).alloc (Nat.le_refl _) _)
  refine wpList_append_own (w.alloc (.cells #[V xx] E)) hgd s x t ho base E i0 z 1 bytes ht hi0 hz0 hz1 hz2 hzs (by decide) v ys.length (ys.map V) hs ho1 ⟨w.heap.size, 0, none⟩ 1 1 [V xx] hx rfl ?_ ?_ (by unfold maxLen; omega) hlen (by simp; omega) ?_
  · intro j u hu
    have hj : j = 0 := by have := (List.getElem?_eq_some_iff.1 hu).1; simp at this; omega
    subst hj
    have hu' : u = V xx := by simpa using hu.symm
    subst hu'
    have : (⟨w.heap.size, 0, none⟩ : Addr).add 0 = ⟨w.heap.size, 0, none⟩ := rfl
    rw [this, World.cell?_alloc_new]
    rfl
  · intro u hu
    have hu' : u = V xx := by simpa using hu
    subst hu'
    exact h1
  · intro v' w' hown' hg _
    exact h v' w' (Out.snoc hown') (grown_below ((Below.refl _ _).alloc (Nat.le_refl _) _ |>.mono hbase) hbase hg ho1.from_) hg
theorem Out.some_ {base : Nat} {E : TypeId} {v : Value} {ys : List Int} {w : World} (h : Out (Value.int .i64) E base v ys w) (hn : 0 < ys.length) : ∃ g cap, v = .slice (some ⟨g, 0, none⟩) ys.length cap ∧ base ≤ g ∧ g < w.heap.size ∧ (∀ (i : Nat) (hi : i < ys.length), w.cell? ⟨g, i, none⟩ = some (.int .i64 ys[i])) ∧ ∀ o, w.frozen? ⟨g, o, none⟩ = false := by
  obtain ⟨A, c, rfl, ho⟩ := h.own
  obtain ⟨b, off, rfl, h1, h2, h3, h4⟩ := ho.2 hn
  have h0 : off = 0 := by
    rcases h.2 with ⟨h5, _⟩ | ⟨g, cap, cur, h5, _⟩
    · cases h5
    · injection h5 with h5; injection h5 with h5; injection h5
  subst h0
  exact ⟨b, c, rfl, h1, h2, fun i hi => by simpa using h3 i _ (List.getElem?_eq_getElem hi) 0 _ rfl, h4⟩
set_option maxRecDepth 100000 in
set_option maxHeartbeats 2000000 in
theorem implLevelCounts_c (xs : List Page) (A : Option Addr) (c : Nat) (w : World) (hr : RdP w.heap.size w A xs) (hcap : xs.length ≤ c) (hn : xs.length ≤ 1048576) (hs : sumI xs ≤ 1048576) (hw : ∀ x ∈ xs, x.title.size ≤ 9223372036854775807 ∧ x.items.length ≤ 9223372036854775807 ∧ ∀ z ∈ x.items, Fits z) :
    Calls Tryz.prog 13 #[.slice A xs.length c] w (RetL encI 1 (lcV xs) (goodA xs) w) := by
  have HW := Lib.hid hw
  clear hw
  by_cases hF : goodA xs = false
  · go_enter Tryz.func13, Tryz.ntmps13
    have hbg := Below.refl w.heap.size w
    go_wp2_with fail
    refine (isAlbum_c xs _ _ _ (hr.go hbg) hcap hn hs HW.out).mono ?_
    rintro e wg0 ⟨rfl, hb0⟩
    have hbg := below_via hbg hb0
    go_wp2_with fail
    go_returns
    exact ⟨_, _, ret_list (by simp [lcV, hF]) hF.symm, hbg, Own.none_ (by simp [lcV, hF]) (Nat.le_refl _)⟩
  have G0 : goodA xs = true := by simpa using hF
  clear hF
  go_enter Tryz.func13, Tryz.ntmps13
  have hbg := Below.refl w.heap.size w
  go_wp2_with fail
  refine (isAlbum_c xs _ _ _ (hr.go hbg) hcap hn hs HW.out).mono ?_
  rintro e wg0 ⟨rfl, hb0⟩
  have hbg := below_via hbg hb0
  have HG := Lib.hid G0
  have hlen := goodA_len G0
  have HBD := Lib.hid (lcK_bd xs (fun k h => (good_base G0 h).2.2.2.1))
  have HLV := Lib.hid (show lcV xs = lcK xs xs.length by unfold lcV; rw [if_pos G0])
  have ho0 := Out.nil (V := Value.int .i64) (E := 3) (base := wg0.heap.size) (α := Int) wg0
  go_wp2_with fail
  clear G0
  go_loopw [4, 13] (fun u i wr => ∃ k : Nat, k ≤ xs.length ∧ i = .int .i64 k ∧ Out (Value.int .i64) 3 wg0.heap.size u (lcK xs k) wr ∧ Below wg0.heap.size wg0 wr) (fun _ i _ => xs.length - (intOf i).toNat)
  case atStart => exact ⟨0, Nat.zero_le _, rfl, ho0, Below.refl _ _⟩
  case round =>
    obtain ⟨k, hk, rfl, ho, hb⟩ := hrel
    clear ho0
    have hbd := (HBD.out k hk).1
    by_cases hlt : k < xs.length
    · obtain ⟨b, off, Ai, ci, rfl, hbs, d0, d1, d2, d3, hci, hri⟩ := ((hr.go hbg).below hb).page hlt
      have HS := Lib.hid (lcK_s hlt)
      have hll := levJ_le xs k
      have hil : xs[k].items.length ≤ 8 := (good_base HG.out hlt).2.2.2.1
      have HMB := Lib.hid (HBD.out k hk).2
      go_upto_region 7 with fail
      clear d0 d1 d2 d3 hri
      have hBk : (wr.alloc (.cells #[.int .i64 xs[k].id, .string xs[k].title, .int .i64 xs[k].under, .slice Ai xs[k].items.length ci] 56)).heap[wr.heap.size]? = some (.cells #[.int .i64 xs[k].id, .string xs[k].title, .int .i64 xs[k].under, .slice Ai xs[k].items.length ci] 56 (0, 0)) := (MapKept.heap_alloc wr _).1
      have hW := New.of wr [.int .i64 xs[k].id, .string xs[k].title, .int .i64 xs[k].under, .slice Ai xs[k].items.length ci] 56
      generalize wr.alloc (.cells #[.int .i64 xs[k].id, .string xs[k].title, .int .i64 xs[k].under, .slice Ai xs[k].items.length ci] 56) = W at *
      obtain ⟨hWb, hWl, hWc⟩ := hW
      have e0 := hWc 0 _ rfl
      clear hWc
      have hbW := hb.trans (hWb.mono hb.size)
      have ho := ho.below hWb
      obtain ⟨hp, hhp⟩ : ∃ hp, wr.heap.size = hp := ⟨_, rfl⟩
      rw [hhp] at hWl e0 hBk ⊢
      clear hhp hWb hb
      go_wp2_with fail
      refine (levelOf_c xs _ _ k _ ((hr.go hbg).go hbW) HG.out hlt).mono ?_
      rintro _ w2 ⟨rfl, hb2⟩
      have ho := ho.below hb2
      have hbW2 := hbW.trans (hb2.mono hbW.size)
      have hBk := (hb2.block hp hWl).trans hBk
      have hWl := Nat.lt_of_lt_of_le hWl hb2.size
      generalize lcK xs k = ys at *
      generalize levJ xs k = L at *
      clear hb2 hbW e0
      go_wp2_with fail
      go_loopw [4] (fun u wr2 => ∃ m : Nat, m ≤ L + 1 - ys.length ∧ Out (Value.int .i64) 3 wg0.heap.size u (ys ++ List.replicate m 0) wr2 ∧ wr2.heap[hp]? = some (.cells #[.int .i64 xs[k].id, .string xs[k].title, .int .i64 xs[k].under, .slice Ai xs[k].items.length ci] 56 (0, 0)) ∧ Below wg0.heap.size wg0 wr2) (fun u _ => L + 1 - lenOf u)
      case atStart => exact ⟨0, Nat.zero_le _, by simpa using ho, hBk, hbW2⟩
      case round =>
        obtain ⟨m, hm, ho3, hB3, hb3⟩ := hrel
        have hlenE : (ys ++ List.replicate m 0).length = ys.length + m := by simp
        have HLE := Lib.hid hlenE
        obtain ⟨A3, c3, hu3, _⟩ := ho3.own
        have hnb : ∀ q, u4.ownBlock = some q → q ≠ hp := fun q hq e => by
          subst e
          rcases ho3.2 with ⟨h5, _⟩ | ⟨g, cap, cur, h5, _, hg5, _⟩
          · rw [h5] at hq; cases hq
          · rw [h5] at hq; injection hq with hq; simp only at hq; subst hq
            rw [hB3] at hg5; injection hg5 with hg5; injection hg5 with _ hg5 _; exact absurd hg5 (by decide)
        subst hu3
        by_cases hle : ys.length + m ≤ L
        · have hle1 : ((ys ++ List.replicate m (0 : Int)).length : Int) ≤ (L : Int) := by omega
          have hrep : (ys ++ List.replicate m (0 : Int)) ++ [0] = ys ++ List.replicate (m + 1) 0 := by rw [List.append_assoc, ← List.replicate_succ']
          have HRE := Lib.hid hrep
          clear hrep hlenE
          generalize hE : ys ++ List.replicate m (0 : Int) = E at *
          have hpl : hp < wr.heap.size := (Array.getElem?_eq_some_iff.1 hB3).1
          go_wp2_with (at_builtin; refine wpList_pushG rfl _ _ _ rfl 3 (.int .i64 0) 8 Tryz.underlying36 infoI rfl (0 : Int) rfl ho3 _ rfl (by simp) rfl (by omega) (by omega) (by have := hb3.size; omega) ?_; intro v1 w1 hown1 hbel1 hg1)
          have hB4 : w1.heap[hp]? = some (.cells #[.int .i64 xs[k].id, .string xs[k].title, .int .i64 xs[k].under, .slice Ai xs[k].items.length ci] 56 (0, 0)) :=
            (hg1.block hp (by simp; omega) (fun e => hnb hp e.symm rfl)).trans ((((Below.refl wr.heap.size wr).alloc (Nat.le_refl _) (.cells #[.int .i64 0] 3)).block hp hpl).trans hB3)
          rw [HRE.out] at hown1
          obtain ⟨A5, c5, hv5, _⟩ := hown1.own
          go_roundw
          case rel => exact ⟨m + 1, by omega, hown1, hB4, hb3.trans hbel1⟩
          case measure =>
            rw [hv5]
            have h9 := HLE.out
            simp only [lenOf, List.length_append, List.length_replicate]
            omega
        · have hme : m = L + 1 - ys.length := by omega
          have hnle : ¬ ((ys ++ List.replicate m (0 : Int)).length : Int) ≤ (L : Int) := by omega
          have hEx : ys ++ List.replicate m (0 : Int) = lcExt ys L := by rw [hme]; rfl
          rw [hEx] at ho3 hnle ⊢
          have hLl := lcExt_len ys L
          have hgd : (lcExt ys L).getD L 0 = (lcExt ys L)[L]'hLl.1 := by rw [List.getD_eq_getElem?_getD, List.getElem?_eq_getElem hLl.1]; rfl
          have hst : lcStep ys L xs[k].items.length = (lcExt ys L).set L ((lcExt ys L)[L]'hLl.1 + (xs[k].items.length : Int)) := by unfold lcStep; rw [hgd]
          have HST := Lib.hid (HS.out.trans hst)
          have hvs : ∀ v ∈ lcExt ys L, 0 ≤ v ∧ v ≤ 8 * (k : Int) := fun v hv => by
            unfold lcExt at hv
            rcases List.mem_append.1 hv with h | h
            · exact HMB.out _ h
            · have := List.eq_of_mem_replicate h; omega
          have hval := hvs _ (List.getElem_mem hLl.1)
          clear hvs
          clear hEx hme hst hgd hlenE HLE
          obtain ⟨g, cap, hv6, hg0, hgl, hgc, hgf⟩ := ho3.some_ (by omega)
          injection hv6 with hv6 _ hv7
          subst hv6 hv7
          have hgL := hgc L hLl.1
          clear hgc
          have e3 : wr.cell? ⟨hp, 3, none⟩ = some (.slice Ai xs[k].items.length ci) := by unfold World.cell?; rw [hB3]; rfl
          have hset := ho3.set_ (j := L) ((lcExt ys L)[L]'hLl.1 + (xs[k].items.length : Int))
          obtain ⟨hv0, hv1⟩ := hval
          have hL0 : (0 : Int) ≤ (L : Int) := by omega
          have hL1 : (L : Int) < ((lcExt ys L).length : Int) := by omega
          have hL2 : (L : Int) ≤ ((lcExt ys L).length : Int) := by omega
          generalize (lcExt ys L)[L]'hLl.1 = q at *
          have hb7 := (hb3.setCell (p := ⟨g, L, none⟩) hg0 (.int .i64 (q + (xs[k].items.length : Int)))).drew
          go_wp2_with fail
          try go_region
          all_goals try go_wp2_with fail
          go_roundw
          case rel => exact ⟨k + 1, by omega, by go_num, by rw [HST.out]; exact hset, hb7⟩
          case measure => simp [intOf]; omega
    · have hke : k = xs.length := by omega
      obtain ⟨A6, c6, rfl, hown⟩ := ho.own
      have HE := Lib.hid (show lcV xs = lcK xs k by rw [HLV.out, hke])
      go_wp2_with fail
      go_returns
      exact ⟨A6, c6, ret_list (by rw [HE.out]) HG.out.symm, below_via hbg hb, (hown.wide hbg.size (Nat.le_refl _) (Nat.le_refl _)).cast HE.out.symm⟩
end Go.Proofs.YtpjnlcppjcnlgaaGreatDoor
namespace Go.Proofs.YtpjnlcppjcnlgaaGreatDoor
set_option linter.unusedVariables false
set_option linter.unusedSimpArgs false
open Go.RowKit
section
variable {xs : List Page}
theorem sum_setI : ∀ (l : List Int) (i : Nat) (x : Int), i < l.length → (l.set i (l.getD i 0 + x)).sum = l.sum + x
  | [], _, _, h => by simp at h
  | a :: l, 0, x, _ => by simp; omega
  | a :: l, i + 1, x, h => by
    have ih := sum_setI l i x (by simpa using h)
    simp only [List.set_cons_succ, List.sum_cons, List.getD_cons_succ]
    omega
theorem sum_zeros : ∀ n : Nat, (List.replicate n (0 : Int)).sum = 0
  | 0 => rfl
  | n + 1 => by rw [List.replicate_succ, List.sum_cons, sum_zeros n]; rfl
theorem lcStep_sum (ys : List Int) (L n : Nat) : (lcStep ys L n).sum = ys.sum + (n : Int) := by
  unfold lcStep
  rw [sum_setI _ _ _ (lcExt_len ys L).1]
  unfold lcExt
  rw [List.sum_append, sum_zeros]
  omega
theorem lcK_sum : ∀ {k : Nat}, k ≤ xs.length → (lcK xs k).sum = (sumI (xs.take k) : Int)
  | 0, _ => by simp [lcK, sumI]
  | k + 1, h => by
    have ih := lcK_sum (k := k) (by omega)
    rw [lcK_s (by omega), lcStep_sum, ih, sumI_take_succ (by omega)]
    omega
theorem lcV_sum (h : goodA xs = true) : (lcV xs).sum = (sumI xs : Int) := by
  unfold lcV
  rw [if_pos h, lcK_sum (Nat.le_refl _), List.take_length]
theorem lcV_bd (xs : List Page) : (lcV xs).length ≤ 100 ∧ ∀ v ∈ lcV xs, 0 ≤ v ∧ v ≤ 1000 := by
  unfold lcV
  split
  · rename_i hg
    have hn := goodA_len hg
    have h := lcK_bd xs (fun k h => (good_base hg h).2.2.2.1) xs.length (Nat.le_refl _)
    exact ⟨by omega, fun v hv => by have := h.2 v hv; omega⟩
  · simp
theorem sumI_same {f : Page → Page} (hf : ∀ p, (f p).items = p.items) : ∀ (a : List Page), sumI (a.map f) = sumI a
  | [] => by simp [sumI]
  | p :: a => by rw [List.map_cons, sumI_cons, sumI_cons, sumI_same hf a, hf]
theorem sumI_setE : ∀ (a : List Page) (i : Nat) (h : i < a.length) (p : Page), sumI (a.set i p) + a[i].items.length = sumI a + p.items.length
  | [], _, h, _ => by simp at h
  | q :: a, 0, _, p => by simp only [List.set_cons_zero, List.getElem_cons_zero]; rw [sumI_cons, sumI_cons]; omega
  | q :: a, i + 1, h, p => by
    have ih := sumI_setE a i (by simpa using h) p
    simp only [List.set_cons_succ, List.getElem_cons_succ]
    rw [sumI_cons, sumI_cons]; omega
theorem mgU_items (id other : Int) (p : Page) : (mgU id other p).items = p.items := by unfold mgU; split <;> rfl
theorem merge_len (hg : goodA xs = true) {i k : Nat} (hi : i < xs.length) (hk : k < xs.length) (hik : i ≠ k) : (mgI xs[k].items xs[i]).items.length = xs[i].items.length + xs[k].items.length := by
  have h := merge_items hg hi hk hik
  show (xs[k].items.foldl putI xs[i].items).length = _
  rw [← h, List.length_mergeSort, List.length_append]
theorem merge_law {id other : Int} (h : mgB xs id other = true) : goodA xs = true ∧ goodA (mgV xs id other) = true ∧ (mgV xs id other).length + 1 = xs.length ∧ (lcV (mgV xs id other)).sum = (lcV xs).sum := by
  have hG := mgB_good h
  have h' := h
  simp only [mgB, Bool.and_eq_true, Bool.not_eq_true', decide_eq_false_iff_not] at h'
  obtain ⟨⟨⟨h1, h2⟩, hne⟩, _⟩ := h'
  have hg : goodA xs = true := by unfold lvB at h1; exact (Bool.and_eq_true _ _ ▸ h1).1
  rw [mgV_yes h]
  refine ⟨hg, hG, ?_⟩
  rcases lv_of xs id hg with ⟨i, hi, e1, f1, _, _⟩ | ⟨_, hb, _⟩
  · rcases lv_of xs other hg with ⟨k, hk, e2, f2, _, _⟩ | ⟨_, hb, _⟩
    · have hik : i ≠ k := fun e => hne (by subst e; rw [f1, f2])
      have hL : mgL xs id other = mgW xs i k id other := mgL_at e1 e2
      have hlen := mgW_len (id := id) (other := other) hi hk
      refine ⟨by rw [hL]; exact hlen, ?_⟩
      rw [lcV_sum hG, lcV_sum hg, hL]
      have hX := mgX_at (id := id) (other := other) hi hk
      have hXl := mgX_len (id := id) (other := other) hi hk
      have hS : sumI (mgX xs i k id other) = sumI (xs.set i (mgI xs[k].items xs[i])) := by rw [hX, sumI_same (mgU_items id other)]
      have hE := sumI_setE xs i hi (mgI xs[k].items xs[i])
      rw [merge_len hg hi hk hik] at hE
      have hkX : k < (mgX xs i k id other).length := by omega
      have hcut : sumI (mgX xs i k id other) = sumI ((mgX xs i k id other).take k) + ((mgX xs i k id other)[k].items.length + sumI ((mgX xs i k id other).drop (k + 1))) := by
        have := List.take_append_drop k (mgX xs i k id other)
        conv => lhs; rw [← this, sumI_append, List.drop_eq_getElem_cons hkX, sumI_cons]
      have hik2 : (mgX xs i k id other)[k].items = xs[k].items := by
        have : (mgX xs i k id other)[k]? = some (mgU id other xs[k]) := by
          rw [hX, List.getElem?_map, List.getElem?_set_ne hik, List.getElem?_eq_getElem hk]; rfl
        rw [List.getElem?_eq_getElem hkX] at this
        injection this with this
        rw [this, mgU_items]
      rw [hik2] at hcut
      have hW : sumI (mgW xs i k id other) = sumI ((mgX xs i k id other).take k) + sumI ((mgX xs i k id other).drop (k + 1)) := by unfold mgW; rw [sumI_append]
      omega
    · rw [h2] at hb; cases hb
  · rw [h1] at hb; cases hb
theorem add_law {t : ByteArray} {u : Int} (h : apB xs t u = true) : lvB (apV xs t u) (apN xs t u) = true ∧ (u = 0 → lvV (apV xs t u) (apN xs t u) = 0) ∧ (u ≠ 0 → lvB (apV xs t u) u = true ∧ lvV (apV xs t u) (apN xs t u) = lvV (apV xs t u) u + 1) := by
  have hG := apB_good h
  rw [apV_yes h, apN_yes h]
  have hn : xs.length < (apL xs t u).length := by unfold apL; simp
  have hlast : (apL xs t u)[xs.length] = ⟨apId xs, t, u, []⟩ := by
    have h1 : (apL xs t u)[xs.length]? = some ⟨apId xs, t, u, []⟩ := by unfold apL; simp
    rw [List.getElem?_eq_getElem hn] at h1
    injection h1
  have hlv : ∀ (j : Nat) (hj : j < (apL xs t u).length), lvB (apL xs t u) (apL xs t u)[j].id = true ∧ lvV (apL xs t u) (apL xs t u)[j].id = (levJ (apL xs t u) j : Int) := fun j hj => by
    rcases lv_of (apL xs t u) (apL xs t u)[j].id hG with ⟨k, hk, e, f, b, v⟩ | ⟨e, _, _⟩
    · have hkj : j = k := good_inj hG hj hk f
      subst hkj
      exact ⟨b, v⟩
    · rw [idx_at hG hj] at e; omega
  have hid : (apL xs t u)[xs.length].id = apId xs := by rw [hlast]
  have hun : (apL xs t u)[xs.length].under = u := by rw [hlast]
  have h0 := hlv xs.length hn
  rw [hid] at h0
  refine ⟨h0.1, fun hu => ?_, fun hu => ?_⟩
  · rw [h0.2, levJ_0 hG hn (by rw [hun]; exact hu)]; rfl
  · obtain ⟨i, hi, e⟩ := good_above hG hn (by rw [hun]; exact hu)
    have h1 := hlv i (by omega)
    rw [e, hun] at h1
    refine ⟨h1.1, ?_⟩
    rw [h0.2, h1.2, levJ_s hG hn hi (by rw [hun]; exact hu) e]
    omega
end
end Go.Proofs.YtpjnlcppjcnlgaaGreatDoor
namespace Go.Proofs.YtpjnlcppjcnlgaaGreatDoor
set_option linter.unusedVariables false
set_option linter.unusedSimpArgs false
open Go.RowKit
attribute [local irreducible] wpQuiet
set_option maxRecDepth 100000 in
set_option maxHeartbeats 2000000 in
theorem specLevelCounts_c (xs : List Page) (A : Option Addr) (c : Nat) (w : World) (hr : RdP w.heap.size w A xs) (hcap : xs.length ≤ c) (hn : xs.length ≤ 1048576) (hs : sumI xs ≤ 1048576) (hw : ∀ x ∈ xs, x.title.size ≤ 9223372036854775807 ∧ x.items.length ≤ 9223372036854775807 ∧ ∀ z ∈ x.items, Fits z) :
    Calls Tryz.prog 14 #[.slice A xs.length c] w (RetL encI 1 (lcV xs) (goodA xs) w) := by
  have HW := Lib.hid hw
  clear hw
  have ho0 := Out.empty (V := Value.int .i64) (E := 3) (base := w.heap.size) (α := Int) w (Nat.le_refl _)
  by_cases hF : goodA xs = false
  · go_enter Tryz.func14, Tryz.ntmps14
    have hbg := (show Below w.heap.size w (w.alloc (.cells #[] 3)) by go_grown)
    have hbx := Below.refl (w.alloc (.cells #[] 3)).heap.size (w.alloc (.cells #[] 3))
    go_wp2_with fail
    refine (l18Good_c xs _ _ _ (hr.go hbg) hcap hn hs HW.out).mono ?_
    rintro e wg0 ⟨rfl, hb0⟩
    have hbg := below_via hbg hb0
    have hbx := below_via hbx hb0
    go_wp2_with fail
    go_returns
    exact ⟨_, _, ret_list (by simp [lcV, hF]) hF.symm, hbg, Own.none_ (by simp [lcV, hF]) (Nat.le_refl _)⟩
  have G0 : goodA xs = true := by simpa using hF
  clear hF
  go_enter Tryz.func14, Tryz.ntmps14
  have hbg := (show Below w.heap.size w (w.alloc (.cells #[] 3)) by go_grown)
  have hbx := Below.refl (w.alloc (.cells #[] 3)).heap.size (w.alloc (.cells #[] 3))
  go_wp2_with fail
  refine (l18Good_c xs _ _ _ (hr.go hbg) hcap hn hs HW.out).mono ?_
  rintro e wg0 ⟨rfl, hb0⟩
  have hbg := below_via hbg hb0
  have hbx := below_via hbx hb0
  have HG := Lib.hid G0
  have hlen := goodA_len G0
  have HBD := Lib.hid (lcK_bd xs (fun k h => (good_base G0 h).2.2.2.1))
  have HLV := Lib.hid (show lcV xs = lcK xs xs.length by unfold lcV; rw [if_pos G0])
  have ho0 := ho0.below hb0
  go_wp2_with fail
  clear G0
  go_loopw [4, 5] (fun u i wr => ∃ k : Nat, k ≤ xs.length ∧ i = .int .i64 k ∧ Out (Value.int .i64) 3 w.heap.size u (lcK xs k) wr ∧ Below w.heap.size w wr) (fun _ i _ => xs.length - (intOf i).toNat)
  case atStart => exact ⟨0, Nat.zero_le _, rfl, ho0, hbg⟩
  case round =>
    obtain ⟨k, hk, rfl, ho, hb⟩ := hrel
    clear ho0
    have hbd := (HBD.out k hk).1
    by_cases hlt : k < xs.length
    · obtain ⟨b, off, Ai, ci, rfl, hbs, d0, d1, d2, d3, hci, hri⟩ := (hr.below hb).page hlt
      have HS := Lib.hid (lcK_s hlt)
      have hll := levJ_le xs k
      have hil : xs[k].items.length ≤ 8 := (good_base HG.out hlt).2.2.2.1
      have HMB := Lib.hid (HBD.out k hk).2
      have hk0 : (0 : Int) ≤ (k : Int) := by omega
      have hk1 : (k : Int) < (xs.length : Int) := by omega
      go_wp2_with fail
      refine (l18Level_c xs _ _ k _ (hr.go hb) HG.out hlt).mono ?_
      rintro _ w2 ⟨rfl, hb2⟩
      have ho := ho.below hb2
      have hbW2 := hb.trans (hb2.mono hb.size)
      generalize lcK xs k = ys at *
      generalize levJ xs k = L at *
      clear hb2 hb d0 d1 d2 d3 hri
      go_wp2_with fail
      go_loopw [4] (fun u wr2 => ∃ m : Nat, m ≤ L + 1 - ys.length ∧ Out (Value.int .i64) 3 w.heap.size u (ys ++ List.replicate m 0) wr2 ∧ Below w.heap.size w wr2) (fun u _ => L + 1 - lenOf u)
      case atStart => exact ⟨0, Nat.zero_le _, by simpa using ho, hbW2⟩
      case round =>
        obtain ⟨m, hm, ho3, hb3⟩ := hrel
        have hlenE : (ys ++ List.replicate m (0 : Int)).length = ys.length + m := by simp
        have HLE := Lib.hid hlenE
        obtain ⟨A3, c3, hu3, _⟩ := ho3.own
        subst hu3
        by_cases hle : ys.length + m ≤ L
        · have hle1 : ((ys ++ List.replicate m (0 : Int)).length : Int) ≤ (L : Int) := by omega
          have hrep : (ys ++ List.replicate m (0 : Int)) ++ [0] = ys ++ List.replicate (m + 1) 0 := by rw [List.append_assoc, ← List.replicate_succ']
          have HRE := Lib.hid hrep
          clear hrep hlenE
          generalize hE : ys ++ List.replicate m (0 : Int) = E at *
          go_wp2_with (at_builtin; refine wpList_push rfl _ _ _ rfl 3 (.int .i64 0) 8 Tryz.underlying36 infoI rfl (0 : Int) rfl ho3 _ rfl (by simp) rfl (by omega) (by omega) (by have := hb3.size; omega) ?_; intro v1 w1 hown1 hbel1)
          rw [HRE.out] at hown1
          obtain ⟨A5, c5, hv5, _⟩ := hown1.own
          go_roundw
          case rel => exact ⟨m + 1, by omega, hown1, hb3.trans hbel1⟩
          case measure =>
            rw [hv5]
            have h9 := HLE.out
            simp only [lenOf, List.length_append, List.length_replicate]
            omega
        · have hme : m = L + 1 - ys.length := by omega
          have hnle : ¬ ((ys ++ List.replicate m (0 : Int)).length : Int) ≤ (L : Int) := by omega
          have hEx : ys ++ List.replicate m (0 : Int) = lcExt ys L := by rw [hme]; rfl
          rw [hEx] at ho3 hnle ⊢
          have hLl := lcExt_len ys L
          have hgd : (lcExt ys L).getD L 0 = (lcExt ys L)[L]'hLl.1 := by rw [List.getD_eq_getElem?_getD, List.getElem?_eq_getElem hLl.1]; rfl
          have hst : lcStep ys L xs[k].items.length = (lcExt ys L).set L ((lcExt ys L)[L]'hLl.1 + (xs[k].items.length : Int)) := by unfold lcStep; rw [hgd]
          have HST := Lib.hid (HS.out.trans hst)
          have hvs : ∀ v ∈ lcExt ys L, 0 ≤ v ∧ v ≤ 8 * (k : Int) := fun v hv => by
            unfold lcExt at hv
            rcases List.mem_append.1 hv with h | h
            · exact HMB.out _ h
            · have := List.eq_of_mem_replicate h; omega
          have hval := hvs _ (List.getElem_mem hLl.1)
          clear hvs
          clear hEx hme hst hgd hlenE HLE
          obtain ⟨g, cap, hv6, hg0, hgl, hgc, hgf⟩ := ho3.some_ (by omega)
          injection hv6 with hv6 _ hv7
          subst hv6 hv7
          have hgL := hgc L hLl.1
          clear hgc
          obtain ⟨b', off', Aj, cj, hA, _, _, _, _, e3, _, _⟩ := (hr.below hb3).page hlt
          obtain ⟨rfl, rfl⟩ := addr_eq hA
          clear hA
          have hset := ho3.set_ (j := L) ((lcExt ys L)[L]'hLl.1 + (xs[k].items.length : Int))
          obtain ⟨hv0, hv1⟩ := hval
          have hL0 : (0 : Int) ≤ (L : Int) := by omega
          have hL1 : (L : Int) < ((lcExt ys L).length : Int) := by omega
          have hL2 : (L : Int) ≤ ((lcExt ys L).length : Int) := by omega
          generalize (lcExt ys L)[L]'hLl.1 = q at *
          have hb7 := (hb3.setCell (p := ⟨g, L, none⟩) hg0 (.int .i64 (q + (xs[k].items.length : Int)))).drew
          go_wp2_with fail
          try go_region
          all_goals try go_wp2_with fail
          go_roundw
          case rel => exact ⟨k + 1, by omega, by go_num, by rw [HST.out]; exact hset, hb7⟩
          case measure => simp [intOf]; omega
    · have hke : k = xs.length := by omega
      obtain ⟨A6, c6, rfl, hown⟩ := ho.own
      have HE := Lib.hid (show lcV xs = lcK xs k by rw [HLV.out, hke])
      go_wp2_with fail
      go_returns
      exact ⟨A6, c6, ret_list (by rw [HE.out]) HG.out.symm, hb, hown.cast HE.out.symm⟩
end Go.Proofs.YtpjnlcppjcnlgaaGreatDoor
