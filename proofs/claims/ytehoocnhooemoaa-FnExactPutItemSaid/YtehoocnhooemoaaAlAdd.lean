/- AddPage: the plain words and the contracts of the program and the reference. No condition but the sizes. -/
import Derived.Test.YtehoocnhooemoaaAlRes
namespace Go.Proofs.Ytehoocnhooemoaa
set_option linter.unusedVariables false
set_option linter.unusedSimpArgs false
open Go.RowKit
attribute [local irreducible] wpQuiet
def apId (xs : List Page) : Int := match xs[xs.length - 1]? with | none => 1 | some p => p.id + 1
def apL (xs : List Page) (t : ByteArray) (u : Int) : List Page := xs ++ [⟨apId xs, t, u, []⟩]
def apB (xs : List Page) (t : ByteArray) (u : Int) : Bool := goodA xs && goodA (apL xs t u)
def apV (xs : List Page) (t : ByteArray) (u : Int) : List Page := ifA (apL xs t u) (apB xs t u)
def apN (xs : List Page) (t : ByteArray) (u : Int) : Int := if apB xs t u = true then apId xs else 0
section
variable {xs : List Page} {t : ByteArray} {u : Int}
theorem apB_good (h : apB xs t u = true) : goodA (apL xs t u) = true := by unfold apB at h; exact (Bool.and_eq_true _ _ ▸ h).2
theorem apV_len (xs : List Page) (t : ByteArray) (u : Int) : (apV xs t u).length ≤ 2097152 := ifA_len apB_good
theorem apV_sum (xs : List Page) (t : ByteArray) (u : Int) : sumI (apV xs t u) ≤ 2097152 := ifA_sum apB_good
theorem apV_no (h : apB xs t u = false) : apV xs t u = [] := ifA_no h
theorem apV_yes (h : apB xs t u = true) : apV xs t u = apL xs t u := ifA_yes h
theorem apN_no (h : apB xs t u = false) : apN xs t u = 0 := by simp [apN, h]
theorem apN_yes (h : apB xs t u = true) : apN xs t u = apId xs := by simp [apN, h]
theorem apB_bad (h : goodA xs = false) : apB xs t u = false := by simp [apB, h]
theorem apB_ok (h : goodA xs = true) : apB xs t u = goodA (apL xs t u) := by simp [apB, h]
theorem apId_0 (h : xs.length = 0) : apId xs = 1 := by unfold apId; rw [List.getElem?_eq_none (by omega)]
theorem apId_s (h : 0 < xs.length) : apId xs = (xs[xs.length - 1]'(by omega)).id + 1 := by unfold apId; rw [List.getElem?_eq_getElem (by omega)]
end
/-- The call returns an album of its own, a number, and b. -/
def RetA3 (ps : List Page) (n : Int) (b : Bool) (w : World) (e : Ending) (w' : World) : Prop := ∃ B c', e = .returned (.tuple #[.slice B ps.length c', .int .i64 n, .bool b]) ∧ Below w.heap.size w w' ∧ OwnP w.heap.size w'.heap.size w' B ps
theorem ret_a3 {b b' : Bool} {A : Option Addr} {n m c : Nat} {x y : Int} (hn : n = m) (hx : x = y) (hb : b = b') : Ending.returned (.tuple #[.slice A n c, .int .i64 x, .bool b]) = .returned (.tuple #[.slice A m c, .int .i64 y, .bool b']) := by rw [hn, hb, hx]
set_option maxRecDepth 100000 in
set_option maxHeartbeats 1600000 in
theorem implAddPage_c (xs : List Page) (A : Option Addr) (c : Nat) (t : ByteArray) (u : Int) (w : World) (hr : RdP w.heap.size w A xs) (hcap : xs.length ≤ c) (hn : xs.length ≤ 1048576) (hs : sumI xs ≤ 1048576) (hw : ∀ x ∈ xs, x.title.size ≤ 9223372036854775807 ∧ x.items.length ≤ 9223372036854775807 ∧ ∀ z ∈ x.items, Fits z) (ht : t.size ≤ 9223372036854775807) (hu : -9223372036854775808 ≤ u ∧ u ≤ 9223372036854775807) :
    Calls Try.prog 11 #[.slice A xs.length c, .string t, .int .i64 u] w (RetA3 (apV xs t u) (apN xs t u) (apB xs t u) w) := by
  have HW := Lib.hid hw
  clear hw
  go_enter Try.func11, Try.ntmps11
  go_wp2_with fail
  refine (isAlbum_c xs _ _ _ hr hcap hn hs HW.out).mono ?_
  rintro _ w2 ⟨rfl, hbg⟩
  cases hG : goodA xs with
  | false =>
    have HB := Lib.hid (apB_bad (t := t) (u := u) hG)
    clear hG
    go_wp2_with fail
    go_returns
    exact ⟨_, _, ret_a3 (by rw [apV_no HB.out]; rfl) (apN_no HB.out).symm HB.out.symm, hbg, OwnP.none_ (apV_no HB.out) (Nat.le_refl _)⟩
  | true =>
    have HG := Lib.hid hG
    have HB := Lib.hid (apB_ok (t := t) (u := u) hG)
    have hlen := goodA_len hG
    have h96 := goodA_sum hG
    clear hG
    by_cases h0 : xs.length = 0
    · have HI := Lib.hid (apId_0 h0)
      have h0' : ¬ (0 : Int) < (xs.length : Int) := by omega
      clear h0
      go_wp2_with fail
      refine (copyAlbum_c xs _ _ _ (hr.go hbg) hn hs).mono ?_
      rintro _ w3 ⟨v, ix, ms, rfl, hb3, hC⟩
      have hml := hC.len
      have hb5 : Below w3.heap.size w3 (w3.alloc (.cells #[.int .i64 1, .string t, .int .i64 u, .slice none 0 0] 44)) := (Below.refl _ _).alloc (Nat.le_refl _) _
      have hout := hC.out.below hb5
      have hn4 : (ms.length + 1) * 56 ≤ 140737488355328 := by omega
      have hlb := hb3.size
      go_wp2_with (at_builtin; refine wp_appH rfl _ _ _ rfl 44 (.agg #[.int .i64 0, .string ⟨#[]⟩, .int .i64 0, .slice none 0 0]) 4 56 Try.underlying24 infoPage rfl (by decide) encPM_len onePM (base := w2.heap.size) (m := 1) (ys := ms) (zs := [(⟨1, t, u, none, 0, 0⟩ : PageM)]) rfl rfl rfl hout (rd_new (x := (⟨1, t, u, none, 0, 0⟩ : PageM)) (vs := [.int .i64 1, .string t, .int .i64 u, .slice none 0 0]) rfl rfl) (by omega) (by omega) (by simp; omega) ?_; intro v7 w7 ho7 hg7 hv7)
      obtain ⟨ix', hC7⟩ := hC.push (p := ⟨1, t, u, []⟩) (A3 := none) (c3 := 0) (base := w3.heap.size) hb5 hlb (Out.nil _) (Nat.le_refl _) ho7 hg7 hv7
      have hbl := Below.grown ((below_via hbg hb3).trans (hb5.mono (Nat.le_trans hbg.size hlb))) hg7 (by have := hbg.size; simp; omega) (fun g hg => Nat.le_trans hbg.size (hC.out.from_ g hg))
      have hQl : (xs ++ [(⟨1, t, u, []⟩ : Page)]).length = xs.length + 1 := by simp
      have hQs : sumI (xs ++ [(⟨1, t, u, []⟩ : Page)]) = sumI xs := by rw [sumI_append]; simp [sumI]
      have HWQ : Hid (∀ x ∈ xs ++ [(⟨1, t, u, []⟩ : Page)], x.title.size ≤ 9223372036854775807 ∧ x.items.length ≤ 9223372036854775807 ∧ ∀ z ∈ x.items, Fits z) := Lib.hid (fun x hx => by
        rcases List.mem_append.1 hx with h | h
        · exact HW.out x h
        · rw [List.mem_singleton] at h; subst h; exact ⟨ht, by simp, fun z hz => by cases hz⟩)
      have HQ := Lib.hid (show apL xs t u = xs ++ [(⟨1, t, u, []⟩ : Page)] by unfold apL; rw [HI.out])
      rw [HQ.out] at HB
      generalize xs ++ [(⟨1, t, u, []⟩ : Page)] = Q at *
      obtain ⟨A4, c4, rfl, hc4, hOw⟩ := hC7.shape
      have hlw := hbg.size
      have HQL := Lib.hid hQl
      clear hC hC7 hout hb5 ho7 hg7 hv7
      refine (albumResult_c Q _ _ _ hOw.rd hc4 (by omega) (by omega) HWQ.out).mono ?_
      rintro _ w8 ⟨hb8, hcs⟩
      have hOw := hOw.go hb8
      have hbl := below_via hbl hb8
      have HI := HI
      rcases hcs with ⟨hgd, rfl⟩ | ⟨hgd, rfl⟩
      · have HB := Lib.hid (HB.out.trans hgd)
        go_wp2_with fail
        go_returns
        exact ⟨_, _, ret_a3 (by rw [apV_yes HB.out, HQ.out, HQL.out]) (by rw [apN_yes HB.out, HI.out]) HB.out.symm, hbl, (hOw.wide hlw hb8.size (Nat.le_refl _)).cast (by rw [apV_yes HB.out, HQ.out])⟩
      · have HB := Lib.hid (HB.out.trans hgd)
        go_wp2_with fail
        go_returns
        exact ⟨_, _, ret_a3 (by rw [apV_no HB.out]; rfl) (apN_no HB.out).symm HB.out.symm, hbl, OwnP.none_ (apV_no HB.out) (Nat.le_refl _)⟩
    · have HI := Lib.hid (apId_s (show 0 < xs.length by omega))
      have h0' : (0 : Int) < (xs.length : Int) := by omega
      have hlast : xs.length - 1 < xs.length := by omega
      obtain ⟨b, off, Ai, ci, hA, hbs, d0, d1, d2, d3, hci, hri⟩ := (hr.go hbg).page hlast
      have hgb := good_base HG.out hlast
      have hid1 : 1 ≤ xs[xs.length - 1].id := hgb.1
      have hid2 : xs[xs.length - 1].id ≤ 99 := hgb.2.1
      clear hgb d1 d2 d3 hri
      subst hA
      generalize xs[xs.length - 1].id = q at *
      go_wp2_with fail
      refine (copyAlbum_c xs _ _ _ (hr.go hbg) hn hs).mono ?_
      rintro _ w3 ⟨v, ix, ms, rfl, hb3, hC⟩
      have hml := hC.len
      have hb5 : Below w3.heap.size w3 (w3.alloc (.cells #[.int .i64 (q + 1), .string t, .int .i64 u, .slice none 0 0] 44)) := (Below.refl _ _).alloc (Nat.le_refl _) _
      have hout := hC.out.below hb5
      have hn4 : (ms.length + 1) * 56 ≤ 140737488355328 := by omega
      have hlb := hb3.size
      go_wp2_with (at_builtin; refine wp_appH rfl _ _ _ rfl 44 (.agg #[.int .i64 0, .string ⟨#[]⟩, .int .i64 0, .slice none 0 0]) 4 56 Try.underlying24 infoPage rfl (by decide) encPM_len onePM (base := w2.heap.size) (m := 1) (ys := ms) (zs := [(⟨(q + 1), t, u, none, 0, 0⟩ : PageM)]) rfl rfl rfl hout (rd_new (x := (⟨(q + 1), t, u, none, 0, 0⟩ : PageM)) (vs := [.int .i64 (q + 1), .string t, .int .i64 u, .slice none 0 0]) rfl rfl) (by omega) (by omega) (by simp; omega) ?_; intro v7 w7 ho7 hg7 hv7)
      obtain ⟨ix', hC7⟩ := hC.push (p := ⟨(q + 1), t, u, []⟩) (A3 := none) (c3 := 0) (base := w3.heap.size) hb5 hlb (Out.nil _) (Nat.le_refl _) ho7 hg7 hv7
      have hbl := Below.grown ((below_via hbg hb3).trans (hb5.mono (Nat.le_trans hbg.size hlb))) hg7 (by have := hbg.size; simp; omega) (fun g hg => Nat.le_trans hbg.size (hC.out.from_ g hg))
      have hQl : (xs ++ [(⟨(q + 1), t, u, []⟩ : Page)]).length = xs.length + 1 := by simp
      have hQs : sumI (xs ++ [(⟨(q + 1), t, u, []⟩ : Page)]) = sumI xs := by rw [sumI_append]; simp [sumI]
      have HWQ : Hid (∀ x ∈ xs ++ [(⟨(q + 1), t, u, []⟩ : Page)], x.title.size ≤ 9223372036854775807 ∧ x.items.length ≤ 9223372036854775807 ∧ ∀ z ∈ x.items, Fits z) := Lib.hid (fun x hx => by
        rcases List.mem_append.1 hx with h | h
        · exact HW.out x h
        · rw [List.mem_singleton] at h; subst h; exact ⟨ht, by simp, fun z hz => by cases hz⟩)
      have HQ := Lib.hid (show apL xs t u = xs ++ [(⟨(q + 1), t, u, []⟩ : Page)] by unfold apL; rw [HI.out])
      rw [HQ.out] at HB
      generalize xs ++ [(⟨(q + 1), t, u, []⟩ : Page)] = Q at *
      obtain ⟨A4, c4, rfl, hc4, hOw⟩ := hC7.shape
      have hlw := hbg.size
      have HQL := Lib.hid hQl
      clear hC hC7 hout hb5 ho7 hg7 hv7
      refine (albumResult_c Q _ _ _ hOw.rd hc4 (by omega) (by omega) HWQ.out).mono ?_
      rintro _ w8 ⟨hb8, hcs⟩
      have hOw := hOw.go hb8
      have hbl := below_via hbl hb8
      have HI := HI
      rcases hcs with ⟨hgd, rfl⟩ | ⟨hgd, rfl⟩
      · have HB := Lib.hid (HB.out.trans hgd)
        go_wp2_with fail
        go_returns
        exact ⟨_, _, ret_a3 (by rw [apV_yes HB.out, HQ.out, HQL.out]) (by rw [apN_yes HB.out, HI.out]) HB.out.symm, hbl, (hOw.wide hlw hb8.size (Nat.le_refl _)).cast (by rw [apV_yes HB.out, HQ.out])⟩
      · have HB := Lib.hid (HB.out.trans hgd)
        go_wp2_with fail
        go_returns
        exact ⟨_, _, ret_a3 (by rw [apV_no HB.out]; rfl) (apN_no HB.out).symm HB.out.symm, hbl, OwnP.none_ (apV_no HB.out) (Nat.le_refl _)⟩
set_option maxRecDepth 100000 in
set_option maxHeartbeats 1600000 in
theorem specAddPage_c (xs : List Page) (A : Option Addr) (c : Nat) (t : ByteArray) (u : Int) (w : World) (hr : RdP w.heap.size w A xs) (hcap : xs.length ≤ c) (hn : xs.length ≤ 1048576) (hs : sumI xs ≤ 1048576) (hw : ∀ x ∈ xs, x.title.size ≤ 9223372036854775807 ∧ x.items.length ≤ 9223372036854775807 ∧ ∀ z ∈ x.items, Fits z) (ht : t.size ≤ 9223372036854775807) (hu : -9223372036854775808 ≤ u ∧ u ≤ 9223372036854775807) :
    Calls Try.prog 9 #[.slice A xs.length c, .string t, .int .i64 u] w (RetA3 (apV xs t u) (apN xs t u) (apB xs t u) w) := by
  have HW := Lib.hid hw
  clear hw
  have hbg := Below.refl w.heap.size w
  cases hG : goodA xs with
  | false =>
    have HG := Lib.hid hG
    have HB := Lib.hid (apB_bad (t := t) (u := u) hG)
    clear hG
    by_cases h0 : xs.length = 0
    · have h0' : ¬ (0 : Int) < (xs.length : Int) := by omega
      clear h0
      go_enter Try.func9, Try.ntmps9
      go_wp2_with fail
      refine (l18Own_c xs _ _ _ (hr.go hbg) hn hs).mono ?_
      rintro _ w3 ⟨v, ix, ms, rfl, hb3, hC⟩
      have hml := hC.len
      have hb5 : Below w3.heap.size w3 (w3.alloc (.cells #[.int .i64 1, .string t, .int .i64 u, .slice none 0 0] 44)) := (Below.refl _ _).alloc (Nat.le_refl _) _
      have hout := hC.out.below hb5
      have hn4 : (ms.length + 1) * 56 ≤ 140737488355328 := by omega
      have hlb := hb3.size
      go_wp2_with (at_builtin; refine wp_appH rfl _ _ _ rfl 44 (.agg #[.int .i64 0, .string ⟨#[]⟩, .int .i64 0, .slice none 0 0]) 4 56 Try.underlying24 infoPage rfl (by decide) encPM_len onePM (base := w.heap.size) (m := 1) (ys := ms) (zs := [(⟨1, t, u, none, 0, 0⟩ : PageM)]) rfl rfl rfl hout (rd_new (x := (⟨1, t, u, none, 0, 0⟩ : PageM)) (vs := [.int .i64 1, .string t, .int .i64 u, .slice none 0 0]) rfl rfl) (by omega) (by omega) (by simp; omega) ?_; intro v7 w7 ho7 hg7 hv7)
      have hbl := Below.grown ((below_via hbg hb3).trans (hb5.mono (Nat.le_trans hbg.size hlb))) hg7 (by have := hbg.size; simp; omega) (fun g hg => Nat.le_trans hbg.size (hC.out.from_ g hg))
      clear hC hout hb5 ho7 hg7 hv7
      refine (l18Good_c xs _ _ _ (hr.go hbl) hcap hn hs HW.out).mono ?_
      rw [HG.out]
      rintro _ w8 ⟨rfl, hb8⟩
      have hbl := below_via hbl hb8
      go_wp2_with fail
      go_returns
      exact ⟨_, _, ret_a3 (by rw [apV_no HB.out]; rfl) (apN_no HB.out).symm HB.out.symm, below_via hbl (by go_grown), OwnP.none_ (apV_no HB.out) (Nat.le_refl _)⟩
    · have h0' : (0 : Int) < (xs.length : Int) := by omega
      have hlast : xs.length - 1 < xs.length := by omega
      obtain ⟨b, off, Ai, ci, hA, hbs, d0, d1, d2, d3, hci, hri⟩ := hr.page hlast
      clear d1 d2 d3 hri
      subst hA
      generalize xs[xs.length - 1].id = q at *
      go_enter Try.func9, Try.ntmps9
      go_wp2_with fail
      generalize wrap64 (q + 1) = q2 at *
      refine (l18Own_c xs _ _ _ (hr.go hbg) hn hs).mono ?_
      rintro _ w3 ⟨v, ix, ms, rfl, hb3, hC⟩
      have hml := hC.len
      have hb5 : Below w3.heap.size w3 (w3.alloc (.cells #[.int .i64 q2, .string t, .int .i64 u, .slice none 0 0] 44)) := (Below.refl _ _).alloc (Nat.le_refl _) _
      have hout := hC.out.below hb5
      have hn4 : (ms.length + 1) * 56 ≤ 140737488355328 := by omega
      have hlb := hb3.size
      go_wp2_with (at_builtin; refine wp_appH rfl _ _ _ rfl 44 (.agg #[.int .i64 0, .string ⟨#[]⟩, .int .i64 0, .slice none 0 0]) 4 56 Try.underlying24 infoPage rfl (by decide) encPM_len onePM (base := w.heap.size) (m := 1) (ys := ms) (zs := [(⟨q2, t, u, none, 0, 0⟩ : PageM)]) rfl rfl rfl hout (rd_new (x := (⟨q2, t, u, none, 0, 0⟩ : PageM)) (vs := [.int .i64 q2, .string t, .int .i64 u, .slice none 0 0]) rfl rfl) (by omega) (by omega) (by simp; omega) ?_; intro v7 w7 ho7 hg7 hv7)
      have hbl := Below.grown ((below_via hbg hb3).trans (hb5.mono (Nat.le_trans hbg.size hlb))) hg7 (by have := hbg.size; simp; omega) (fun g hg => Nat.le_trans hbg.size (hC.out.from_ g hg))
      clear hC hout hb5 ho7 hg7 hv7
      refine (l18Good_c xs _ _ _ (hr.go hbl) hcap hn hs HW.out).mono ?_
      rw [HG.out]
      rintro _ w8 ⟨rfl, hb8⟩
      have hbl := below_via hbl hb8
      go_wp2_with fail
      go_returns
      exact ⟨_, _, ret_a3 (by rw [apV_no HB.out]; rfl) (apN_no HB.out).symm HB.out.symm, below_via hbl (by go_grown), OwnP.none_ (apV_no HB.out) (Nat.le_refl _)⟩
  | true =>
    have HG := Lib.hid hG
    have HB := Lib.hid (apB_ok (t := t) (u := u) hG)
    have hlen := goodA_len hG
    have h96 := goodA_sum hG
    clear hG
    by_cases h0 : xs.length = 0
    · have HI := Lib.hid (apId_0 h0)
      have h0' : ¬ (0 : Int) < (xs.length : Int) := by omega
      clear h0
      go_enter Try.func9, Try.ntmps9
      go_wp2_with fail
      refine (l18Own_c xs _ _ _ (hr.go hbg) hn hs).mono ?_
      rintro _ w3 ⟨v, ix, ms, rfl, hb3, hC⟩
      have hml := hC.len
      have hb5 : Below w3.heap.size w3 (w3.alloc (.cells #[.int .i64 1, .string t, .int .i64 u, .slice none 0 0] 44)) := (Below.refl _ _).alloc (Nat.le_refl _) _
      have hout := hC.out.below hb5
      have hn4 : (ms.length + 1) * 56 ≤ 140737488355328 := by omega
      have hlb := hb3.size
      go_wp2_with (at_builtin; refine wp_appH rfl _ _ _ rfl 44 (.agg #[.int .i64 0, .string ⟨#[]⟩, .int .i64 0, .slice none 0 0]) 4 56 Try.underlying24 infoPage rfl (by decide) encPM_len onePM (base := w.heap.size) (m := 1) (ys := ms) (zs := [(⟨1, t, u, none, 0, 0⟩ : PageM)]) rfl rfl rfl hout (rd_new (x := (⟨1, t, u, none, 0, 0⟩ : PageM)) (vs := [.int .i64 1, .string t, .int .i64 u, .slice none 0 0]) rfl rfl) (by omega) (by omega) (by simp; omega) ?_; intro v7 w7 ho7 hg7 hv7)
      obtain ⟨ix', hC7⟩ := hC.push (p := ⟨1, t, u, []⟩) (A3 := none) (c3 := 0) (base := w3.heap.size) hb5 hlb (Out.nil _) (Nat.le_refl _) ho7 hg7 hv7
      have hbl := Below.grown ((below_via hbg hb3).trans (hb5.mono (Nat.le_trans hbg.size hlb))) hg7 (by have := hbg.size; simp; omega) (fun g hg => Nat.le_trans hbg.size (hC.out.from_ g hg))
      have hQl : (xs ++ [(⟨1, t, u, []⟩ : Page)]).length = xs.length + 1 := by simp
      have hQs : sumI (xs ++ [(⟨1, t, u, []⟩ : Page)]) = sumI xs := by rw [sumI_append]; simp [sumI]
      have HWQ : Hid (∀ x ∈ xs ++ [(⟨1, t, u, []⟩ : Page)], x.title.size ≤ 9223372036854775807 ∧ x.items.length ≤ 9223372036854775807 ∧ ∀ z ∈ x.items, Fits z) := Lib.hid (fun x hx => by
        rcases List.mem_append.1 hx with h | h
        · exact HW.out x h
        · rw [List.mem_singleton] at h; subst h; exact ⟨ht, by simp, fun z hz => by cases hz⟩)
      have HQ := Lib.hid (show apL xs t u = xs ++ [(⟨1, t, u, []⟩ : Page)] by unfold apL; rw [HI.out])
      rw [HQ.out] at HB
      generalize xs ++ [(⟨1, t, u, []⟩ : Page)] = Q at *
      obtain ⟨A4, c4, rfl, hc4, hOw⟩ := hC7.shape
      have hlw := hbg.size
      have HQL := Lib.hid hQl
      clear hC hC7 hout hb5 ho7 hg7 hv7
      clear hQl
      refine (l18Good_c xs _ _ _ (hr.go hbl) hcap (by omega) (by omega) HW.out).mono ?_
      rw [HG.out]
      rintro _ w8 ⟨rfl, hb8⟩
      have hOw := hOw.go hb8
      have hbl := below_via hbl hb8
      go_wp2_with fail
      refine (l18Good_c Q _ _ _ hOw.rd hc4 (by have := HQL.out; omega) (by omega) HWQ.out).mono ?_
      rintro _ w9 ⟨rfl, hb9⟩
      have hOw := hOw.go hb9
      have hbl := below_via hbl hb9
      have hsz9 := Nat.le_trans hb8.size hb9.size
      cases hgd : goodA Q with
      | true =>
        have HB := Lib.hid (HB.out.trans hgd)
        go_wp2_with fail
        go_returns
        exact ⟨_, _, ret_a3 (by rw [apV_yes HB.out, HQ.out]) (by rw [apN_yes HB.out, HI.out]) HB.out.symm, hbl, (hOw.wide hlw hsz9 (Nat.le_refl _)).cast (by rw [apV_yes HB.out, HQ.out])⟩
      | false =>
        have HB := Lib.hid (HB.out.trans hgd)
        go_wp2_with fail
        go_returns
        exact ⟨_, _, ret_a3 (by rw [apV_no HB.out]; rfl) (apN_no HB.out).symm HB.out.symm, below_via hbl (by go_grown), OwnP.none_ (apV_no HB.out) (Nat.le_refl _)⟩
    · have HI := Lib.hid (apId_s (show 0 < xs.length by omega))
      have h0' : (0 : Int) < (xs.length : Int) := by omega
      have hlast : xs.length - 1 < xs.length := by omega
      obtain ⟨b, off, Ai, ci, hA, hbs, d0, d1, d2, d3, hci, hri⟩ := (hr.go hbg).page hlast
      have hgb := good_base HG.out hlast
      have hid1 : 1 ≤ xs[xs.length - 1].id := hgb.1
      have hid2 : xs[xs.length - 1].id ≤ 99 := hgb.2.1
      clear hgb d1 d2 d3 hri
      subst hA
      generalize xs[xs.length - 1].id = q at *
      go_enter Try.func9, Try.ntmps9
      go_wp2_with fail
      refine (l18Own_c xs _ _ _ (hr.go hbg) hn hs).mono ?_
      rintro _ w3 ⟨v, ix, ms, rfl, hb3, hC⟩
      have hml := hC.len
      have hb5 : Below w3.heap.size w3 (w3.alloc (.cells #[.int .i64 (q + 1), .string t, .int .i64 u, .slice none 0 0] 44)) := (Below.refl _ _).alloc (Nat.le_refl _) _
      have hout := hC.out.below hb5
      have hn4 : (ms.length + 1) * 56 ≤ 140737488355328 := by omega
      have hlb := hb3.size
      go_wp2_with (at_builtin; refine wp_appH rfl _ _ _ rfl 44 (.agg #[.int .i64 0, .string ⟨#[]⟩, .int .i64 0, .slice none 0 0]) 4 56 Try.underlying24 infoPage rfl (by decide) encPM_len onePM (base := w.heap.size) (m := 1) (ys := ms) (zs := [(⟨(q + 1), t, u, none, 0, 0⟩ : PageM)]) rfl rfl rfl hout (rd_new (x := (⟨(q + 1), t, u, none, 0, 0⟩ : PageM)) (vs := [.int .i64 (q + 1), .string t, .int .i64 u, .slice none 0 0]) rfl rfl) (by omega) (by omega) (by simp; omega) ?_; intro v7 w7 ho7 hg7 hv7)
      obtain ⟨ix', hC7⟩ := hC.push (p := ⟨(q + 1), t, u, []⟩) (A3 := none) (c3 := 0) (base := w3.heap.size) hb5 hlb (Out.nil _) (Nat.le_refl _) ho7 hg7 hv7
      have hbl := Below.grown ((below_via hbg hb3).trans (hb5.mono (Nat.le_trans hbg.size hlb))) hg7 (by have := hbg.size; simp; omega) (fun g hg => Nat.le_trans hbg.size (hC.out.from_ g hg))
      have hQl : (xs ++ [(⟨(q + 1), t, u, []⟩ : Page)]).length = xs.length + 1 := by simp
      have hQs : sumI (xs ++ [(⟨(q + 1), t, u, []⟩ : Page)]) = sumI xs := by rw [sumI_append]; simp [sumI]
      have HWQ : Hid (∀ x ∈ xs ++ [(⟨(q + 1), t, u, []⟩ : Page)], x.title.size ≤ 9223372036854775807 ∧ x.items.length ≤ 9223372036854775807 ∧ ∀ z ∈ x.items, Fits z) := Lib.hid (fun x hx => by
        rcases List.mem_append.1 hx with h | h
        · exact HW.out x h
        · rw [List.mem_singleton] at h; subst h; exact ⟨ht, by simp, fun z hz => by cases hz⟩)
      have HQ := Lib.hid (show apL xs t u = xs ++ [(⟨(q + 1), t, u, []⟩ : Page)] by unfold apL; rw [HI.out])
      rw [HQ.out] at HB
      generalize xs ++ [(⟨(q + 1), t, u, []⟩ : Page)] = Q at *
      obtain ⟨A4, c4, rfl, hc4, hOw⟩ := hC7.shape
      have hlw := hbg.size
      have HQL := Lib.hid hQl
      clear hC hC7 hout hb5 ho7 hg7 hv7
      clear hQl
      refine (l18Good_c xs _ _ _ (hr.go hbl) hcap (by omega) (by omega) HW.out).mono ?_
      rw [HG.out]
      rintro _ w8 ⟨rfl, hb8⟩
      have hOw := hOw.go hb8
      have hbl := below_via hbl hb8
      go_wp2_with fail
      refine (l18Good_c Q _ _ _ hOw.rd hc4 (by have := HQL.out; omega) (by omega) HWQ.out).mono ?_
      rintro _ w9 ⟨rfl, hb9⟩
      have hOw := hOw.go hb9
      have hbl := below_via hbl hb9
      have hsz9 := Nat.le_trans hb8.size hb9.size
      cases hgd : goodA Q with
      | true =>
        have HB := Lib.hid (HB.out.trans hgd)
        go_wp2_with fail
        go_returns
        exact ⟨_, _, ret_a3 (by rw [apV_yes HB.out, HQ.out]) (by rw [apN_yes HB.out, HI.out]) HB.out.symm, hbl, (hOw.wide hlw hsz9 (Nat.le_refl _)).cast (by rw [apV_yes HB.out, HQ.out])⟩
      | false =>
        have HB := Lib.hid (HB.out.trans hgd)
        go_wp2_with fail
        go_returns
        exact ⟨_, _, ret_a3 (by rw [apV_no HB.out]; rfl) (apN_no HB.out).symm HB.out.symm, below_via hbl (by go_grown), OwnP.none_ (apV_no HB.out) (Nat.le_refl _)⟩
end Go.Proofs.Ytehoocnhooemoaa
