/- Contracts of IsAlbum, LevelOf, PageWith: the program's and the reference's. No condition but the sizes. -/
import Derived.Test.YtpjnlcppjcnlgaaGreatDoorAlGs
import Derived.Test.YtpjnlcppjcnlgaaGreatDoorAlPlain2
namespace Go.Proofs.YtpjnlcppjcnlgaaGreatDoor
set_option linter.unusedVariables false
set_option linter.unusedSimpArgs false
open Go.RowKit
attribute [local irreducible] wpQuiet
def pwB (xs : List Page) (z : Int) : Bool := goodA xs && inR z 1 999
def pwV (xs : List Page) (z : Int) : Int := if pwB xs z = true then (match xs.find? (hasP z) with | some p => p.id | none => 0) else 0
theorem pw_of (xs : List Page) (z : Int) (hb : pwB xs z = true) : (∃ j, ∃ (hj : j < xs.length), idxI (hasP z) xs = (j : Int) ∧ pwV xs z = xs[j].id) ∨ (idxI (hasP z) xs = -1 ∧ pwV xs z = 0) := by
  unfold pwV
  rw [if_pos hb]
  unfold idxI
  cases h : xs.findIdx? (hasP z) with
  | none =>
    right
    have : ∀ x ∈ xs, hasP z x = false := by simpa using h
    exact ⟨rfl, by rw [List.find?_eq_none.2 (fun x hx => by rw [this x hx]; exact Bool.false_ne_true)]⟩
  | some i =>
    left
    rw [List.findIdx?_eq_some_iff_getElem] at h
    obtain ⟨hi, hp, hlt⟩ := h
    have hf : xs.find? (hasP z) = some xs[i] := by
      rw [List.find?_eq_some_iff_getElem]
      exact ⟨hp, i, hi, rfl, fun j hj => by have := hlt j hj; simpa using this⟩
    exact ⟨i, hi, rfl, by rw [hf]⟩
set_option maxHeartbeats 1000000 in
theorem implPageWith_c (xs : List Page) (A : Option Addr) (c : Nat) (z : Int) (w : World) (hr : RdP w.heap.size w A xs) (hcap : xs.length ≤ c) (hn : xs.length ≤ 1048576) (hs : sumI xs ≤ 1048576) (hw : ∀ x ∈ xs, x.title.size ≤ 9223372036854775807 ∧ x.items.length ≤ 9223372036854775807 ∧ ∀ z ∈ x.items, Fits z) (hz : -9223372036854775808 ≤ z ∧ z ≤ 9223372036854775807) :
    Calls Tryz.prog 23 #[.slice A xs.length c, .int .i64 z] w (Ret (.tuple #[.int .i64 (pwV xs z), .bool (pwB xs z)]) w) := by
  have HW := Lib.hid hw
  clear hw
  by_cases hF : goodA xs = false
  · go_enter Tryz.func23, Tryz.ntmps23
    have hbg := Below.refl w.heap.size w
    go_wp2_with fail
    refine (isAlbum_c xs _ _ _ (hr.go hbg) hcap hn hs HW.out).mono ?_
    rintro e wg0 ⟨rfl, hb0⟩
    have hbg := below_via hbg hb0
    go_wp2_with fail
    go_returns
    have HB : pwB xs z = false := by simp [pwB, hF]
    exact ⟨ret2 (by simp [pwV, HB]) (vb HB.symm), hbg⟩
  have G0 : goodA xs = true := by simpa using hF
  clear hF
  by_cases hF : inR z 1 999 = false
  · go_enter Tryz.func23, Tryz.ntmps23
    have hbg := Below.refl w.heap.size w
    go_wp2_with fail
    refine (isAlbum_c xs _ _ _ (hr.go hbg) hcap hn hs HW.out).mono ?_
    rintro e wg0 ⟨rfl, hb0⟩
    have hbg := below_via hbg hb0
    go_wp2_with fail
    refine (isItem_c _ _).mono ?_
    rintro e wp1 ⟨rfl, rfl⟩
    go_wp2_with fail
    go_returns
    have HB : pwB xs z = false := by simp [pwB, hF]
    exact ⟨ret2 (by simp [pwV, HB]) (vb HB.symm), hbg⟩
  have G1 : inR z 1 999 = true := by simpa using hF
  clear hF
  go_enter Tryz.func23, Tryz.ntmps23
  have hbg := Below.refl w.heap.size w
  go_wp2_with fail
  refine (isAlbum_c xs _ _ _ (hr.go hbg) hcap hn hs HW.out).mono ?_
  rintro e wg0 ⟨rfl, hb0⟩
  have hbg := below_via hbg hb0
  go_wp2_with fail
  refine (isItem_c _ _).mono ?_
  rintro e wp1 ⟨rfl, rfl⟩
  have HB := Lib.hid (show pwB xs z = true by simp [pwB, G0, G1])
  go_wp2_with fail
  clear G0 G1
  refine (pageWith_c xs _ _ _ _ (hr.go hbg) hn (by omega)).mono ?_
  rintro _ w1 ⟨rfl, hb1⟩
  have hbg := below_via hbg hb1
  rcases pw_of xs z HB.out with ⟨j, hj, hi, hv⟩ | ⟨hi, hv⟩
  · rw [hi]
    have HV := Lib.hid hv
    clear hi hv
    obtain ⟨b, off, Ai, ci, rfl, hbs, d0, d1, d2, d3, hci, hri⟩ := (hr.below hbg).page hj
    have hj0 : (0 : Int) ≤ (j : Int) := by omega
    have hj1 : (j : Int) < (xs.length : Int) := by omega
    go_wp2_with fail
    go_returns
    exact ⟨ret2 (vi HV.out.symm) (vb HB.out.symm), hbg⟩
  · rw [hi]
    have HV := Lib.hid hv
    clear hi hv
    go_wp2_with fail
    go_returns
    exact ⟨ret2 (vi HV.out.symm) (vb HB.out.symm), hbg⟩
set_option maxHeartbeats 1000000 in
theorem specPageWith_c (xs : List Page) (A : Option Addr) (c : Nat) (z : Int) (w : World) (hr : RdP w.heap.size w A xs) (hcap : xs.length ≤ c) (hn : xs.length ≤ 1048576) (hs : sumI xs ≤ 1048576) (hw : ∀ x ∈ xs, x.title.size ≤ 9223372036854775807 ∧ x.items.length ≤ 9223372036854775807 ∧ ∀ z ∈ x.items, Fits z) (hz : -9223372036854775808 ≤ z ∧ z ≤ 9223372036854775807) :
    Calls Tryz.prog 24 #[.slice A xs.length c, .int .i64 z] w (Ret (.tuple #[.int .i64 (pwV xs z), .bool (pwB xs z)]) w) := by
  have HW := Lib.hid hw
  clear hw
  by_cases hF : goodA xs = false
  · go_enter Tryz.func24, Tryz.ntmps24
    have hbg := Below.refl w.heap.size w
    go_wp2_with fail
    refine (l18Good_c xs _ _ _ (hr.go hbg) hcap hn hs HW.out).mono ?_
    rintro e wg0 ⟨rfl, hb0⟩
    have hbg := below_via hbg hb0
    go_wp2_with fail
    go_returns
    have HB : pwB xs z = false := by simp [pwB, hF]
    exact ⟨ret2 (by simp [pwV, HB]) (vb HB.symm), hbg⟩
  have G0 : goodA xs = true := by simpa using hF
  clear hF
  by_cases hF : inR z 1 999 = false
  · go_enter Tryz.func24, Tryz.ntmps24
    have hbg := Below.refl w.heap.size w
    go_wp2_with fail
    refine (l18Good_c xs _ _ _ (hr.go hbg) hcap hn hs HW.out).mono ?_
    rintro e wg0 ⟨rfl, hb0⟩
    have hbg := below_via hbg hb0
    go_wp2_with fail
    refine (l1In_c _ _ _ _).mono ?_
    rintro e wp1 ⟨rfl, rfl⟩
    go_wp2_with fail
    go_returns
    have HB : pwB xs z = false := by simp [pwB, hF]
    exact ⟨ret2 (by simp [pwV, HB]) (vb HB.symm), hbg⟩
  have G1 : inR z 1 999 = true := by simpa using hF
  clear hF
  go_enter Tryz.func24, Tryz.ntmps24
  have hbg := Below.refl w.heap.size w
  go_wp2_with fail
  refine (l18Good_c xs _ _ _ (hr.go hbg) hcap hn hs HW.out).mono ?_
  rintro e wg0 ⟨rfl, hb0⟩
  have hbg := below_via hbg hb0
  go_wp2_with fail
  refine (l1In_c _ _ _ _).mono ?_
  rintro e wp1 ⟨rfl, rfl⟩
  have HB := Lib.hid (show pwB xs z = true by simp [pwB, G0, G1])
  go_wp2_with fail
  clear G0 G1
  refine (l18With_c xs _ _ _ _ (hr.go hbg) hn (by omega)).mono ?_
  rintro _ w1 ⟨rfl, hb1⟩
  have hbg := below_via hbg hb1
  rcases pw_of xs z HB.out with ⟨j, hj, hi, hv⟩ | ⟨hi, hv⟩
  · rw [hi]
    have HV := Lib.hid hv
    clear hi hv
    obtain ⟨b, off, Ai, ci, rfl, hbs, d0, d1, d2, d3, hci, hri⟩ := (hr.below hbg).page hj
    have hj0 : (0 : Int) ≤ (j : Int) := by omega
    have hj1 : (j : Int) < (xs.length : Int) := by omega
    have hj2 : ¬ (j : Int) < 0 := by omega
    go_wp2_with fail
    go_returns
    exact ⟨ret2 (vi HV.out.symm) (vb HB.out.symm), hbg⟩
  · rw [hi]
    have HV := Lib.hid hv
    clear hi hv
    go_wp2_with fail
    go_returns
    exact ⟨ret2 (vi HV.out.symm) (vb HB.out.symm), hbg⟩
def lvB (xs : List Page) (z : Int) : Bool := goodA xs && xs.any (idP z)
def lvV (xs : List Page) (z : Int) : Int := if lvB xs z = true then (levA xs z : Int) else 0
set_option maxHeartbeats 2000000 in
theorem levelOf_c (xs : List Page) (A : Option Addr) (c : Nat) (j0 : Nat) (w : World) (hr : RdP w.heap.size w A xs) (hg : goodA xs = true) (hj0 : j0 < xs.length) :
    Calls Tryz.prog 37 #[.slice A xs.length c, .int .i64 xs[j0].id] w (Ret (.int .i64 (levJ xs j0 : Int)) w) := by
  have HG := Lib.hid hg
  have hn := goodA_len hg
  clear hg
  go_enter Tryz.func37, Tryz.ntmps37
  go_wp2_with fail
  refine (pageAt_c xs _ _ _ _ hr (by omega)).mono ?_
  rw [idx_at HG.out hj0]
  rintro _ w1 ⟨rfl, hb1⟩
  go_wp2_with fail
  go_loopw [5, 6] (fun u v wr => ∃ j l : Nat, j < xs.length ∧ l ≤ 13 ∧ v = .int .i64 j ∧ u = .int .i64 l ∧ l + levJ xs j = levJ xs j0 ∧ l + j ≤ 12 ∧ Below w.heap.size w wr) (fun _ v _ => (intOf v).toNat)
  case atStart => exact ⟨j0, 0, hj0, by omega, rfl, rfl, by omega, by omega, hb1⟩
  case round =>
    obtain ⟨j, l, hj, hl, rfl, rfl, hlev, hlj, hb⟩ := hrel
    have HL := Lib.hid hlev
    clear hlev
    obtain ⟨b, off, Ai, ci, rfl, hbs, d0, d1, d2, d3, hci, hri⟩ := (hr.below hb).page hj
    have h0 : (0 : Int) ≤ (j : Int) := by omega
    have h1 : (j : Int) < (xs.length : Int) := by omega
    by_cases hu : xs[j].under = 0
    · have hu' : (xs[j].under != 0) = false := by simp [hu]
      have HV := Lib.hid (show (l : Int) = (levJ xs j0 : Int) by have := levJ_0 HG.out hj hu; have := HL.out; omega)
      clear hu
      go_wp2_with fail
      go_returns
      exact ⟨ret_int HV.out, hb⟩
    · have hu' : (xs[j].under != 0) = true := by simp [hu]
      obtain ⟨i, hi, he⟩ := good_above HG.out hj hu
      have HS := Lib.hid (levJ_s HG.out hj hi hu he)
      have hil : i < xs.length := by omega
      have HX := Lib.hid (show idxI (idP xs[j].under) xs = (i : Int) by rw [← he]; exact idx_at HG.out hil)
      clear hu he
      go_wp2_with fail
      refine (pageAt_c xs _ _ _ _ ((hr.below hb).more hb.size) (by omega)).mono ?_
      rw [HX.out]
      rintro _ w2 ⟨rfl, hb2⟩
      go_wp2_with fail
      go_roundw
      case rel => exact ⟨i, l + 1, hil, by omega, rfl, by go_num, by have := HS.out; have := HL.out; omega, by omega, hb.trans (hb2.mono hb.size)⟩
      case measure => simp [intOf]; omega
set_option maxHeartbeats 2000000 in
theorem l18Level_c (xs : List Page) (A : Option Addr) (c : Nat) (j0 : Nat) (w : World) (hr : RdP w.heap.size w A xs) (hg : goodA xs = true) (hj0 : j0 < xs.length) :
    Calls Tryz.prog 43 #[.slice A xs.length c, .int .i64 xs[j0].id] w (Ret (.int .i64 (levJ xs j0 : Int)) w) := by
  have HG := Lib.hid hg
  have hn := goodA_len hg
  clear hg
  have h0 : (0 : Int) ≤ (j0 : Int) := by omega
  have h1 : (j0 : Int) < (xs.length : Int) := by omega
  go_enter Tryz.func43, Tryz.ntmps43
  go_wp2_with fail
  refine (l18Find_c xs _ _ _ _ hr (by omega)).mono ?_
  rw [idx_at HG.out hj0]
  rintro _ w1 ⟨rfl, hb1⟩
  obtain ⟨b, off, Ai, ci, rfl, hbs, d0, d1, d2, d3, hci, hri⟩ := (hr.below hb1).page hj0
  go_wp2_with fail
  clear d0 d1 d2 d3 hri
  go_loopw [5, 6] (fun u v wr => ∃ j l : Nat, ∃ (hj : j < xs.length), l ≤ 13 ∧ v = .int .i64 xs[j].under ∧ u = .int .i64 l ∧ l + levJ xs j = levJ xs j0 ∧ l + j ≤ 12 ∧ Below w.heap.size w wr) (fun u _ _ => 13 - (intOf u).toNat)
  case atStart => exact ⟨j0, 0, hj0, by omega, rfl, rfl, by omega, by omega, hb1⟩
  case round =>
    obtain ⟨j, l, hj, hl, rfl, rfl, hlev, hlj, hb⟩ := hrel
    have HL := Lib.hid hlev
    clear hlev
    by_cases hu : xs[j].under = 0
    · have hu' : (xs[j].under != 0) = false := by simp [hu]
      have HV := Lib.hid (show (l : Int) = (levJ xs j0 : Int) by have := levJ_0 HG.out hj hu; have := HL.out; omega)
      clear hu
      go_wp2_with fail
      go_returns
      exact ⟨ret_int HV.out, hb⟩
    · have hu' : (xs[j].under != 0) = true := by simp [hu]
      obtain ⟨i, hi, he⟩ := good_above HG.out hj hu
      have HS := Lib.hid (levJ_s HG.out hj hi hu he)
      have hil : i < xs.length := by omega
      have HX := Lib.hid (show idxI (idP xs[j].under) xs = (i : Int) by rw [← he]; exact idx_at HG.out hil)
      have hi0 : (0 : Int) ≤ (i : Int) := by omega
      have hi1 : (i : Int) < (xs.length : Int) := by omega
      clear hu he
      go_wp2_with fail
      refine (l18Find_c xs _ _ _ _ ((hr.below hb).more hb.size) (by omega)).mono ?_
      rw [HX.out]
      rintro _ w2 ⟨rfl, hb2⟩
      have hb3 := hb.trans (hb2.mono hb.size)
      obtain ⟨b', off', Aj, cj, hA, hbs', g0, g1, g2, g3, _⟩ := (hr.below hb3).page hil
      obtain ⟨rfl, rfl⟩ := addr_eq hA
      clear hA
      go_wp2_with fail
      go_roundw
      case rel => exact ⟨i, l + 1, hil, by omega, rfl, by go_num, by have := HS.out; have := HL.out; omega, by omega, hb3⟩
      case measure => simp [intOf]; omega
theorem lv_of (xs : List Page) (z : Int) (hg : goodA xs = true) : (∃ j, ∃ (hj : j < xs.length), idxI (idP z) xs = (j : Int) ∧ z = xs[j].id ∧ lvB xs z = true ∧ lvV xs z = (levJ xs j : Int)) ∨ (idxI (idP z) xs = -1 ∧ lvB xs z = false ∧ lvV xs z = 0) := by
  rcases idx_of (ps := xs) z with ⟨j, hj, h1, h2⟩ | ⟨h1, h2⟩
  · left
    have hB : lvB xs z = true := by
      unfold lvB
      rw [hg, List.any_eq_true.2 ⟨xs[j], List.getElem_mem hj, by simp [idP, h2]⟩]; rfl
    refine ⟨j, hj, h1, h2.symm, hB, ?_⟩
    unfold lvV
    rw [if_pos hB, ← h2, levA_at hg hj]
  · right
    have hB : lvB xs z = false := by unfold lvB; rw [h2, Bool.and_false]
    exact ⟨h1, hB, by unfold lvV; rw [hB]; rfl⟩
set_option maxHeartbeats 1000000 in
theorem implLevelOf_c (xs : List Page) (A : Option Addr) (c : Nat) (z : Int) (w : World) (hr : RdP w.heap.size w A xs) (hcap : xs.length ≤ c) (hn : xs.length ≤ 1048576) (hs : sumI xs ≤ 1048576) (hw : ∀ x ∈ xs, x.title.size ≤ 9223372036854775807 ∧ x.items.length ≤ 9223372036854775807 ∧ ∀ z ∈ x.items, Fits z) (hz : -9223372036854775808 ≤ z ∧ z ≤ 9223372036854775807) :
    Calls Tryz.prog 9 #[.slice A xs.length c, .int .i64 z] w (Ret (.tuple #[.int .i64 (lvV xs z), .bool (lvB xs z)]) w) := by
  have HW := Lib.hid hw
  clear hw
  by_cases hF : goodA xs = false
  · go_enter Tryz.func9, Tryz.ntmps9
    have hbg := Below.refl w.heap.size w
    go_wp2_with fail
    refine (isAlbum_c xs _ _ _ (hr.go hbg) hcap hn hs HW.out).mono ?_
    rintro e wg0 ⟨rfl, hb0⟩
    have hbg := below_via hbg hb0
    go_wp2_with fail
    go_returns
    have HB : lvB xs z = false := by simp [lvB, hF]
    exact ⟨ret2 (by simp [lvV, HB]) (vb HB.symm), hbg⟩
  have G0 : goodA xs = true := by simpa using hF
  clear hF
  go_enter Tryz.func9, Tryz.ntmps9
  have hbg := Below.refl w.heap.size w
  go_wp2_with fail
  refine (isAlbum_c xs _ _ _ (hr.go hbg) hcap hn hs HW.out).mono ?_
  rintro e wg0 ⟨rfl, hb0⟩
  have hbg := below_via hbg hb0
  have HG := Lib.hid G0
  go_wp2_with fail
  clear G0
  refine (pageAt_c xs _ _ _ _ (hr.go hbg) hn).mono ?_
  rintro _ w1 ⟨rfl, hb1⟩
  have hbg := below_via hbg hb1
  rcases lv_of xs z HG.out with ⟨j, hj, hi, he, hB, hv⟩ | ⟨hi, hB, hv⟩
  · subst he
    rw [hi]
    have HV := Lib.hid hv
    have HB := Lib.hid hB
    clear hi hv hB
    have hj2 : ¬ (j : Int) < 0 := by omega
    go_wp2_with fail
    refine (levelOf_c xs _ _ j _ (hr.go hbg) HG.out hj).mono ?_
    rintro _ w2 ⟨rfl, hb2⟩
    go_wp2_with fail
    go_returns
    exact ⟨ret2 (vi HV.out.symm) (vb HB.out.symm), below_via hbg hb2⟩
  · rw [hi]
    have HV := Lib.hid hv
    have HB := Lib.hid hB
    clear hi hv hB
    go_wp2_with fail
    go_returns
    exact ⟨ret2 (vi HV.out.symm) (vb HB.out.symm), hbg⟩
set_option maxHeartbeats 1000000 in
theorem specLevelOf_c (xs : List Page) (A : Option Addr) (c : Nat) (z : Int) (w : World) (hr : RdP w.heap.size w A xs) (hcap : xs.length ≤ c) (hn : xs.length ≤ 1048576) (hs : sumI xs ≤ 1048576) (hw : ∀ x ∈ xs, x.title.size ≤ 9223372036854775807 ∧ x.items.length ≤ 9223372036854775807 ∧ ∀ z ∈ x.items, Fits z) (hz : -9223372036854775808 ≤ z ∧ z ≤ 9223372036854775807) :
    Calls Tryz.prog 21 #[.slice A xs.length c, .int .i64 z] w (Ret (.tuple #[.int .i64 (lvV xs z), .bool (lvB xs z)]) w) := by
  have HW := Lib.hid hw
  clear hw
  by_cases hF : goodA xs = false
  · go_enter Tryz.func21, Tryz.ntmps21
    have hbg := Below.refl w.heap.size w
    go_wp2_with fail
    refine (l18Good_c xs _ _ _ (hr.go hbg) hcap hn hs HW.out).mono ?_
    rintro e wg0 ⟨rfl, hb0⟩
    have hbg := below_via hbg hb0
    go_wp2_with fail
    go_returns
    have HB : lvB xs z = false := by simp [lvB, hF]
    exact ⟨ret2 (by simp [lvV, HB]) (vb HB.symm), hbg⟩
  have G0 : goodA xs = true := by simpa using hF
  clear hF
  go_enter Tryz.func21, Tryz.ntmps21
  have hbg := Below.refl w.heap.size w
  go_wp2_with fail
  refine (l18Good_c xs _ _ _ (hr.go hbg) hcap hn hs HW.out).mono ?_
  rintro e wg0 ⟨rfl, hb0⟩
  have hbg := below_via hbg hb0
  have HG := Lib.hid G0
  go_wp2_with fail
  clear G0
  refine (l18Find_c xs _ _ _ _ (hr.go hbg) hn).mono ?_
  rintro _ w1 ⟨rfl, hb1⟩
  have hbg := below_via hbg hb1
  rcases lv_of xs z HG.out with ⟨j, hj, hi, he, hB, hv⟩ | ⟨hi, hB, hv⟩
  · subst he
    rw [hi]
    have HV := Lib.hid hv
    have HB := Lib.hid hB
    clear hi hv hB
    have hj2 : ¬ (j : Int) < 0 := by omega
    go_wp2_with fail
    refine (l18Level_c xs _ _ j _ (hr.go hbg) HG.out hj).mono ?_
    rintro _ w2 ⟨rfl, hb2⟩
    go_wp2_with fail
    go_returns
    exact ⟨ret2 (vi HV.out.symm) (vb HB.out.symm), below_via hbg hb2⟩
  · rw [hi]
    have HV := Lib.hid hv
    have HB := Lib.hid hB
    clear hi hv hB
    go_wp2_with fail
    go_returns
    exact ⟨ret2 (vi HV.out.symm) (vb HB.out.symm), hbg⟩
end Go.Proofs.YtpjnlcppjcnlgaaGreatDoor
