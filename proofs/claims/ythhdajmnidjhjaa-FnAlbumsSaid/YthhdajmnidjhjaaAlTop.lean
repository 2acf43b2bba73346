/- Contracts of IsAlbum, LevelOf, PageWith: the program's and the reference's. No condition but the sizes. -/
import Derived.Test.YthhdajmnidjhjaaAlGs
import Derived.Test.YthhdajmnidjhjaaAlPlain2
namespace Go.Proofs.Ythhdajmnidjhjaa
set_option linter.unusedVariables false
set_option linter.unusedSimpArgs false
open Go.RowKit
attribute [local irreducible] wpQuiet
theorem implIsAlbum_c (xs : List Page) (A : Option Addr) (c : Nat) (w : World) (hr : RdP w.heap.size w A xs) (hcap : xs.length ≤ c) (hn : xs.length ≤ 1048576) (hs : sumI xs ≤ 1048576) (hw : ∀ x ∈ xs, x.title.size ≤ 9223372036854775807 ∧ x.items.length ≤ 9223372036854775807 ∧ ∀ z ∈ x.items, Fits z) :
    Calls Try.prog 28 #[.slice A xs.length c] w (Ret (.bool (goodA xs)) w) := by
  go_enter Try.func28, Try.ntmps28
  go_wp2_with fail
  refine (isAlbum_c xs _ _ _ hr hcap hn hs hw).mono ?_
  rintro _ w1 ⟨rfl, hb1⟩
  go_wp2_with fail
  go_returns
  exact ⟨rfl, hb1⟩
theorem specIsAlbum_c (xs : List Page) (A : Option Addr) (c : Nat) (w : World) (hr : RdP w.heap.size w A xs) (hcap : xs.length ≤ c) (hn : xs.length ≤ 1048576) (hs : sumI xs ≤ 1048576) (hw : ∀ x ∈ xs, x.title.size ≤ 9223372036854775807 ∧ x.items.length ≤ 9223372036854775807 ∧ ∀ z ∈ x.items, Fits z) :
    Calls Try.prog 29 #[.slice A xs.length c] w (Ret (.bool (goodA xs)) w) := by
  go_enter Try.func29, Try.ntmps29
  go_wp2_with fail
  refine (l18Good_c xs _ _ _ hr hcap hn hs hw).mono ?_
  rintro _ w1 ⟨rfl, hb1⟩
  go_wp2_with fail
  go_returns
  exact ⟨rfl, hb1⟩
def pwB (xs : List Page) (z : Int) : Bool := goodA xs && inR z 1 999
def pwV (xs : List Page) (z : Int) : Int := if pwB xs z = true then (match xs.find? (hasP z) with | some p => p.id | none => 0) else 0
theorem pw_of (xs : List Page) (z : Int) (hb : pwB xs z = true) : (∃ j, ∃ (hj : j < xs.length), idxI (hasP z) xs = (j : Int) ∧ pwV xs z = xs[j].id) ∨ (idxI (hasP z) xs = -1 ∧ pwV xs z = 0) := by
  unfold pwV
  rw [if_pos hb]
  unfold idxI
  cases h : xs.findIdx? (hasP z) with
  | none =>
    right
    have : ∀ x ∈ xs, hasP z x = false := by simpa using h
    exact ⟨rfl, by rw [List.find?_eq_none.2 (fun x hx => by rw [this x hx]; exact Bool.false_ne_true)]⟩
  | some i =>
    left
    rw [List.findIdx?_eq_some_iff_getElem] at h
    obtain ⟨hi, hp, hlt⟩ := h
    have hf : xs.find? (hasP z) = some xs[i] := by
      rw [List.find?_eq_some_iff_getElem]
      exact ⟨hp, i, hi, rfl, fun j hj => by have := hlt j hj; simpa using this⟩
    exact ⟨i, hi, rfl, by rw [hf]⟩
set_option maxHeartbeats 1000000 in
theorem implPageWith_c (xs : List Page) (A : Option Addr) (c : Nat) (z : Int) (w : World) (hr : RdP w.heap.size w A xs) (hcap : xs.length ≤ c) (hn : xs.length ≤ 1048576) (hs : sumI xs ≤ 1048576) (hw : ∀ x ∈ xs, x.title.size ≤ 9223372036854775807 ∧ x.items.length ≤ 9223372036854775807 ∧ ∀ z ∈ x.items, Fits z) (hz : -9223372036854775808 ≤ z ∧ z ≤ 9223372036854775807) :
    Calls Try.prog 17 #[.slice A xs.length c, .int .i64 z] w (Ret (.tuple #[.int .i64 (pwV xs z), .bool (pwB xs z)]) w) := by
  have HW := Lib.hid hw
  clear hw
  by_cases hF : goodA xs = false
  · go_enter Try.func17, Try.ntmps17
    have hbg := Below.refl w.heap.size w
    go_wp2_with fail
    refine (isAlbum_c xs _ _ _ (hr.go hbg) hcap hn hs HW.out).mono ?_
    rintro e wg0 ⟨rfl, hb0⟩
    have hbg := below_via hbg hb0
    go_wp2_with fail
    go_returns
    have HB : pwB xs z = false := by simp [pwB, hF]
    exact ⟨ret2 (by simp [pwV, HB]) (vb HB.symm), hbg⟩
  have G0 : goodA xs = true := by simpa using hF
  clear hF
  by_cases hF : inR z 1 999 = false
  · go_enter Try.func17, Try.ntmps17
    have hbg := Below.refl w.heap.size w
    go_wp2_with fail
    refine (isAlbum_c xs _ _ _ (hr.go hbg) hcap hn hs HW.out).mono ?_
    rintro e wg0 ⟨rfl, hb0⟩
    have hbg := below_via hbg hb0
    go_wp2_with fail
    refine (isItem_c _ _).mono ?_
    rintro e wp1 ⟨rfl, rfl⟩
    go_wp2_with fail
    go_returns
    have HB : pwB xs z = false := by simp [pwB, hF]
    exact ⟨ret2 (by simp [pwV, HB]) (vb HB.symm), hbg⟩
  have G1 : inR z 1 999 = true := by simpa using hF
  clear hF
  go_enter Try.func17, Try.ntmps17
  have hbg := Below.refl w.heap.size w
  go_wp2_with fail
  refine (isAlbum_c xs _ _ _ (hr.go hbg) hcap hn hs HW.out).mono ?_
  rintro e wg0 ⟨rfl, hb0⟩
  have hbg := below_via hbg hb0
  go_wp2_with fail
  refine (isItem_c _ _).mono ?_
  rintro e wp1 ⟨rfl, rfl⟩
  have HB := Lib.hid (show pwB xs z = true by simp [pwB, G0, G1])
  go_wp2_with fail
  clear G0 G1
  refine (pageWith_c xs _ _ _ _ (hr.go hbg) hn (by omega)).mono ?_
  rintro _ w1 ⟨rfl, hb1⟩
  have hbg := below_via hbg hb1
  rcases pw_of xs z HB.out with ⟨j, hj, hi, hv⟩ | ⟨hi, hv⟩
  · rw [hi]
    have HV := Lib.hid hv
    clear hi hv
    obtain ⟨b, off, Ai, ci, rfl, hbs, d0, d1, d2, d3, hci, hri⟩ := (hr.below hbg).page hj
    have hj0 : (0 : Int) ≤ (j : Int) := by omega
    have hj1 : (j : Int) < (xs.length : Int) := by omega
    go_wp2_with fail
    go_returns
    exact ⟨ret2 (vi HV.out.symm) (vb HB.out.symm), hbg⟩
  · rw [hi]
    have HV := Lib.hid hv
    clear hi hv
    go_wp2_with fail
    go_returns
    exact ⟨ret2 (vi HV.out.symm) (vb HB.out.symm), hbg⟩
def lvB (xs : List Page) (z : Int) : Bool := goodA xs && xs.any (idP z)
def lvV (xs : List Page) (z : Int) : Int := if lvB xs z = true then (levA xs z : Int) else 0
theorem lv_of (xs : List Page) (z : Int) (hg : goodA xs = true) : (∃ j, ∃ (hj : j < xs.length), idxI (idP z) xs = (j : Int) ∧ z = xs[j].id ∧ lvB xs z = true ∧ lvV xs z = (levJ xs j : Int)) ∨ (idxI (idP z) xs = -1 ∧ lvB xs z = false ∧ lvV xs z = 0) := by
  rcases idx_of (ps := xs) z with ⟨j, hj, h1, h2⟩ | ⟨h1, h2⟩
  · left
    have hB : lvB xs z = true := by
      unfold lvB
      rw [hg, List.any_eq_true.2 ⟨xs[j], List.getElem_mem hj, by simp [idP, h2]⟩]; rfl
    refine ⟨j, hj, h1, h2.symm, hB, ?_⟩
    unfold lvV
    rw [if_pos hB, ← h2, levA_at hg hj]
  · right
    have hB : lvB xs z = false := by unfold lvB; rw [h2, Bool.and_false]
    exact ⟨h1, hB, by unfold lvV; rw [hB]; rfl⟩
end Go.Proofs.Ythhdajmnidjhjaa
