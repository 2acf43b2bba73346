/- Contracts of ResultChance: the program's and the reference's. No condition but the sizes. -/
import Derived.Test.YtdekdjpdpknelaaDoorTrOdds2
import Derived.Test.YtdekdjpdpknelaaDoorOver
import Derived.Test.YtdekdjpdpknelaaDoorScal
namespace Go.Proofs.YtdekdjpdpknelaaDoor
set_option linter.unusedVariables false
set_option linter.unusedSimpArgs false
open Go.RowKit
attribute [local irreducible] wpQuiet
def chM : Nat → Int
  | 0 => 1000
  | k + 1 => chM k * 100
theorem chM_pos : ∀ k, 1000 ≤ chM k
  | 0 => by decide
  | k + 1 => by have := chM_pos k; show 1000 ≤ chM k * 100; omega
theorem chM_le (k : Nat) (h : k ≤ 4) : chM k ≤ 100000000000 := by
  match k, h with
  | 0, _ => decide
  | 1, _ => decide
  | 2, _ => decide
  | 3, _ => decide
  | 4, _ => decide
def chX (r : Int) (b : Bool) : Int := if b = true then r else 100 - r
def chStep (s : Int × Int × Int) (x : Trial) (b : Bool) : Int × Int × Int := (s.1 * chX x.real b, s.2.1 * chX x.fake b, s.2.2 * 100)
def chS (xs : List Trial) (o : Odds) (bs : List Bool) : Nat → Int × Int × Int
  | 0 => (o.real, o.fake, o.real + o.fake)
  | k + 1 => match xs[k]?, bs[k]? with | some x, some b => chStep (chS xs o bs k) x b | _, _ => chS xs o bs k
theorem chS_next {xs : List Trial} {o : Odds} {bs : List Bool} {k : Nat} (h : k < xs.length) (h' : k < bs.length) : chS xs o bs (k + 1) = chStep (chS xs o bs k) xs[k] bs[k] := by simp [chS, h, h']
def chOk (xs : List Trial) (o : Odds) (bs : List Bool) : Bool := goodT xs && isOd o.real o.fake && decide (bs.length = xs.length) && decide (xs.length ≤ 4)
def chP (xs : List Trial) (o : Odds) (bs : List Bool) : Int := (chS xs o bs xs.length).1 + (chS xs o bs xs.length).2.1
def chA (xs : List Trial) (o : Odds) (bs : List Bool) : Int := (chS xs o bs xs.length).2.2
def chV1 (xs : List Trial) (o : Odds) (bs : List Bool) : Int := if chOk xs o bs = true then chP xs o bs / gc (chP xs o bs) (chA xs o bs) else 0
def chV2 (xs : List Trial) (o : Odds) (bs : List Bool) : Int := if chOk xs o bs = true then chA xs o bs / gc (chP xs o bs) (chA xs o bs) else 0
theorem mulM {p M r : Int} (h1 : 1 ≤ p) (h2 : p ≤ M) (h3 : 1 ≤ r) (h4 : r ≤ 99) : 1 ≤ p * r ∧ p * r ≤ M * 100 := by
  constructor
  · have := Int.mul_le_mul h1 h3 (by omega) (by omega); omega
  · have := Int.mul_le_mul h2 (show r ≤ 100 by omega) (by omega) (by omega); exact this
set_option maxRecDepth 100000 in
set_option maxHeartbeats 8000000 in
theorem specResultChance_c (xs : List Trial) (A : Option Addr) (c : Nat) (o : Odds) (bs : List Bool) (A2 : Option Addr) (c2 : Nat) (w : World) (hr : Rd encTrial 3 w.heap.size w A xs) (hn : xs.length ≤ 1048576) (hr2 : Rd encB 1 w.heap.size w A2 bs) (hn2 : bs.length ≤ 1048576) :
    Calls Tryd.prog 13 #[.slice A xs.length c, .agg #[.int .i64 o.real, .int .i64 o.fake], .slice A2 bs.length c2] w (Ret (.tuple #[.int .i64 (chV1 xs o bs), .int .i64 (chV2 xs o bs), .bool (chOk xs o bs)]) w) := by
  by_cases hF : goodT xs = false
  · go_enter Tryd.func13, Tryd.ntmps13
    have hbg := (show Below w.heap.size w (w.alloc (.cells #[.int .i64 o.real, .int .i64 o.fake] 26)) by go_grown)
    have hbx := Below.refl (w.alloc (.cells #[.int .i64 o.real, .int .i64 o.fake] 26)).heap.size (w.alloc (.cells #[.int .i64 o.real, .int .i64 o.fake] 26))
    go_wp2_with fail
    refine (l16Good_c xs _ _ _ (hr.go hbg) hn).mono ?_
    rintro e wg0 ⟨rfl, hb0⟩
    have hbg := below_via hbg hb0
    have hbx := below_via hbx hb0
    try clear hcx hfx
    obtain ⟨hcx, hfx⟩ := bcell hbx
    go_wp2_with fail
    go_returns
    have HT := (show chOk xs o bs = false by simp only [chOk, hF, Bool.and_false, Bool.false_and])
    exact ⟨ret3 (vi (by simp [chV1, HT])) (vi (by simp [chV2, HT])) (vb HT.symm), hbg⟩
  have G0 : goodT xs = true := by simpa using hF
  clear hF
  by_cases hF : isOd o.real o.fake = false
  · go_enter Tryd.func13, Tryd.ntmps13
    have hbg := (show Below w.heap.size w (w.alloc (.cells #[.int .i64 o.real, .int .i64 o.fake] 26)) by go_grown)
    have hbx := Below.refl (w.alloc (.cells #[.int .i64 o.real, .int .i64 o.fake] 26)).heap.size (w.alloc (.cells #[.int .i64 o.real, .int .i64 o.fake] 26))
    go_wp2_with fail
    refine (l16Good_c xs _ _ _ (hr.go hbg) hn).mono ?_
    rintro e wg0 ⟨rfl, hb0⟩
    have hbg := below_via hbg hb0
    have hbx := below_via hbx hb0
    try clear hcx hfx
    obtain ⟨hcx, hfx⟩ := bcell hbx
    go_wp2_with fail
    refine (l16Odds_c _ _ _).mono ?_
    rintro e wg1 ⟨rfl, hb1⟩
    have hbg := below_via hbg hb1
    have hbx := below_via hbx hb1
    try clear hcx hfx
    obtain ⟨hcx, hfx⟩ := bcell hbx
    go_wp2_with fail
    go_returns
    have HT := (show chOk xs o bs = false by simp only [chOk, hF, Bool.and_false, Bool.false_and])
    exact ⟨ret3 (vi (by simp [chV1, HT])) (vi (by simp [chV2, HT])) (vb HT.symm), hbg⟩
  have G1 : isOd o.real o.fake = true := by simpa using hF
  clear hF
  by_cases hF : decide (bs.length = xs.length) = false
  · have hT1 : ((bs.length : Int) != (xs.length : Int)) = true := by simp only [decide_eq_false_iff_not] at hF; simp; omega
    go_enter Tryd.func13, Tryd.ntmps13
    have hbg := (show Below w.heap.size w (w.alloc (.cells #[.int .i64 o.real, .int .i64 o.fake] 26)) by go_grown)
    have hbx := Below.refl (w.alloc (.cells #[.int .i64 o.real, .int .i64 o.fake] 26)).heap.size (w.alloc (.cells #[.int .i64 o.real, .int .i64 o.fake] 26))
    go_wp2_with fail
    refine (l16Good_c xs _ _ _ (hr.go hbg) hn).mono ?_
    rintro e wg0 ⟨rfl, hb0⟩
    have hbg := below_via hbg hb0
    have hbx := below_via hbx hb0
    try clear hcx hfx
    obtain ⟨hcx, hfx⟩ := bcell hbx
    go_wp2_with fail
    refine (l16Odds_c _ _ _).mono ?_
    rintro e wg1 ⟨rfl, hb1⟩
    have hbg := below_via hbg hb1
    have hbx := below_via hbx hb1
    try clear hcx hfx
    obtain ⟨hcx, hfx⟩ := bcell hbx
    go_wp2_with fail
    go_returns
    have HT := (show chOk xs o bs = false by simp only [chOk, hF, Bool.and_false, Bool.false_and])
    exact ⟨ret3 (vi (by simp [chV1, HT])) (vi (by simp [chV2, HT])) (vb HT.symm), hbg⟩
  have G2 : decide (bs.length = xs.length) = true := by simpa using hF
  clear hF
  by_cases hF : decide (xs.length ≤ 4) = false
  · have hT1 : ((bs.length : Int) != (xs.length : Int)) = false := by have h := of_decide_eq_true G2; rw [h]; simp
    have hT2 : decide ((4 : Int) < (xs.length : Int)) = true := by simp only [decide_eq_false_iff_not] at hF; exact decide_eq_true (by omega)
    go_enter Tryd.func13, Tryd.ntmps13
    have hbg := (show Below w.heap.size w (w.alloc (.cells #[.int .i64 o.real, .int .i64 o.fake] 26)) by go_grown)
    have hbx := Below.refl (w.alloc (.cells #[.int .i64 o.real, .int .i64 o.fake] 26)).heap.size (w.alloc (.cells #[.int .i64 o.real, .int .i64 o.fake] 26))
    go_wp2_with fail
    refine (l16Good_c xs _ _ _ (hr.go hbg) hn).mono ?_
    rintro e wg0 ⟨rfl, hb0⟩
    have hbg := below_via hbg hb0
    have hbx := below_via hbx hb0
    try clear hcx hfx
    obtain ⟨hcx, hfx⟩ := bcell hbx
    go_wp2_with fail
    refine (l16Odds_c _ _ _).mono ?_
    rintro e wg1 ⟨rfl, hb1⟩
    have hbg := below_via hbg hb1
    have hbx := below_via hbx hb1
    try clear hcx hfx
    obtain ⟨hcx, hfx⟩ := bcell hbx
    go_wp2_with fail
    go_returns
    have HT := (show chOk xs o bs = false by simp only [chOk, hF, Bool.and_false, Bool.false_and])
    exact ⟨ret3 (vi (by simp [chV1, HT])) (vi (by simp [chV2, HT])) (vb HT.symm), hbg⟩
  have G3 : decide (xs.length ≤ 4) = true := by simpa using hF
  clear hF
  have hT1 : ((bs.length : Int) != (xs.length : Int)) = false := by have h := of_decide_eq_true G2; rw [h]; simp
  have hT2 : decide ((4 : Int) < (xs.length : Int)) = false := by have h := of_decide_eq_true G3; exact decide_eq_false (by omega)
  go_enter Tryd.func13, Tryd.ntmps13
  have hbg := (show Below w.heap.size w (w.alloc (.cells #[.int .i64 o.real, .int .i64 o.fake] 26)) by go_grown)
  have hbx := Below.refl (w.alloc (.cells #[.int .i64 o.real, .int .i64 o.fake] 26)).heap.size (w.alloc (.cells #[.int .i64 o.real, .int .i64 o.fake] 26))
  go_wp2_with fail
  refine (l16Good_c xs _ _ _ (hr.go hbg) hn).mono ?_
  rintro e wg0 ⟨rfl, hb0⟩
  have hbg := below_via hbg hb0
  have hbx := below_via hbx hb0
  try clear hcx hfx
  obtain ⟨hcx, hfx⟩ := bcell hbx
  go_wp2_with fail
  refine (l16Odds_c _ _ _).mono ?_
  rintro e wg1 ⟨rfl, hb1⟩
  have hbg := below_via hbg hb1
  have hbx := below_via hbx hb1
  try clear hcx hfx
  obtain ⟨hcx, hfx⟩ := bcell hbx
  have HT := Lib.hid (show chOk xs o bs = true by simp only [chOk, G0, G1, G2, G3]; rfl)
  have HG := Lib.hid (fun (i : Nat) (h : i < xs.length) => ok_bd (good_all G0 h))
  have hol := isOd_bd G1
  have hl := of_decide_eq_true G2
  have h4 := of_decide_eq_true G3
  have HV1 := Lib.hid (show chV1 xs o bs = chP xs o bs / gc (chP xs o bs) (chA xs o bs) by simp [chV1, HT.out])
  have HV2 := Lib.hid (show chV2 xs o bs = chA xs o bs / gc (chP xs o bs) (chA xs o bs) by simp [chV2, HT.out])
  go_wp2_with fail
  clear G0 G1 G2 G3 hT1 hT2
  obtain ⟨W, hW⟩ : ∃ W, wg1 = W := ⟨_, rfl⟩
  rw [hW] at hbg hbx hcx ⊢
  have hx0 := (hcx w.heap.size 0 (by simp)).trans (World.cell?_alloc_new _ _ _ _)
  have hx1 := (hcx w.heap.size 1 (by simp)).trans (World.cell?_alloc_new _ _ _ _)
  simp only [List.getElem?_toArray, List.getElem?_cons_zero, List.getElem?_cons_succ] at hx0 hx1
  have hbsz := hbx.size
  simp only [World.size_alloc] at hbsz
  have hwl : w.heap.size < W.heap.size := by omega
  have hov := over_cell W
  clear hcx hfx hbx hW
  refine wp_region_over (by kernel_rfl) (by kernel_rfl) ?_
  repeat (go_big_quiet_step (fail))
  refine wpQuiet_nil ?_
  intro _ hwx1
  obtain ⟨x1, hwx1⟩ := hwx1
  subst hwx1
  obtain ⟨W1, hW1⟩ : ∃ W1, over W x1 = W1 := ⟨_, rfl⟩
  have hb1 := below_via hbg (over_below W x1)
  rw [hW1] at hb1 ⊢
  clear hW1 hov hx0 hx1 hwl
  go_wp2_with fail
  go_loopw [9, 10, 11, 12] (fun u v x i wr => ∃ (k : Nat) (s : Int × Int × Int), k ≤ xs.length ∧ i = .int .i64 k ∧ u = .int .i64 s.1 ∧ v = .int .i64 s.2.1 ∧ x = .int .i64 s.2.2 ∧ chS xs o bs k = s ∧ 1 ≤ s.1 ∧ s.1 ≤ chM k ∧ 1 ≤ s.2.1 ∧ s.2.1 ≤ chM k ∧ 1 ≤ s.2.2 ∧ s.2.2 ≤ chM k * 2 ∧ Below w.heap.size w wr) (fun _ _ _ i _ => xs.length - (intOf i).toNat)
  case atStart => exact ⟨0, (o.real, o.fake, o.real + o.fake), Nat.zero_le _, rfl, rfl, rfl, rfl, rfl, by simp; omega, by simp [chM]; omega, by simp; omega, by simp [chM]; omega, by simp; omega, by simp [chM]; omega, hb1⟩
  case round =>
    obtain ⟨k, ⟨p, q, a⟩, hk, rfl, rfl, rfl, rfl, hs, hp1, hp2, hq1, hq2, ha1, ha2, hb⟩ := hrel
    simp only at hp1 hp2 hq1 hq2 ha1 ha2
    have HS := Lib.hid hs
    clear hs hb1
    have hM := chM_le k (by omega)
    have hM0 := chM_pos k
    have hMs := Lib.hid (show chM (k + 1) = chM k * 100 from rfl)
    generalize hMM : chM k = M at *
    clear hMM
    by_cases hlt : k < xs.length
    · have hlt2 : k < bs.length := by omega
      obtain ⟨b, off, rfl, hbs, d0, d1, d2⟩ := (hr.below hb).atTrial hlt
      obtain ⟨b2, off2, rfl, hbs2, e0⟩ := (hr2.below hb).bool hlt2
      obtain ⟨hr1, hr9, hf1, hf9, _, _⟩ := HG.out k hlt
      have HN := Lib.hid (show chS xs o bs (k + 1) = chStep (p, q, a) xs[k] bs[k] by rw [chS_next hlt hlt2, HS.out])
      have hbw : b < wr.heap.size := Nat.lt_of_lt_of_le hbs hb.size
      have hbw2 : b2 < wr.heap.size := Nat.lt_of_lt_of_le hbs2 hb.size
      have hk0 : (0 : Int) ≤ (k : Int) := by omega
      have hk1 : (k : Int) < (xs.length : Int) := by omega
      have hk2 : (k : Int) < (bs.length : Int) := by omega
      cases hbk : bs[k] with
      | true =>
        rw [hbk] at e0 HN
        have HM := Lib.hid (show chS xs o bs (k + 1) = (p * xs[k].real, q * xs[k].fake, a * 100) by rw [HN.out]; rfl)
        clear hbk
        obtain ⟨m1, m2⟩ := mulM (r := xs[k].real) hp1 hp2 (by omega) (by omega)
        obtain ⟨m3, m4⟩ := mulM (r := xs[k].fake) hq1 hq2 (by omega) (by omega)
        have hov := over_cell wr
        go_wp2_with fail
        refine wp_region_over (by kernel_rfl) (by kernel_rfl) ?_
        repeat (go_big_quiet_step (fail))
        refine wpQuiet_nil ?_
        intro _ hwx2
        obtain ⟨x2, hwx2⟩ := hwx2
        subst hwx2
        obtain ⟨W2, hW2⟩ : ∃ W2, over wr x2 = W2 := ⟨_, rfl⟩
        have hb2 := over_below wr x2
        rw [hW2] at hb2 ⊢
        clear hW2 hov
        have e0 := (hb2.cell (p := ⟨b2, _, none⟩) hbw2).trans e0
        go_wp2_with fail
        go_roundw
        case rel => exact ⟨k + 1, (p * xs[k].real, q * xs[k].fake, a * 100), by omega, by go_num, rfl, rfl, rfl, HM.out, m1, by rw [hMs.out]; exact m2, m3, by rw [hMs.out]; exact m4, by show 1 ≤ a * 100; omega, by rw [hMs.out]; show a * 100 ≤ M * 100 * 2; omega, below_via hb hb2⟩
        case measure => simp [intOf]; omega
      | false =>
        rw [hbk] at e0 HN
        have HM := Lib.hid (show chS xs o bs (k + 1) = (p * (100 - xs[k].real), q * (100 - xs[k].fake), a * 100) by rw [HN.out]; rfl)
        clear hbk
        obtain ⟨m1, m2⟩ := mulM (r := (100 - xs[k].real)) hp1 hp2 (by omega) (by omega)
        obtain ⟨m3, m4⟩ := mulM (r := (100 - xs[k].fake)) hq1 hq2 (by omega) (by omega)
        have hov := over_cell wr
        go_wp2_with fail
        refine wp_region_over (by kernel_rfl) (by kernel_rfl) ?_
        repeat (go_big_quiet_step (fail))
        refine wpQuiet_nil ?_
        intro _ hwx2
        obtain ⟨x2, hwx2⟩ := hwx2
        subst hwx2
        obtain ⟨W2, hW2⟩ : ∃ W2, over wr x2 = W2 := ⟨_, rfl⟩
        have hb2 := over_below wr x2
        rw [hW2] at hb2 ⊢
        clear hW2 hov
        have e0 := (hb2.cell (p := ⟨b2, _, none⟩) hbw2).trans e0
        go_wp2_with fail
        go_roundw
        case rel => exact ⟨k + 1, (p * (100 - xs[k].real), q * (100 - xs[k].fake), a * 100), by omega, by go_num, rfl, rfl, rfl, HM.out, m1, by rw [hMs.out]; exact m2, m3, by rw [hMs.out]; exact m4, by show 1 ≤ a * 100; omega, by rw [hMs.out]; show a * 100 ≤ M * 100 * 2; omega, below_via hb hb2⟩
        case measure => simp [intOf]; omega
    · have hke : k = xs.length := by omega
      have HP := Lib.hid (show chP xs o bs = p + q by unfold chP; rw [← hke, HS.out])
      have HA := Lib.hid (show chA xs o bs = a by unfold chA; rw [← hke, HS.out])
      have HV1 := Lib.hid (show chV1 xs o bs = (p + q) / gc (p + q) a by rw [HV1.out, HP.out, HA.out])
      have HV2 := Lib.hid (show chV2 xs o bs = a / gc (p + q) a by rw [HV2.out, HP.out, HA.out])
      clear hke hl
      go_wp2_with fail
      refine (l2Reduce_c _ _ _ (by omega) (by omega) (by omega) (by omega)).mono ?_
      rintro e w3 ⟨rfl, hb3⟩
      go_wp2_with fail
      go_returns
      exact ⟨ret3 (vi HV1.out.symm) (vi HV2.out.symm) (vb HT.out.symm), below_via hb hb3⟩
set_option maxRecDepth 100000 in
set_option maxHeartbeats 8000000 in
theorem implResultChance_c (xs : List Trial) (A : Option Addr) (c : Nat) (o : Odds) (bs : List Bool) (A2 : Option Addr) (c2 : Nat) (w : World) (hr : Rd encTrial 3 w.heap.size w A xs) (hn : xs.length ≤ 1048576) (hr2 : Rd encB 1 w.heap.size w A2 bs) (hn2 : bs.length ≤ 1048576) :
    Calls Tryd.prog 12 #[.slice A xs.length c, .agg #[.int .i64 o.real, .int .i64 o.fake], .slice A2 bs.length c2] w (Ret (.tuple #[.int .i64 (chV1 xs o bs), .int .i64 (chV2 xs o bs), .bool (chOk xs o bs)]) w) := by
  by_cases hF : goodT xs = false
  · go_enter Tryd.func12, Tryd.ntmps12
    have hbg := (show Below w.heap.size w (w.alloc (.cells #[.int .i64 o.real, .int .i64 o.fake] 26)) by go_grown)
    have hbx := Below.refl (w.alloc (.cells #[.int .i64 o.real, .int .i64 o.fake] 26)).heap.size (w.alloc (.cells #[.int .i64 o.real, .int .i64 o.fake] 26))
    go_wp2_with fail
    refine (areTrials_c xs _ _ _ (hr.go hbg) hn).mono ?_
    rintro e wg0 ⟨rfl, hb0⟩
    have hbg := below_via hbg hb0
    have hbx := below_via hbx hb0
    try clear hcx hfx
    obtain ⟨hcx, hfx⟩ := bcell hbx
    go_wp2_with fail
    go_returns
    have HT := (show chOk xs o bs = false by simp only [chOk, hF, Bool.and_false, Bool.false_and])
    exact ⟨ret3 (vi (by simp [chV1, HT])) (vi (by simp [chV2, HT])) (vb HT.symm), hbg⟩
  have G0 : goodT xs = true := by simpa using hF
  clear hF
  by_cases hF : decide (xs.length ≤ 4) = false
  · have hT2 : decide ((4 : Int) < (xs.length : Int)) = true := by simp only [decide_eq_false_iff_not] at hF; exact decide_eq_true (by omega)
    go_enter Tryd.func12, Tryd.ntmps12
    have hbg := (show Below w.heap.size w (w.alloc (.cells #[.int .i64 o.real, .int .i64 o.fake] 26)) by go_grown)
    have hbx := Below.refl (w.alloc (.cells #[.int .i64 o.real, .int .i64 o.fake] 26)).heap.size (w.alloc (.cells #[.int .i64 o.real, .int .i64 o.fake] 26))
    go_wp2_with fail
    refine (areTrials_c xs _ _ _ (hr.go hbg) hn).mono ?_
    rintro e wg0 ⟨rfl, hb0⟩
    have hbg := below_via hbg hb0
    have hbx := below_via hbx hb0
    try clear hcx hfx
    obtain ⟨hcx, hfx⟩ := bcell hbx
    go_wp2_with fail
    go_returns
    have HT := (show chOk xs o bs = false by simp only [chOk, hF, Bool.and_false, Bool.false_and])
    exact ⟨ret3 (vi (by simp [chV1, HT])) (vi (by simp [chV2, HT])) (vb HT.symm), hbg⟩
  have G1 : decide (xs.length ≤ 4) = true := by simpa using hF
  clear hF
  by_cases hF : isOd o.real o.fake = false
  · have hT2 : decide ((4 : Int) < (xs.length : Int)) = false := by have h := of_decide_eq_true G1; exact decide_eq_false (by omega)
    go_enter Tryd.func12, Tryd.ntmps12
    have hbg := (show Below w.heap.size w (w.alloc (.cells #[.int .i64 o.real, .int .i64 o.fake] 26)) by go_grown)
    have hbx := Below.refl (w.alloc (.cells #[.int .i64 o.real, .int .i64 o.fake] 26)).heap.size (w.alloc (.cells #[.int .i64 o.real, .int .i64 o.fake] 26))
    go_wp2_with fail
    refine (areTrials_c xs _ _ _ (hr.go hbg) hn).mono ?_
    rintro e wg0 ⟨rfl, hb0⟩
    have hbg := below_via hbg hb0
    have hbx := below_via hbx hb0
    try clear hcx hfx
    obtain ⟨hcx, hfx⟩ := bcell hbx
    go_wp2_with fail
    refine (areOdds_c _ _ _).mono ?_
    rintro e wg2 ⟨rfl, hb2⟩
    have hbg := below_via hbg hb2
    have hbx := below_via hbx hb2
    try clear hcx hfx
    obtain ⟨hcx, hfx⟩ := bcell hbx
    go_wp2_with fail
    go_returns
    have HT := (show chOk xs o bs = false by simp only [chOk, hF, Bool.and_false, Bool.false_and])
    exact ⟨ret3 (vi (by simp [chV1, HT])) (vi (by simp [chV2, HT])) (vb HT.symm), hbg⟩
  have G2 : isOd o.real o.fake = true := by simpa using hF
  clear hF
  by_cases hF : decide (bs.length = xs.length) = false
  · have hT2 : decide ((4 : Int) < (xs.length : Int)) = false := by have h := of_decide_eq_true G1; exact decide_eq_false (by omega)
    have hT1 : ((bs.length : Int) != (xs.length : Int)) = true := by simp only [decide_eq_false_iff_not] at hF; simp; omega
    go_enter Tryd.func12, Tryd.ntmps12
    have hbg := (show Below w.heap.size w (w.alloc (.cells #[.int .i64 o.real, .int .i64 o.fake] 26)) by go_grown)
    have hbx := Below.refl (w.alloc (.cells #[.int .i64 o.real, .int .i64 o.fake] 26)).heap.size (w.alloc (.cells #[.int .i64 o.real, .int .i64 o.fake] 26))
    go_wp2_with fail
    refine (areTrials_c xs _ _ _ (hr.go hbg) hn).mono ?_
    rintro e wg0 ⟨rfl, hb0⟩
    have hbg := below_via hbg hb0
    have hbx := below_via hbx hb0
    try clear hcx hfx
    obtain ⟨hcx, hfx⟩ := bcell hbx
    go_wp2_with fail
    refine (areOdds_c _ _ _).mono ?_
    rintro e wg2 ⟨rfl, hb2⟩
    have hbg := below_via hbg hb2
    have hbx := below_via hbx hb2
    try clear hcx hfx
    obtain ⟨hcx, hfx⟩ := bcell hbx
    go_wp2_with fail
    go_returns
    have HT := (show chOk xs o bs = false by simp only [chOk, hF, Bool.and_false, Bool.false_and])
    exact ⟨ret3 (vi (by simp [chV1, HT])) (vi (by simp [chV2, HT])) (vb HT.symm), hbg⟩
  have G3 : decide (bs.length = xs.length) = true := by simpa using hF
  clear hF
  have hT2 : decide ((4 : Int) < (xs.length : Int)) = false := by have h := of_decide_eq_true G1; exact decide_eq_false (by omega)
  have hT1 : ((bs.length : Int) != (xs.length : Int)) = false := by have h := of_decide_eq_true G3; rw [h]; simp
  go_enter Tryd.func12, Tryd.ntmps12
  have hbg := (show Below w.heap.size w (w.alloc (.cells #[.int .i64 o.real, .int .i64 o.fake] 26)) by go_grown)
  have hbx := Below.refl (w.alloc (.cells #[.int .i64 o.real, .int .i64 o.fake] 26)).heap.size (w.alloc (.cells #[.int .i64 o.real, .int .i64 o.fake] 26))
  go_wp2_with fail
  refine (areTrials_c xs _ _ _ (hr.go hbg) hn).mono ?_
  rintro e wg0 ⟨rfl, hb0⟩
  have hbg := below_via hbg hb0
  have hbx := below_via hbx hb0
  try clear hcx hfx
  obtain ⟨hcx, hfx⟩ := bcell hbx
  go_wp2_with fail
  refine (areOdds_c _ _ _).mono ?_
  rintro e wg2 ⟨rfl, hb2⟩
  have hbg := below_via hbg hb2
  have hbx := below_via hbx hb2
  try clear hcx hfx
  obtain ⟨hcx, hfx⟩ := bcell hbx
  have HT := Lib.hid (show chOk xs o bs = true by simp only [chOk, G0, G1, G2, G3]; rfl)
  have HG := Lib.hid (fun (i : Nat) (h : i < xs.length) => ok_bd (good_all G0 h))
  have hol := isOd_bd G2
  have hl := of_decide_eq_true G3
  have h4 := of_decide_eq_true G1
  have HV1 := Lib.hid (show chV1 xs o bs = chP xs o bs / gc (chP xs o bs) (chA xs o bs) by simp [chV1, HT.out])
  have HV2 := Lib.hid (show chV2 xs o bs = chA xs o bs / gc (chP xs o bs) (chA xs o bs) by simp [chV2, HT.out])
  go_wp2_with fail
  clear G0 G1 G2 G3 hT1 hT2
  obtain ⟨W, hW⟩ : ∃ W, wg2 = W := ⟨_, rfl⟩
  rw [hW] at hbg hbx hcx ⊢
  have hx0 := (hcx w.heap.size 0 (by simp)).trans (World.cell?_alloc_new _ _ _ _)
  have hx1 := (hcx w.heap.size 1 (by simp)).trans (World.cell?_alloc_new _ _ _ _)
  simp only [List.getElem?_toArray, List.getElem?_cons_zero, List.getElem?_cons_succ] at hx0 hx1
  have hbsz := hbx.size
  simp only [World.size_alloc] at hbsz
  have hwl : w.heap.size < W.heap.size := by omega
  have hov := over_cell W
  clear hcx hfx hbx hW
  refine wp_region_over (by kernel_rfl) (by kernel_rfl) ?_
  repeat (go_big_quiet_step (fail))
  refine wpQuiet_nil ?_
  intro _ hwx1
  obtain ⟨x1, hwx1⟩ := hwx1
  subst hwx1
  obtain ⟨W1, hW1⟩ : ∃ W1, over W x1 = W1 := ⟨_, rfl⟩
  have hb1 := below_via hbg (over_below W x1)
  rw [hW1] at hb1 ⊢
  clear hW1 hov hx0 hx1 hwl
  go_wp2_with fail
  go_loopw [9, 10, 11, 47] (fun u v x i wr => ∃ (k : Nat) (s : Int × Int × Int), k ≤ xs.length ∧ i = .int .i64 k ∧ u = .int .i64 s.1 ∧ v = .int .i64 s.2.1 ∧ x = .int .i64 s.2.2 ∧ chS xs o bs k = s ∧ 1 ≤ s.1 ∧ s.1 ≤ chM k ∧ 1 ≤ s.2.1 ∧ s.2.1 ≤ chM k ∧ 1 ≤ s.2.2 ∧ s.2.2 ≤ chM k * 2 ∧ Below w.heap.size w wr) (fun _ _ _ i _ => xs.length - (intOf i).toNat)
  case atStart => exact ⟨0, (o.real, o.fake, o.real + o.fake), Nat.zero_le _, rfl, rfl, rfl, rfl, rfl, by simp; omega, by simp [chM]; omega, by simp; omega, by simp [chM]; omega, by simp; omega, by simp [chM]; omega, hb1⟩
  case round =>
    obtain ⟨k, ⟨p, q, a⟩, hk, rfl, rfl, rfl, rfl, hs, hp1, hp2, hq1, hq2, ha1, ha2, hb⟩ := hrel
    simp only at hp1 hp2 hq1 hq2 ha1 ha2
    have HS := Lib.hid hs
    clear hs hb1
    have hM := chM_le k (by omega)
    have hM0 := chM_pos k
    have hMs := Lib.hid (show chM (k + 1) = chM k * 100 from rfl)
    generalize hMM : chM k = M at *
    clear hMM
    by_cases hlt : k < xs.length
    · have hlt2 : k < bs.length := by omega
      obtain ⟨b, off, rfl, hbs, d0, d1, d2⟩ := (hr.below hb).atTrial hlt
      obtain ⟨b2, off2, rfl, hbs2, e0⟩ := (hr2.below hb).bool hlt2
      obtain ⟨hr1, hr9, hf1, hf9, _, _⟩ := HG.out k hlt
      have HN := Lib.hid (show chS xs o bs (k + 1) = chStep (p, q, a) xs[k] bs[k] by rw [chS_next hlt hlt2, HS.out])
      have hbw : b < wr.heap.size := Nat.lt_of_lt_of_le hbs hb.size
      have hbw2 : b2 < wr.heap.size := Nat.lt_of_lt_of_le hbs2 hb.size
      have hk0 : (0 : Int) ≤ (k : Int) := by omega
      have hk1 : (k : Int) < (xs.length : Int) := by omega
      have hk2 : (k : Int) < (bs.length : Int) := by omega
      cases hbk : bs[k] with
      | true =>
        rw [hbk] at e0 HN
        have HM := Lib.hid (show chS xs o bs (k + 1) = (p * xs[k].real, q * xs[k].fake, a * 100) by rw [HN.out]; rfl)
        clear hbk
        obtain ⟨m1, m2⟩ := mulM (r := xs[k].real) hp1 hp2 (by omega) (by omega)
        obtain ⟨m3, m4⟩ := mulM (r := xs[k].fake) hq1 hq2 (by omega) (by omega)
        have hBW := hb
        go_wp2_with fail
        go_roundw
        case rel => exact ⟨k + 1, (p * xs[k].real, q * xs[k].fake, a * 100), by omega, by go_num, rfl, rfl, rfl, HM.out, m1, by rw [hMs.out]; exact m2, m3, by rw [hMs.out]; exact m4, by show 1 ≤ a * 100; omega, by rw [hMs.out]; show a * 100 ≤ M * 100 * 2; omega, hb.trans ((Below.refl _ _).alloc hb.size _)⟩
        case measure => simp [intOf]; omega
      | false =>
        rw [hbk] at e0 HN
        have HM := Lib.hid (show chS xs o bs (k + 1) = (p * (100 - xs[k].real), q * (100 - xs[k].fake), a * 100) by rw [HN.out]; rfl)
        clear hbk
        obtain ⟨m1, m2⟩ := mulM (r := (100 - xs[k].real)) hp1 hp2 (by omega) (by omega)
        obtain ⟨m3, m4⟩ := mulM (r := (100 - xs[k].fake)) hq1 hq2 (by omega) (by omega)
        have hBW := hb
        go_wp2_with fail
        go_roundw
        case rel => exact ⟨k + 1, (p * (100 - xs[k].real), q * (100 - xs[k].fake), a * 100), by omega, by go_num, rfl, rfl, rfl, HM.out, m1, by rw [hMs.out]; exact m2, m3, by rw [hMs.out]; exact m4, by show 1 ≤ a * 100; omega, by rw [hMs.out]; show a * 100 ≤ M * 100 * 2; omega, hb.trans ((Below.refl _ _).alloc hb.size _)⟩
        case measure => simp [intOf]; omega
    · have hke : k = xs.length := by omega
      have HP := Lib.hid (show chP xs o bs = p + q by unfold chP; rw [← hke, HS.out])
      have HA := Lib.hid (show chA xs o bs = a by unfold chA; rw [← hke, HS.out])
      have HV1 := Lib.hid (show chV1 xs o bs = (p + q) / gc (p + q) a by rw [HV1.out, HP.out, HA.out])
      have HV2 := Lib.hid (show chV2 xs o bs = a / gc (p + q) a by rw [HV2.out, HP.out, HA.out])
      clear hke hl
      go_wp2_with fail
      refine (fraction_c _ _ _ (by omega) (by omega) (by omega) (by omega)).mono ?_
      rintro e w3 ⟨rfl, hb3⟩
      go_wp2_with fail
      go_returns
      exact ⟨ret3 (vi HV1.out.symm) (vi HV2.out.symm) (vb HT.out.symm), below_via hb hb3⟩
end Go.Proofs.YtdekdjpdpknelaaDoor
