/- Contracts of CodesAt and StatesFor: the program's and the reference's. No condition but the sizes. -/
import Derived.Test.YtedehldojicimaaFlPos
namespace Go.Proofs.Ytedehldojicimaa
set_option linter.unusedVariables false
set_option linter.unusedSimpArgs false
open Go.RowKit
attribute [local irreducible] wpQuiet
def catB (xs : List Flaw) (pos st : Int) : Bool := goodFl xs && inR pos 0 99 && inR st 1 9
def catV (xs : List Flaw) (pos st : Int) : List Int := if catB xs pos st = true then codesL xs pos st else []
def sfoB (xs : List Flaw) (cs : List Int) (pos : Int) : Bool := goodFl xs && shoB cs && inR pos 0 99
def sfoV (xs : List Flaw) (cs : List Int) (pos : Int) : List Int := if sfoB xs cs pos = true then staL xs cs pos 9 else []
theorem catV_len (xs : List Flaw) (pos st : Int) : (catV xs pos st).length ≤ 2097152 := by
  unfold catV; split
  · rename_i h
    simp only [catB, Bool.and_eq_true] at h
    have := codesL_len xs pos st
    have := goodFl_len h.1.1
    omega
  · simp
theorem sfoV_len (xs : List Flaw) (cs : List Int) (pos : Int) : (sfoV xs cs pos).length ≤ 2097152 := by
  unfold sfoV; split
  · have := staL_len xs cs pos 9; omega
  · simp
theorem l15Position_c (z : Int) (w : World) : Calls Try.prog 38 #[.int .i64 z] w (Pure (.bool (inR z 0 99)) w) := by
  go_enter Try.func38, Try.ntmps38
  go_wp2_with (go_at_call 52; refine (l1In_c _ _ _ _).mono ?_; rintro e w' ⟨rfl, rfl⟩)
  go_returns
  exact ⟨rfl, rfl⟩
set_option maxHeartbeats 1000000 in
theorem implCodesAt_c (xs : List Flaw) (A : Option Addr) (c : Nat) (pos st : Int) (w : World) (hr : Rd encFlaw 4 w.heap.size w A xs) (hn : xs.length ≤ 1048576) :
    Calls Try.prog 14 #[.slice A xs.length c, .int .i64 pos, .int .i64 st] w (RetL encI 1 (catV xs pos st) (catB xs pos st) w) := by
  by_cases hF : goodFl xs = false
  · go_enter Try.func14, Try.ntmps14
    have hbg := Below.refl w.heap.size w
    go_wp2_with fail
    refine (areFlaws_c xs _ _ _ (hr.go hbg) hn).mono ?_
    rintro e wg0 ⟨rfl, hb0⟩
    have hbg := below_via hbg hb0
    go_wp2_with fail
    go_returns
    exact ⟨_, _, ret_list (by simp [catV, catB, hF]) (by simp [catB, hF]), hbg, Own.none_ (by simp [catV, catB, hF]) (Nat.le_refl _)⟩
  have G0 : goodFl xs = true := by simpa using hF
  clear hF
  by_cases hF : inR pos 0 99 = false
  · go_enter Try.func14, Try.ntmps14
    have hbg := Below.refl w.heap.size w
    go_wp2_with fail
    refine (areFlaws_c xs _ _ _ (hr.go hbg) hn).mono ?_
    rintro e wg0 ⟨rfl, hb0⟩
    have hbg := below_via hbg hb0
    go_wp2_with fail
    refine (isPosition_c _ _).mono ?_
    rintro e wp1 ⟨rfl, rfl⟩
    go_wp2_with fail
    go_returns
    exact ⟨_, _, ret_list (by simp [catV, catB, hF]) (by simp [catB, hF]), hbg, Own.none_ (by simp [catV, catB, hF]) (Nat.le_refl _)⟩
  have G1 : inR pos 0 99 = true := by simpa using hF
  clear hF
  by_cases hF : inR st 1 9 = false
  · go_enter Try.func14, Try.ntmps14
    have hbg := Below.refl w.heap.size w
    go_wp2_with fail
    refine (areFlaws_c xs _ _ _ (hr.go hbg) hn).mono ?_
    rintro e wg0 ⟨rfl, hb0⟩
    have hbg := below_via hbg hb0
    go_wp2_with fail
    refine (isPosition_c _ _).mono ?_
    rintro e wp1 ⟨rfl, rfl⟩
    go_wp2_with fail
    refine (isState_c _ _).mono ?_
    rintro e wp2 ⟨rfl, rfl⟩
    go_wp2_with fail
    go_returns
    exact ⟨_, _, ret_list (by simp [catV, catB, hF]) (by simp [catB, hF]), hbg, Own.none_ (by simp [catV, catB, hF]) (Nat.le_refl _)⟩
  have G2 : inR st 1 9 = true := by simpa using hF
  clear hF
  go_enter Try.func14, Try.ntmps14
  have hbg := Below.refl w.heap.size w
  go_wp2_with fail
  refine (areFlaws_c xs _ _ _ (hr.go hbg) hn).mono ?_
  rintro e wg0 ⟨rfl, hb0⟩
  have hbg := below_via hbg hb0
  go_wp2_with fail
  refine (isPosition_c _ _).mono ?_
  rintro e wp1 ⟨rfl, rfl⟩
  go_wp2_with fail
  refine (isState_c _ _).mono ?_
  rintro e wp2 ⟨rfl, rfl⟩
  have HV := Lib.hid (show catV xs pos st = codesL xs pos st by simp [catV, catB, G0, G1, G2])
  have HB := Lib.hid (show catB xs pos st = true by simp [catB, G0, G1, G2])
  have HC := Lib.hid (fun (v : World) (h : Rd encFlaw 4 v.heap.size v A xs) => codesAt_c xs A c pos st v h G0)
  go_wp2_with fail
  clear G0 G1 G2
  refine (HC.out _ (hr.go hbg)).mono ?_
  rintro e w9 ⟨B, q, rfl, hb9, o9⟩
  go_wp2_with fail
  go_returns
  exact ⟨B, q, ret_list (by rw [HV.out]) HB.out.symm, below_step hbg hb9, (o9.wide (lo' := w.heap.size) hbg.size (Nat.le_refl _) (Nat.le_refl _)).cast HV.out.symm⟩
set_option maxHeartbeats 1000000 in
theorem specCodesAt_c (xs : List Flaw) (A : Option Addr) (c : Nat) (pos st : Int) (w : World) (hr : Rd encFlaw 4 w.heap.size w A xs) (hn : xs.length ≤ 1048576) :
    Calls Try.prog 20 #[.slice A xs.length c, .int .i64 pos, .int .i64 st] w (RetL encI 1 (catV xs pos st) (catB xs pos st) w) := by
  by_cases hF : goodFl xs = false
  · go_enter Try.func20, Try.ntmps20
    have hbg := Below.refl w.heap.size w
    go_wp2_with fail
    refine (l15Good_c xs _ _ _ (hr.go hbg) hn).mono ?_
    rintro e wg0 ⟨rfl, hb0⟩
    have hbg := below_via hbg hb0
    go_wp2_with fail
    go_returns
    exact ⟨_, _, ret_list (by simp [catV, catB, hF]) (by simp [catB, hF]), hbg.alloc hbg.size _, Own.none_ (by simp [catV, catB, hF]) (Nat.le_refl _)⟩
  have G0 : goodFl xs = true := by simpa using hF
  clear hF
  by_cases hF : inR pos 0 99 = false
  · go_enter Try.func20, Try.ntmps20
    have hbg := Below.refl w.heap.size w
    go_wp2_with fail
    refine (l15Good_c xs _ _ _ (hr.go hbg) hn).mono ?_
    rintro e wg0 ⟨rfl, hb0⟩
    have hbg := below_via hbg hb0
    go_wp2_with fail
    refine (l15Position_c _ _).mono ?_
    rintro e wp1 ⟨rfl, rfl⟩
    go_wp2_with fail
    go_returns
    exact ⟨_, _, ret_list (by simp [catV, catB, hF]) (by simp [catB, hF]), hbg.alloc hbg.size _, Own.none_ (by simp [catV, catB, hF]) (Nat.le_refl _)⟩
  have G1 : inR pos 0 99 = true := by simpa using hF
  clear hF
  by_cases hF : inR st 1 9 = false
  · go_enter Try.func20, Try.ntmps20
    have hbg := Below.refl w.heap.size w
    go_wp2_with fail
    refine (l15Good_c xs _ _ _ (hr.go hbg) hn).mono ?_
    rintro e wg0 ⟨rfl, hb0⟩
    have hbg := below_via hbg hb0
    go_wp2_with fail
    refine (l15Position_c _ _).mono ?_
    rintro e wp1 ⟨rfl, rfl⟩
    go_wp2_with fail
    refine (l15State_c _ _).mono ?_
    rintro e wp2 ⟨rfl, rfl⟩
    go_wp2_with fail
    go_returns
    exact ⟨_, _, ret_list (by simp [catV, catB, hF]) (by simp [catB, hF]), hbg.alloc hbg.size _, Own.none_ (by simp [catV, catB, hF]) (Nat.le_refl _)⟩
  have G2 : inR st 1 9 = true := by simpa using hF
  clear hF
  go_enter Try.func20, Try.ntmps20
  have hbg := Below.refl w.heap.size w
  go_wp2_with fail
  refine (l15Good_c xs _ _ _ (hr.go hbg) hn).mono ?_
  rintro e wg0 ⟨rfl, hb0⟩
  have hbg := below_via hbg hb0
  go_wp2_with fail
  refine (l15Position_c _ _).mono ?_
  rintro e wp1 ⟨rfl, rfl⟩
  go_wp2_with fail
  refine (l15State_c _ _).mono ?_
  rintro e wp2 ⟨rfl, rfl⟩
  have HV := Lib.hid (show catV xs pos st = codesL xs pos st by simp [catV, catB, G0, G1, G2])
  have HB := Lib.hid (show catB xs pos st = true by simp [catB, G0, G1, G2])
  have HC := Lib.hid (fun (v : World) (h : Rd encFlaw 4 v.heap.size v A xs) => l15Codes_c xs A c pos st v h G0)
  go_wp2_with fail
  clear G0 G1 G2
  refine (HC.out _ (hr.go hbg)).mono ?_
  rintro e w9 ⟨B, q, rfl, hb9, o9⟩
  go_wp2_with fail
  go_returns
  exact ⟨B, q, ret_list (by rw [HV.out]) HB.out.symm, below_step hbg hb9, (o9.wide (lo' := w.heap.size) hbg.size (Nat.le_refl _) (Nat.le_refl _)).cast HV.out.symm⟩
set_option maxHeartbeats 1000000 in
theorem implStatesFor_c (xs : List Flaw) (A : Option Addr) (c : Nat) (cs : List Int) (A1 : Option Addr) (c1 : Nat) (pos : Int) (w : World) (hr : Rd encFlaw 4 w.heap.size w A xs) (hn : xs.length ≤ 1048576) (hr1 : Rd encI 1 w.heap.size w A1 cs) (hn1 : cs.length ≤ 1048576) :
    Calls Try.prog 15 #[.slice A xs.length c, .slice A1 cs.length c1, .int .i64 pos] w (RetL encI 1 (sfoV xs cs pos) (sfoB xs cs pos) w) := by
  by_cases hF : goodFl xs = false
  · go_enter Try.func15, Try.ntmps15
    have hbg := Below.refl w.heap.size w
    go_wp2_with fail
    refine (areFlaws_c xs _ _ _ (hr.go hbg) hn).mono ?_
    rintro e wg0 ⟨rfl, hb0⟩
    have hbg := below_via hbg hb0
    go_wp2_with fail
    go_returns
    exact ⟨_, _, ret_list (by simp [sfoV, sfoB, hF]) (by simp [sfoB, hF]), hbg, Own.none_ (by simp [sfoV, sfoB, hF]) (Nat.le_refl _)⟩
  have G0 : goodFl xs = true := by simpa using hF
  clear hF
  by_cases hF : shoB cs = false
  · go_enter Try.func15, Try.ntmps15
    have hbg := Below.refl w.heap.size w
    go_wp2_with fail
    refine (areFlaws_c xs _ _ _ (hr.go hbg) hn).mono ?_
    rintro e wg0 ⟨rfl, hb0⟩
    have hbg := below_via hbg hb0
    go_wp2_with fail
    refine (areCodes_c cs _ _ _ (hr1.go hbg) hn1).mono ?_
    rintro e wg1 ⟨rfl, hb1⟩
    have hbg := below_via hbg hb1
    go_wp2_with fail
    go_returns
    exact ⟨_, _, ret_list (by simp [sfoV, sfoB, hF]) (by simp [sfoB, hF]), hbg, Own.none_ (by simp [sfoV, sfoB, hF]) (Nat.le_refl _)⟩
  have G1 : shoB cs = true := by simpa using hF
  clear hF
  by_cases hF : inR pos 0 99 = false
  · go_enter Try.func15, Try.ntmps15
    have hbg := Below.refl w.heap.size w
    go_wp2_with fail
    refine (areFlaws_c xs _ _ _ (hr.go hbg) hn).mono ?_
    rintro e wg0 ⟨rfl, hb0⟩
    have hbg := below_via hbg hb0
    go_wp2_with fail
    refine (areCodes_c cs _ _ _ (hr1.go hbg) hn1).mono ?_
    rintro e wg1 ⟨rfl, hb1⟩
    have hbg := below_via hbg hb1
    go_wp2_with fail
    refine (isPosition_c _ _).mono ?_
    rintro e wp2 ⟨rfl, rfl⟩
    go_wp2_with fail
    go_returns
    exact ⟨_, _, ret_list (by simp [sfoV, sfoB, hF]) (by simp [sfoB, hF]), hbg, Own.none_ (by simp [sfoV, sfoB, hF]) (Nat.le_refl _)⟩
  have G2 : inR pos 0 99 = true := by simpa using hF
  clear hF
  go_enter Try.func15, Try.ntmps15
  have hbg := Below.refl w.heap.size w
  go_wp2_with fail
  refine (areFlaws_c xs _ _ _ (hr.go hbg) hn).mono ?_
  rintro e wg0 ⟨rfl, hb0⟩
  have hbg := below_via hbg hb0
  go_wp2_with fail
  refine (areCodes_c cs _ _ _ (hr1.go hbg) hn1).mono ?_
  rintro e wg1 ⟨rfl, hb1⟩
  have hbg := below_via hbg hb1
  go_wp2_with fail
  refine (isPosition_c _ _).mono ?_
  rintro e wp2 ⟨rfl, rfl⟩
  have HV := Lib.hid (show sfoV xs cs pos = staL xs cs pos 9 by simp [sfoV, sfoB, G0, G1, G2])
  have HB := Lib.hid (show sfoB xs cs pos = true by simp [sfoB, G0, G1, G2])
  have HC := Lib.hid (fun (v : World) (h : Rd encFlaw 4 v.heap.size v A xs) (h1 : Rd encI 1 v.heap.size v A1 cs) => statesFor_c xs A c cs A1 c1 pos v h G0 h1 hn1)
  go_wp2_with fail
  clear G0 G1 G2
  refine (HC.out _ (hr.go hbg) (hr1.go hbg)).mono ?_
  rintro e w9 ⟨B, q, rfl, hb9, o9⟩
  go_wp2_with fail
  go_returns
  exact ⟨B, q, ret_list (by rw [HV.out]) HB.out.symm, below_step hbg hb9, (o9.wide (lo' := w.heap.size) hbg.size (Nat.le_refl _) (Nat.le_refl _)).cast HV.out.symm⟩
set_option maxHeartbeats 1000000 in
theorem specStatesFor_c (xs : List Flaw) (A : Option Addr) (c : Nat) (cs : List Int) (A1 : Option Addr) (c1 : Nat) (pos : Int) (w : World) (hr : Rd encFlaw 4 w.heap.size w A xs) (hn : xs.length ≤ 1048576) (hr1 : Rd encI 1 w.heap.size w A1 cs) (hn1 : cs.length ≤ 1048576) :
    Calls Try.prog 18 #[.slice A xs.length c, .slice A1 cs.length c1, .int .i64 pos] w (RetL encI 1 (sfoV xs cs pos) (sfoB xs cs pos) w) := by
  by_cases hF : goodFl xs = false
  · go_enter Try.func18, Try.ntmps18
    have hbg := Below.refl w.heap.size w
    go_wp2_with fail
    refine (l15Good_c xs _ _ _ (hr.go hbg) hn).mono ?_
    rintro e wg0 ⟨rfl, hb0⟩
    have hbg := below_via hbg hb0
    go_wp2_with fail
    go_returns
    exact ⟨_, _, ret_list (by simp [sfoV, sfoB, hF]) (by simp [sfoB, hF]), hbg.alloc hbg.size _, Own.none_ (by simp [sfoV, sfoB, hF]) (Nat.le_refl _)⟩
  have G0 : goodFl xs = true := by simpa using hF
  clear hF
  by_cases hF : shoB cs = false
  · go_enter Try.func18, Try.ntmps18
    have hbg := Below.refl w.heap.size w
    go_wp2_with fail
    refine (l15Good_c xs _ _ _ (hr.go hbg) hn).mono ?_
    rintro e wg0 ⟨rfl, hb0⟩
    have hbg := below_via hbg hb0
    go_wp2_with fail
    refine (l15Shown_c cs _ _ _ (hr1.go hbg) hn1).mono ?_
    rintro e wg1 ⟨rfl, hb1⟩
    have hbg := below_via hbg hb1
    go_wp2_with fail
    go_returns
    exact ⟨_, _, ret_list (by simp [sfoV, sfoB, hF]) (by simp [sfoB, hF]), hbg.alloc hbg.size _, Own.none_ (by simp [sfoV, sfoB, hF]) (Nat.le_refl _)⟩
  have G1 : shoB cs = true := by simpa using hF
  clear hF
  by_cases hF : inR pos 0 99 = false
  · go_enter Try.func18, Try.ntmps18
    have hbg := Below.refl w.heap.size w
    go_wp2_with fail
    refine (l15Good_c xs _ _ _ (hr.go hbg) hn).mono ?_
    rintro e wg0 ⟨rfl, hb0⟩
    have hbg := below_via hbg hb0
    go_wp2_with fail
    refine (l15Shown_c cs _ _ _ (hr1.go hbg) hn1).mono ?_
    rintro e wg1 ⟨rfl, hb1⟩
    have hbg := below_via hbg hb1
    go_wp2_with fail
    refine (l15Position_c _ _).mono ?_
    rintro e wp2 ⟨rfl, rfl⟩
    go_wp2_with fail
    go_returns
    exact ⟨_, _, ret_list (by simp [sfoV, sfoB, hF]) (by simp [sfoB, hF]), hbg.alloc hbg.size _, Own.none_ (by simp [sfoV, sfoB, hF]) (Nat.le_refl _)⟩
  have G2 : inR pos 0 99 = true := by simpa using hF
  clear hF
  go_enter Try.func18, Try.ntmps18
  have hbg := Below.refl w.heap.size w
  go_wp2_with fail
  refine (l15Good_c xs _ _ _ (hr.go hbg) hn).mono ?_
  rintro e wg0 ⟨rfl, hb0⟩
  have hbg := below_via hbg hb0
  go_wp2_with fail
  refine (l15Shown_c cs _ _ _ (hr1.go hbg) hn1).mono ?_
  rintro e wg1 ⟨rfl, hb1⟩
  have hbg := below_via hbg hb1
  go_wp2_with fail
  refine (l15Position_c _ _).mono ?_
  rintro e wp2 ⟨rfl, rfl⟩
  have HV := Lib.hid (show sfoV xs cs pos = staL xs cs pos 9 by simp [sfoV, sfoB, G0, G1, G2])
  have HB := Lib.hid (show sfoB xs cs pos = true by simp [sfoB, G0, G1, G2])
  have HC := Lib.hid (fun (v : World) (h : Rd encFlaw 4 v.heap.size v A xs) (h1 : Rd encI 1 v.heap.size v A1 cs) => l15States_c xs A c cs A1 c1 pos v h G0 h1 hn1)
  go_wp2_with fail
  clear G0 G1 G2
  refine (HC.out _ (hr.go hbg) (hr1.go hbg)).mono ?_
  rintro e w9 ⟨B, q, rfl, hb9, o9⟩
  go_wp2_with fail
  go_returns
  exact ⟨B, q, ret_list (by rw [HV.out]) HB.out.symm, below_step hbg hb9, (o9.wide (lo' := w.heap.size) hbg.size (Nat.le_refl _) (Nat.le_refl _)).cast HV.out.symm⟩
end Go.Proofs.Ytedehldojicimaa
