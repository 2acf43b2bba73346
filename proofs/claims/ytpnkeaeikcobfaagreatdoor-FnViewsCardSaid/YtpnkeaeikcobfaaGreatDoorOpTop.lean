/- Contracts of Standing, ViewOf, FirstView, HistoryOf: the program's and the reference's. No condition but the sizes. -/
import Derived.Test.YtpnkeaeikcobfaaGreatDoorOpView
namespace Go.Proofs.YtpnkeaeikcobfaaGreatDoor
set_option linter.unusedVariables false
set_option linter.unusedSimpArgs false
open Go.RowKit
attribute [local irreducible] wpQuiet
def stB (xs : List Opinion) (z d : Int) : Bool := goodO xs && inR z 1 999 && inR d 0 4000
def stV (xs : List Opinion) (z d : Int) : List Int := if stB xs z d = true then standL xs z d else []
theorem stV_len {xs : List Opinion} {z d : Int} (h : xs.length ≤ 1048576) : (stV xs z d).length ≤ 2097152 := by
  unfold stV; split
  · have : (standL xs z d).length ≤ xs.length := by unfold standL; exact range_len
    omega
  · simp
def vwV (xs : List Opinion) (z d : Int) : Int := if stB xs z d = true then viewM xs z d else 0
def fvP (xs : List Opinion) (z s : Int) (x : Opinion) : Bool := decide (viewM xs z x.day = s)
def fvG (xs : List Opinion) (z s : Int) : Bool := goodO xs && inR z 1 999 && inR s 1 4
def fvB (xs : List Opinion) (z s : Int) : Bool := fvG xs z s && xs.any (fvP xs z s)
def fvV (xs : List Opinion) (z s : Int) : Int := if fvG xs z s = true then (match xs.find? (fvP xs z s) with | some x => x.day | none => 0) else 0
theorem fv_hit {xs : List Opinion} {z s : Int} {k : Nat} (hk : k < xs.length) (hg : fvG xs z s = true) (h0 : ∀ x ∈ xs.take k, fvP xs z s x = false) (h1 : fvP xs z s xs[k] = true) : fvV xs z s = xs[k].day ∧ fvB xs z s = true := by
  have hf : xs.find? (fvP xs z s) = some xs[k] := by
    rw [List.find?_eq_some_iff_getElem]
    refine ⟨h1, k, hk, rfl, fun j hj => ?_⟩
    have := h0 xs[j] (List.mem_take_iff_getElem.2 ⟨j, by omega, rfl⟩)
    simp [this]
  refine ⟨?_, ?_⟩
  · unfold fvV; rw [if_pos hg, hf]
  · unfold fvB; rw [hg, List.any_eq_true.2 ⟨xs[k], List.getElem_mem hk, h1⟩]; rfl
theorem fv_miss {xs : List Opinion} {z s : Int} (h0 : ∀ x ∈ xs, fvP xs z s x = false) : fvV xs z s = 0 ∧ fvB xs z s = false := by
  have hf : xs.find? (fvP xs z s) = none := List.find?_eq_none.2 (fun x hx => by rw [h0 x hx]; exact Bool.false_ne_true)
  have ha : xs.any (fvP xs z s) = false := List.any_eq_false.2 (fun x hx => by rw [h0 x hx]; exact Bool.false_ne_true)
  refine ⟨?_, ?_⟩
  · unfold fvV; rw [hf]; split <;> rfl
  · unfold fvB; rw [ha, Bool.and_false]
def overO (xs : List Opinion) (i : Int) : Int := match xs[i.toNat]? with | none => -1 | some x => x.over
theorem overO_nat {xs : List Opinion} {i : Nat} (h : i < xs.length) : overO xs (i : Int) = xs[i].over := by simp [overO, h]
def histF (xs : List Opinion) : Nat → Int → List Int
  | 0, _ => []
  | f + 1, i => if i < 0 then [] else i :: histF xs f (overO xs i)
theorem histF_neg (xs : List Opinion) (f : Nat) {i : Int} (h : i < 0) : histF xs f i = [] := by cases f <;> simp [histF, h]
theorem histF_len (xs : List Opinion) : ∀ (f : Nat) (i : Int), (histF xs f i).length ≤ f
  | 0, _ => by simp [histF]
  | f + 1, i => by
    unfold histF; split
    · simp
    · have := histF_len xs f (overO xs i); simp; omega
def hiB (xs : List Opinion) (z : Int) : Bool := goodO xs && inR z 0 ((xs.length : Int) - 1)
def hiV (xs : List Opinion) (z : Int) : List Int := if hiB xs z = true then histF xs (xs.length + 1) z else []
theorem hiV_len {xs : List Opinion} {z : Int} (h : xs.length ≤ 1048576) : (hiV xs z).length ≤ 2097152 := by
  unfold hiV; split
  · have := histF_len xs (xs.length + 1) z; omega
  · simp
theorem goodO_low {xs : List Opinion} (h : goodO xs = true) {k : Nat} (hk : k < xs.length) : -1 ≤ xs[k].over ∧ xs[k].over < (k : Int) := by
  have := goodO_at h hk
  rw [okO_val hk] at this
  simp only [Bool.and_eq_true, decide_eq_true_eq] at this
  exact ⟨this.1.1.1.2, this.1.1.2⟩
theorem implStanding_c (xs : List Opinion) (A : Option Addr) (c : Nat) (z d : Int) (w : World) (hr : Rd encOpinion 5 w.heap.size w A xs) (hn : xs.length ≤ 1048576) (hw : ∀ x ∈ xs, x.expert.size ≤ 9223372036854775807) (hz : -9223372036854775808 ≤ z ∧ z ≤ 9223372036854775807) (hd : -9223372036854775808 ≤ d ∧ d ≤ 9223372036854775807) :
    Calls Tryz.prog 11 #[.slice A xs.length c, .int .i64 z, .int .i64 d] w (RetL encI 1 (stV xs z d) (stB xs z d) w) := by
  have HW := Lib.hid hw
  clear hw
  by_cases hF : goodO xs = false
  · go_enter Tryz.func11, Tryz.ntmps11
    have hbg := Below.refl w.heap.size w
    go_wp2_with fail
    refine (areOpinions_c xs _ _ _ (hr.go hbg) hn HW.out).mono ?_
    rintro e wg0 ⟨rfl, hb0⟩
    have hbg := below_via hbg hb0
    go_wp2_with fail
    go_returns
    exact ⟨_, _, ret_list (by simp [stV, stB, hF]) (by simp [stB, hF]), hbg, Own.none_ (by simp [stV, stB, hF]) (Nat.le_refl _)⟩
  have G0 : goodO xs = true := by simpa using hF
  clear hF
  by_cases hF : inR z 1 999 = false
  · go_enter Tryz.func11, Tryz.ntmps11
    have hbg := Below.refl w.heap.size w
    go_wp2_with fail
    refine (areOpinions_c xs _ _ _ (hr.go hbg) hn HW.out).mono ?_
    rintro e wg0 ⟨rfl, hb0⟩
    have hbg := below_via hbg hb0
    go_wp2_with fail
    refine (isItem_c _ _).mono ?_
    rintro e wp1 ⟨rfl, rfl⟩
    go_wp2_with fail
    go_returns
    exact ⟨_, _, ret_list (by simp [stV, stB, hF]) (by simp [stB, hF]), hbg, Own.none_ (by simp [stV, stB, hF]) (Nat.le_refl _)⟩
  have G1 : inR z 1 999 = true := by simpa using hF
  clear hF
  by_cases hF : inR d 0 4000 = false
  · go_enter Tryz.func11, Tryz.ntmps11
    have hbg := Below.refl w.heap.size w
    go_wp2_with fail
    refine (areOpinions_c xs _ _ _ (hr.go hbg) hn HW.out).mono ?_
    rintro e wg0 ⟨rfl, hb0⟩
    have hbg := below_via hbg hb0
    go_wp2_with fail
    refine (isItem_c _ _).mono ?_
    rintro e wp1 ⟨rfl, rfl⟩
    go_wp2_with fail
    refine (isDay_c _ _).mono ?_
    rintro e wp2 ⟨rfl, rfl⟩
    go_wp2_with fail
    go_returns
    exact ⟨_, _, ret_list (by simp [stV, stB, hF]) (by simp [stB, hF]), hbg, Own.none_ (by simp [stV, stB, hF]) (Nat.le_refl _)⟩
  have G2 : inR d 0 4000 = true := by simpa using hF
  clear hF
  go_enter Tryz.func11, Tryz.ntmps11
  have hbg := Below.refl w.heap.size w
  go_wp2_with fail
  refine (areOpinions_c xs _ _ _ (hr.go hbg) hn HW.out).mono ?_
  rintro e wg0 ⟨rfl, hb0⟩
  have hbg := below_via hbg hb0
  go_wp2_with fail
  refine (isItem_c _ _).mono ?_
  rintro e wp1 ⟨rfl, rfl⟩
  go_wp2_with fail
  refine (isDay_c _ _).mono ?_
  rintro e wp2 ⟨rfl, rfl⟩
  have HV := Lib.hid (show stV xs z d = standL xs z d by simp [stV, stB, G0, G1, G2])
  have HB := Lib.hid (show stB xs z d = true by simp [stB, G0, G1, G2])
  go_wp2_with fail
  refine (standing_c xs _ _ _ _ _ (hr.go hbg) hn G0).mono ?_
  rintro e w1 ⟨B, c', rfl, hb1, hO⟩
  go_wp2_with fail
  go_returns
  exact ⟨B, c', ret_list (by rw [HV.out]) HB.out.symm, below_via hbg hb1, (hO.wide hbg.size (Nat.le_refl _) (Nat.le_refl _)).cast HV.out.symm⟩
theorem implViewOf_c (xs : List Opinion) (A : Option Addr) (c : Nat) (z d : Int) (w : World) (hr : Rd encOpinion 5 w.heap.size w A xs) (hn : xs.length ≤ 1048576) (hw : ∀ x ∈ xs, x.expert.size ≤ 9223372036854775807) (hz : -9223372036854775808 ≤ z ∧ z ≤ 9223372036854775807) (hd : -9223372036854775808 ≤ d ∧ d ≤ 9223372036854775807) :
    Calls Tryz.prog 6 #[.slice A xs.length c, .int .i64 z, .int .i64 d] w (Ret (.tuple #[.int .i64 (vwV xs z d), .bool (stB xs z d)]) w) := by
  have HW := Lib.hid hw
  clear hw
  by_cases hF : goodO xs = false
  · go_enter Tryz.func6, Tryz.ntmps6
    have hbg := Below.refl w.heap.size w
    go_wp2_with fail
    refine (areOpinions_c xs _ _ _ (hr.go hbg) hn HW.out).mono ?_
    rintro e wg0 ⟨rfl, hb0⟩
    have hbg := below_via hbg hb0
    go_wp2_with fail
    go_returns
    exact ⟨ret2 (vi (by simp [vwV, stB, hF])) (vb (by simp [stB, hF])), hbg⟩
  have G0 : goodO xs = true := by simpa using hF
  clear hF
  by_cases hF : inR z 1 999 = false
  · go_enter Tryz.func6, Tryz.ntmps6
    have hbg := Below.refl w.heap.size w
    go_wp2_with fail
    refine (areOpinions_c xs _ _ _ (hr.go hbg) hn HW.out).mono ?_
    rintro e wg0 ⟨rfl, hb0⟩
    have hbg := below_via hbg hb0
    go_wp2_with fail
    refine (isItem_c _ _).mono ?_
    rintro e wp1 ⟨rfl, rfl⟩
    go_wp2_with fail
    go_returns
    exact ⟨ret2 (vi (by simp [vwV, stB, hF])) (vb (by simp [stB, hF])), hbg⟩
  have G1 : inR z 1 999 = true := by simpa using hF
  clear hF
  by_cases hF : inR d 0 4000 = false
  · go_enter Tryz.func6, Tryz.ntmps6
    have hbg := Below.refl w.heap.size w
    go_wp2_with fail
    refine (areOpinions_c xs _ _ _ (hr.go hbg) hn HW.out).mono ?_
    rintro e wg0 ⟨rfl, hb0⟩
    have hbg := below_via hbg hb0
    go_wp2_with fail
    refine (isItem_c _ _).mono ?_
    rintro e wp1 ⟨rfl, rfl⟩
    go_wp2_with fail
    refine (isDay_c _ _).mono ?_
    rintro e wp2 ⟨rfl, rfl⟩
    go_wp2_with fail
    go_returns
    exact ⟨ret2 (vi (by simp [vwV, stB, hF])) (vb (by simp [stB, hF])), hbg⟩
  have G2 : inR d 0 4000 = true := by simpa using hF
  clear hF
  go_enter Tryz.func6, Tryz.ntmps6
  have hbg := Below.refl w.heap.size w
  go_wp2_with fail
  refine (areOpinions_c xs _ _ _ (hr.go hbg) hn HW.out).mono ?_
  rintro e wg0 ⟨rfl, hb0⟩
  have hbg := below_via hbg hb0
  go_wp2_with fail
  refine (isItem_c _ _).mono ?_
  rintro e wp1 ⟨rfl, rfl⟩
  go_wp2_with fail
  refine (isDay_c _ _).mono ?_
  rintro e wp2 ⟨rfl, rfl⟩
  have HV := Lib.hid (show vwV xs z d = viewM xs z d by simp [vwV, stB, G0, G1, G2])
  have HB := Lib.hid (show stB xs z d = true by simp [stB, G0, G1, G2])
  go_wp2_with fail
  refine (viewOf_c xs _ _ _ _ _ (hr.go hbg) hn G0).mono ?_
  rintro e w1 ⟨rfl, hb1⟩
  have hbg := below_via hbg hb1
  go_wp2_with fail
  go_returns
  exact ⟨ret2 (vi HV.out.symm) (vb HB.out.symm), hbg⟩
theorem specViewOf_c (xs : List Opinion) (A : Option Addr) (c : Nat) (z d : Int) (w : World) (hr : Rd encOpinion 5 w.heap.size w A xs) (hn : xs.length ≤ 1048576) (hw : ∀ x ∈ xs, x.expert.size ≤ 9223372036854775807) (hz : -9223372036854775808 ≤ z ∧ z ≤ 9223372036854775807) (hd : -9223372036854775808 ≤ d ∧ d ≤ 9223372036854775807) :
    Calls Tryz.prog 7 #[.slice A xs.length c, .int .i64 z, .int .i64 d] w (Ret (.tuple #[.int .i64 (vwV xs z d), .bool (stB xs z d)]) w) := by
  have HW := Lib.hid hw
  clear hw
  by_cases hF : goodO xs = false
  · go_enter Tryz.func7, Tryz.ntmps7
    have hbg := Below.refl w.heap.size w
    go_wp2_with fail
    refine (l17Good_c xs _ _ _ (hr.go hbg) hn HW.out).mono ?_
    rintro e wg0 ⟨rfl, hb0⟩
    have hbg := below_via hbg hb0
    go_wp2_with fail
    go_returns
    exact ⟨ret2 (vi (by simp [vwV, stB, hF])) (vb (by simp [stB, hF])), hbg⟩
  have G0 : goodO xs = true := by simpa using hF
  clear hF
  by_cases hF : inR z 1 999 = false
  · go_enter Tryz.func7, Tryz.ntmps7
    have hbg := Below.refl w.heap.size w
    go_wp2_with fail
    refine (l17Good_c xs _ _ _ (hr.go hbg) hn HW.out).mono ?_
    rintro e wg0 ⟨rfl, hb0⟩
    have hbg := below_via hbg hb0
    go_wp2_with fail
    refine (l17Item_c _ _).mono ?_
    rintro e wp1 ⟨rfl, rfl⟩
    go_wp2_with fail
    go_returns
    exact ⟨ret2 (vi (by simp [vwV, stB, hF])) (vb (by simp [stB, hF])), hbg⟩
  have G1 : inR z 1 999 = true := by simpa using hF
  clear hF
  by_cases hF : inR d 0 4000 = false
  · go_enter Tryz.func7, Tryz.ntmps7
    have hbg := Below.refl w.heap.size w
    go_wp2_with fail
    refine (l17Good_c xs _ _ _ (hr.go hbg) hn HW.out).mono ?_
    rintro e wg0 ⟨rfl, hb0⟩
    have hbg := below_via hbg hb0
    go_wp2_with fail
    refine (l17Item_c _ _).mono ?_
    rintro e wp1 ⟨rfl, rfl⟩
    go_wp2_with fail
    refine (l2Day_c _ _).mono ?_
    rintro e wp2 ⟨rfl, rfl⟩
    go_wp2_with fail
    go_returns
    exact ⟨ret2 (vi (by simp [vwV, stB, hF])) (vb (by simp [stB, hF])), hbg⟩
  have G2 : inR d 0 4000 = true := by simpa using hF
  clear hF
  go_enter Tryz.func7, Tryz.ntmps7
  have hbg := Below.refl w.heap.size w
  go_wp2_with fail
  refine (l17Good_c xs _ _ _ (hr.go hbg) hn HW.out).mono ?_
  rintro e wg0 ⟨rfl, hb0⟩
  have hbg := below_via hbg hb0
  go_wp2_with fail
  refine (l17Item_c _ _).mono ?_
  rintro e wp1 ⟨rfl, rfl⟩
  go_wp2_with fail
  refine (l2Day_c _ _).mono ?_
  rintro e wp2 ⟨rfl, rfl⟩
  have HV := Lib.hid (show vwV xs z d = viewM xs z d by simp [vwV, stB, G0, G1, G2])
  have HB := Lib.hid (show stB xs z d = true by simp [stB, G0, G1, G2])
  go_wp2_with fail
  refine (l17View_c xs _ _ _ _ _ (hr.go hbg) hn G0).mono ?_
  rintro e w1 ⟨rfl, rfl⟩
  go_wp2_with fail
  go_returns
  exact ⟨ret2 (vi HV.out.symm) (vb HB.out.symm), hbg⟩
set_option maxRecDepth 100000 in
set_option maxHeartbeats 4000000 in
theorem specStanding_c (xs : List Opinion) (A : Option Addr) (c : Nat) (z d : Int) (w : World) (hr : Rd encOpinion 5 w.heap.size w A xs) (hn : xs.length ≤ 1048576) (hw : ∀ x ∈ xs, x.expert.size ≤ 9223372036854775807) (hz : -9223372036854775808 ≤ z ∧ z ≤ 9223372036854775807) (hd : -9223372036854775808 ≤ d ∧ d ≤ 9223372036854775807) :
    Calls Tryz.prog 12 #[.slice A xs.length c, .int .i64 z, .int .i64 d] w (RetL encI 1 (stV xs z d) (stB xs z d) w) := by
  have HW := Lib.hid hw
  clear hw
  by_cases hF : goodO xs = false
  · go_enter Tryz.func12, Tryz.ntmps12
    have hbg := (show Below w.heap.size w (w.alloc (.cells #[] 3)) by go_grown)
    have hbx := Below.refl (w.alloc (.cells #[] 3)).heap.size (w.alloc (.cells #[] 3))
    go_wp2_with fail
    refine (l17Good_c xs _ _ _ (hr.go hbg) hn HW.out).mono ?_
    rintro e wg0 ⟨rfl, hb0⟩
    have hbg := below_via hbg hb0
    have hbx := below_via hbx hb0
    go_wp2_with fail
    go_returns
    exact ⟨_, _, ret_list (by simp [stV, stB, hF]) (by simp [stB, hF]), hbg, Own.none_ (by simp [stV, stB, hF]) (Nat.le_refl _)⟩
  have G0 : goodO xs = true := by simpa using hF
  clear hF
  by_cases hF : inR z 1 999 = false
  · go_enter Tryz.func12, Tryz.ntmps12
    have hbg := (show Below w.heap.size w (w.alloc (.cells #[] 3)) by go_grown)
    have hbx := Below.refl (w.alloc (.cells #[] 3)).heap.size (w.alloc (.cells #[] 3))
    go_wp2_with fail
    refine (l17Good_c xs _ _ _ (hr.go hbg) hn HW.out).mono ?_
    rintro e wg0 ⟨rfl, hb0⟩
    have hbg := below_via hbg hb0
    have hbx := below_via hbx hb0
    go_wp2_with fail
    refine (l17Item_c _ _).mono ?_
    rintro e wp1 ⟨rfl, rfl⟩
    go_wp2_with fail
    go_returns
    exact ⟨_, _, ret_list (by simp [stV, stB, hF]) (by simp [stB, hF]), hbg, Own.none_ (by simp [stV, stB, hF]) (Nat.le_refl _)⟩
  have G1 : inR z 1 999 = true := by simpa using hF
  clear hF
  by_cases hF : inR d 0 4000 = false
  · go_enter Tryz.func12, Tryz.ntmps12
    have hbg := (show Below w.heap.size w (w.alloc (.cells #[] 3)) by go_grown)
    have hbx := Below.refl (w.alloc (.cells #[] 3)).heap.size (w.alloc (.cells #[] 3))
    go_wp2_with fail
    refine (l17Good_c xs _ _ _ (hr.go hbg) hn HW.out).mono ?_
    rintro e wg0 ⟨rfl, hb0⟩
    have hbg := below_via hbg hb0
    have hbx := below_via hbx hb0
    go_wp2_with fail
    refine (l17Item_c _ _).mono ?_
    rintro e wp1 ⟨rfl, rfl⟩
    go_wp2_with fail
    refine (l2Day_c _ _).mono ?_
    rintro e wp2 ⟨rfl, rfl⟩
    go_wp2_with fail
    go_returns
    exact ⟨_, _, ret_list (by simp [stV, stB, hF]) (by simp [stB, hF]), hbg, Own.none_ (by simp [stV, stB, hF]) (Nat.le_refl _)⟩
  have G2 : inR d 0 4000 = true := by simpa using hF
  clear hF
  go_enter Tryz.func12, Tryz.ntmps12
  have hbg := (show Below w.heap.size w (w.alloc (.cells #[] 3)) by go_grown)
  have hbx := Below.refl (w.alloc (.cells #[] 3)).heap.size (w.alloc (.cells #[] 3))
  go_wp2_with fail
  refine (l17Good_c xs _ _ _ (hr.go hbg) hn HW.out).mono ?_
  rintro e wg0 ⟨rfl, hb0⟩
  have hbg := below_via hbg hb0
  have hbx := below_via hbx hb0
  go_wp2_with fail
  refine (l17Item_c _ _).mono ?_
  rintro e wp1 ⟨rfl, rfl⟩
  go_wp2_with fail
  refine (l2Day_c _ _).mono ?_
  rintro e wp2 ⟨rfl, rfl⟩
  have HG := Lib.hid G0
  have HV := Lib.hid (show stV xs z d = ((List.range xs.length).filter (standP xs z d)).map nat by simp [stV, stB, standL, G0, G1, G2])
  have HB := Lib.hid (show stB xs z d = true by simp [stB, G0, G1, G2])
  go_wp2_with fail
  clear G0 G1 G2
  go_loopw [8, 9] (fun v i wr => ∃ k : Nat, k ≤ xs.length ∧ i = .int .i64 k ∧ Out (Value.int .i64) 3 w.heap.size v (((List.range k).filter (standP xs z d)).map nat) wr ∧ Below w.heap.size w wr) (fun _ i _ => xs.length - (intOf i).toNat)
  case atStart => exact ⟨0, Nat.zero_le _, rfl, (Out.empty w (Nat.le_refl _)).below hbx, hbg⟩
  case round =>
    obtain ⟨k, hk, rfl, ho, hb⟩ := hrel
    clear hbg hbx
    have hbz := hb.size
    have hl := range_len (p := standP xs z d) (f := nat) (k := k)
    by_cases hlt : k < xs.length
    · obtain ⟨b, off, rfl, hbs, d0, d1, d2, d3, d4⟩ := (hr.below hb).atOpinion hlt
      have HP := Lib.hid (standP_val (z := z) (d := d) hlt)
      by_cases h0 : xs[k].item = z
      · have h0' : (xs[k].item == z) = true := by simpa using h0
        cases h1 : stO xs d k with
        | true =>
          have HK := Lib.hid (range_yes (p := standP xs z d) (f := nat) (k := k) (by rw [HP.out, decide_eq_true h0, h1]; rfl))
          clear h0
          go_wp2_with (first | (go_at_call 38; refine (l17Stands_c xs _ _ k _ _ ((hr.below hb).more hb.size) hn HG.out hlt).mono ?_; rintro e w' ⟨rfl, rfl⟩) | (at_builtin; refine wpList_push rfl _ _ _ rfl 3 (.int .i64 0) 8 Tryz.underlying29 infoI rfl (k : Int) rfl ho _ rfl (by simp) rfl (by omega) (by omega) (by omega) ?_; intro v1 w1 hown1 hbel1))
          go_roundw
          case rel => exact ⟨k + 1, by omega, by go_num, by rw [HK.out]; exact hown1, hb.trans hbel1⟩
          case measure => simp [intOf]; omega
        | false =>
          have HK := Lib.hid (range_no (p := standP xs z d) (f := nat) (k := k) (by rw [HP.out]; rw [h1, Bool.and_false]))
          clear h0
          go_wp2_with (go_at_call 38; refine (l17Stands_c xs _ _ k _ _ ((hr.below hb).more hb.size) hn HG.out hlt).mono ?_; rintro e w' ⟨rfl, rfl⟩)
          go_roundw
          case rel => exact ⟨k + 1, by omega, by go_num, by rw [HK.out]; exact ho, hb⟩
          case measure => simp [intOf]; omega
      · have h0' : (xs[k].item == z) = false := by simpa using h0
        have HK := Lib.hid (range_no (p := standP xs z d) (f := nat) (k := k) (by rw [HP.out]; rw [decide_eq_false h0]; rfl))
        clear h0
        go_wp2_with fail
        go_roundw
        case rel => exact ⟨k + 1, by omega, by go_num, by rw [HK.out]; exact ho, hb⟩
        case measure => simp [intOf]; omega
    · have hke : k = xs.length := by omega
      subst hke
      clear hl
      obtain ⟨L, hL⟩ : ∃ L, ((List.range xs.length).filter (standP xs z d)).map nat = L := ⟨_, rfl⟩
      rw [hL] at ho
      have HV := Lib.hid (HV.out.trans hL)
      clear hL
      obtain ⟨B, c', rfl, hO⟩ := ho.own
      go_wp2_with fail
      go_returns
      exact ⟨B, c', ret_list (by rw [HV.out]) HB.out.symm, hb, hO.cast HV.out.symm⟩
set_option maxRecDepth 100000 in
set_option maxHeartbeats 4000000 in
theorem implFirstView_c (xs : List Opinion) (A : Option Addr) (c : Nat) (z s : Int) (w : World) (hr : Rd encOpinion 5 w.heap.size w A xs) (hn : xs.length ≤ 1048576) (hw : ∀ x ∈ xs, x.expert.size ≤ 9223372036854775807) (hz : -9223372036854775808 ≤ z ∧ z ≤ 9223372036854775807) (hs : -9223372036854775808 ≤ s ∧ s ≤ 9223372036854775807) :
    Calls Tryz.prog 18 #[.slice A xs.length c, .int .i64 z, .int .i64 s] w (Ret (.tuple #[.int .i64 (fvV xs z s), .bool (fvB xs z s)]) w) := by
  have HW := Lib.hid hw
  clear hw
  by_cases hF : goodO xs = false
  · go_enter Tryz.func18, Tryz.ntmps18
    have hbg := Below.refl w.heap.size w
    go_wp2_with fail
    refine (areOpinions_c xs _ _ _ (hr.go hbg) hn HW.out).mono ?_
    rintro e wg0 ⟨rfl, hb0⟩
    have hbg := below_via hbg hb0
    go_wp2_with fail
    go_returns
    exact ⟨ret2 (vi (by simp [fvV, fvG, hF])) (vb (by simp [fvB, fvG, hF])), hbg⟩
  have G0 : goodO xs = true := by simpa using hF
  clear hF
  by_cases hF : inR z 1 999 = false
  · go_enter Tryz.func18, Tryz.ntmps18
    have hbg := Below.refl w.heap.size w
    go_wp2_with fail
    refine (areOpinions_c xs _ _ _ (hr.go hbg) hn HW.out).mono ?_
    rintro e wg0 ⟨rfl, hb0⟩
    have hbg := below_via hbg hb0
    go_wp2_with fail
    refine (isItem_c _ _).mono ?_
    rintro e wp1 ⟨rfl, rfl⟩
    go_wp2_with fail
    go_returns
    exact ⟨ret2 (vi (by simp [fvV, fvG, hF])) (vb (by simp [fvB, fvG, hF])), hbg⟩
  have G1 : inR z 1 999 = true := by simpa using hF
  clear hF
  by_cases hF : inR s 1 4 = false
  · go_enter Tryz.func18, Tryz.ntmps18
    have hbg := Below.refl w.heap.size w
    go_wp2_with fail
    refine (areOpinions_c xs _ _ _ (hr.go hbg) hn HW.out).mono ?_
    rintro e wg0 ⟨rfl, hb0⟩
    have hbg := below_via hbg hb0
    go_wp2_with fail
    refine (isItem_c _ _).mono ?_
    rintro e wp1 ⟨rfl, rfl⟩
    go_wp2_with fail
    refine (inRange_c _ _ _ _).mono ?_
    rintro e wp2 ⟨rfl, rfl⟩
    go_wp2_with fail
    go_returns
    exact ⟨ret2 (vi (by simp [fvV, fvG, hF])) (vb (by simp [fvB, fvG, hF])), hbg⟩
  have G2 : inR s 1 4 = true := by simpa using hF
  clear hF
  go_enter Tryz.func18, Tryz.ntmps18
  have hbg := Below.refl w.heap.size w
  go_wp2_with fail
  refine (areOpinions_c xs _ _ _ (hr.go hbg) hn HW.out).mono ?_
  rintro e wg0 ⟨rfl, hb0⟩
  have hbg := below_via hbg hb0
  go_wp2_with fail
  refine (isItem_c _ _).mono ?_
  rintro e wp1 ⟨rfl, rfl⟩
  go_wp2_with fail
  refine (inRange_c _ _ _ _).mono ?_
  rintro e wp2 ⟨rfl, rfl⟩
  have HG := Lib.hid G0
  have HB := Lib.hid (show fvG xs z s = true by simp [fvG, G0, G1, G2])
  go_wp2_with fail
  clear G0 G1 G2
  go_loopw [27] (fun i wr => ∃ k : Nat, k ≤ xs.length ∧ i = .int .i64 k ∧ (∀ x ∈ xs.take k, fvP xs z s x = false) ∧ Below w.heap.size w wr) (fun i _ => xs.length - (intOf i).toNat)
  case atStart => exact ⟨0, Nat.zero_le _, rfl, by simp, hbg⟩
  case round =>
    obtain ⟨k, hk, rfl, hall, hb⟩ := hrel
    have HA := Lib.hid hall
    clear hall hbg
    by_cases hlt : k < xs.length
    · obtain ⟨b, off, rfl, hbs, d0, d1, d2, d3, d4⟩ := (hr.below hb).atOpinion hlt
      have hbw : b < wr.heap.size := Nat.lt_of_lt_of_le hbs hb.size
      by_cases h0 : viewM xs z xs[k].day = s
      · have h0' : (viewM xs z xs[k].day == s) = true := by simpa using h0
        have HH := Lib.hid (fv_hit hlt HB.out HA.out (by unfold fvP; exact decide_eq_true h0))
        clear h0
        go_wp2_with (go_at_call 29; refine (viewOf_c xs _ _ _ _ _ ((hr.below hb).more hb.size |>.go ((Below.refl _ _).alloc (Nat.le_refl _) _)) hn HG.out).mono ?_; rintro e w1 ⟨rfl, hbc⟩; obtain ⟨hcc, hff⟩ := bcell hbc)
        go_returns
        exact ⟨ret2 (vi HH.out.1.symm) (vb HH.out.2.symm), (hb.trans ((Below.refl _ _).alloc hb.size _)).trans (hbc.mono (by have := hb.size; simp; omega))⟩
      · have h0' : (viewM xs z xs[k].day == s) = false := by simpa using h0
        have HH := Lib.hid (take_no (p := fvP xs z s) hlt HA.out (by unfold fvP; exact decide_eq_false h0))
        clear h0
        go_wp2_with (go_at_call 29; refine (viewOf_c xs _ _ _ _ _ ((hr.below hb).more hb.size |>.go ((Below.refl _ _).alloc (Nat.le_refl _) _)) hn HG.out).mono ?_; rintro e w1 ⟨rfl, hbc⟩; obtain ⟨hcc, hff⟩ := bcell hbc)
        go_roundw
        case rel => exact ⟨k + 1, by omega, by go_num, HH.out, (hb.trans ((Below.refl _ _).alloc hb.size _)).trans (hbc.mono (by have := hb.size; simp; omega))⟩
        case measure => simp [intOf]; omega
    · have HH := Lib.hid (fv_miss (xs := xs) (z := z) (s := s) (by have := HA.out; rwa [List.take_of_length_le (by omega)] at this))
      go_wp2_with fail
      go_returns
      exact ⟨ret2 (vi HH.out.1.symm) (vb HH.out.2.symm), hb⟩
set_option maxRecDepth 100000 in
set_option maxHeartbeats 4000000 in
theorem specFirstView_c (xs : List Opinion) (A : Option Addr) (c : Nat) (z s : Int) (w : World) (hr : Rd encOpinion 5 w.heap.size w A xs) (hn : xs.length ≤ 1048576) (hw : ∀ x ∈ xs, x.expert.size ≤ 9223372036854775807) (hz : -9223372036854775808 ≤ z ∧ z ≤ 9223372036854775807) (hs : -9223372036854775808 ≤ s ∧ s ≤ 9223372036854775807) :
    Calls Tryz.prog 19 #[.slice A xs.length c, .int .i64 z, .int .i64 s] w (Ret (.tuple #[.int .i64 (fvV xs z s), .bool (fvB xs z s)]) w) := by
  have HW := Lib.hid hw
  clear hw
  by_cases hF : goodO xs = false
  · go_enter Tryz.func19, Tryz.ntmps19
    have hbg := Below.refl w.heap.size w
    go_wp2_with fail
    refine (l17Good_c xs _ _ _ (hr.go hbg) hn HW.out).mono ?_
    rintro e wg0 ⟨rfl, hb0⟩
    have hbg := below_via hbg hb0
    go_wp2_with fail
    go_returns
    exact ⟨ret2 (vi (by simp [fvV, fvG, hF])) (vb (by simp [fvB, fvG, hF])), hbg⟩
  have G0 : goodO xs = true := by simpa using hF
  clear hF
  by_cases hF : inR z 1 999 = false
  · go_enter Tryz.func19, Tryz.ntmps19
    have hbg := Below.refl w.heap.size w
    go_wp2_with fail
    refine (l17Good_c xs _ _ _ (hr.go hbg) hn HW.out).mono ?_
    rintro e wg0 ⟨rfl, hb0⟩
    have hbg := below_via hbg hb0
    go_wp2_with fail
    refine (l17Item_c _ _).mono ?_
    rintro e wp1 ⟨rfl, rfl⟩
    go_wp2_with fail
    go_returns
    exact ⟨ret2 (vi (by simp [fvV, fvG, hF])) (vb (by simp [fvB, fvG, hF])), hbg⟩
  have G1 : inR z 1 999 = true := by simpa using hF
  clear hF
  by_cases hF : inR s 1 4 = false
  · go_enter Tryz.func19, Tryz.ntmps19
    have hbg := Below.refl w.heap.size w
    go_wp2_with fail
    refine (l17Good_c xs _ _ _ (hr.go hbg) hn HW.out).mono ?_
    rintro e wg0 ⟨rfl, hb0⟩
    have hbg := below_via hbg hb0
    go_wp2_with fail
    refine (l17Item_c _ _).mono ?_
    rintro e wp1 ⟨rfl, rfl⟩
    go_wp2_with fail
    refine (l1In_c _ _ _ _).mono ?_
    rintro e wp2 ⟨rfl, rfl⟩
    go_wp2_with fail
    go_returns
    exact ⟨ret2 (vi (by simp [fvV, fvG, hF])) (vb (by simp [fvB, fvG, hF])), hbg⟩
  have G2 : inR s 1 4 = true := by simpa using hF
  clear hF
  go_enter Tryz.func19, Tryz.ntmps19
  have hbg := Below.refl w.heap.size w
  go_wp2_with fail
  refine (l17Good_c xs _ _ _ (hr.go hbg) hn HW.out).mono ?_
  rintro e wg0 ⟨rfl, hb0⟩
  have hbg := below_via hbg hb0
  go_wp2_with fail
  refine (l17Item_c _ _).mono ?_
  rintro e wp1 ⟨rfl, rfl⟩
  go_wp2_with fail
  refine (l1In_c _ _ _ _).mono ?_
  rintro e wp2 ⟨rfl, rfl⟩
  have HG := Lib.hid G0
  have HB := Lib.hid (show fvG xs z s = true by simp [fvG, G0, G1, G2])
  go_wp2_with fail
  clear G0 G1 G2
  go_loopw [8] (fun i wr => ∃ k : Nat, k ≤ xs.length ∧ i = .int .i64 k ∧ (∀ x ∈ xs.take k, fvP xs z s x = false) ∧ Below w.heap.size w wr) (fun i _ => xs.length - (intOf i).toNat)
  case atStart => exact ⟨0, Nat.zero_le _, rfl, by simp, hbg⟩
  case round =>
    obtain ⟨k, hk, rfl, hall, hb⟩ := hrel
    have HA := Lib.hid hall
    clear hall hbg
    by_cases hlt : k < xs.length
    · obtain ⟨b, off, rfl, hbs, d0, d1, d2, d3, d4⟩ := (hr.below hb).atOpinion hlt
      have hbw : b < wr.heap.size := Nat.lt_of_lt_of_le hbs hb.size
      by_cases h0 : viewM xs z xs[k].day = s
      · have h0' : (viewM xs z xs[k].day == s) = true := by simpa using h0
        have HH := Lib.hid (fv_hit hlt HB.out HA.out (by unfold fvP; exact decide_eq_true h0))
        clear h0
        go_wp2_with (go_at_call 33; refine (l17View_c xs _ _ _ _ _ ((hr.below hb).more hb.size) hn HG.out).mono ?_; rintro e w1 ⟨rfl, rfl⟩)
        go_returns
        exact ⟨ret2 (vi HH.out.1.symm) (vb HH.out.2.symm), hb⟩
      · have h0' : (viewM xs z xs[k].day == s) = false := by simpa using h0
        have HH := Lib.hid (take_no (p := fvP xs z s) hlt HA.out (by unfold fvP; exact decide_eq_false h0))
        clear h0
        go_wp2_with (go_at_call 33; refine (l17View_c xs _ _ _ _ _ ((hr.below hb).more hb.size) hn HG.out).mono ?_; rintro e w1 ⟨rfl, rfl⟩)
        go_roundw
        case rel => exact ⟨k + 1, by omega, by go_num, HH.out, hb⟩
        case measure => simp [intOf]; omega
    · have HH := Lib.hid (fv_miss (xs := xs) (z := z) (s := s) (by have := HA.out; rwa [List.take_of_length_le (by omega)] at this))
      go_wp2_with fail
      go_returns
      exact ⟨ret2 (vi HH.out.1.symm) (vb HH.out.2.symm), hb⟩
end Go.Proofs.YtpnkeaeikcobfaaGreatDoor
