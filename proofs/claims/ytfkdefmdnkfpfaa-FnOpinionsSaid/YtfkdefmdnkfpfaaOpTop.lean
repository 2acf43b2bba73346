/- Contracts of Standing, ViewOf, FirstView, HistoryOf: the program's and the reference's. No condition but the sizes. -/
import Derived.Test.YtfkdefmdnkfpfaaOpView
namespace Go.Proofs.Ytfkdefmdnkfpfaa
set_option linter.unusedVariables false
set_option linter.unusedSimpArgs false
open Go.RowKit
attribute [local irreducible] wpQuiet
def stB (xs : List Opinion) (z d : Int) : Bool := goodO xs && inR z 1 999 && inR d 0 4000
def stV (xs : List Opinion) (z d : Int) : List Int := if stB xs z d = true then standL xs z d else []
theorem stV_len {xs : List Opinion} {z d : Int} (h : xs.length ≤ 1048576) : (stV xs z d).length ≤ 2097152 := by
  unfold stV; split
  · have : (standL xs z d).length ≤ xs.length := by unfold standL; exact range_len
    omega
  · simp
def vwV (xs : List Opinion) (z d : Int) : Int := if stB xs z d = true then viewM xs z d else 0
def fvP (xs : List Opinion) (z s : Int) (x : Opinion) : Bool := decide (viewM xs z x.day = s)
def fvG (xs : List Opinion) (z s : Int) : Bool := goodO xs && inR z 1 999 && inR s 1 4
def fvB (xs : List Opinion) (z s : Int) : Bool := fvG xs z s && xs.any (fvP xs z s)
def fvV (xs : List Opinion) (z s : Int) : Int := if fvG xs z s = true then (match xs.find? (fvP xs z s) with | some x => x.day | none => 0) else 0
theorem fv_hit {xs : List Opinion} {z s : Int} {k : Nat} (hk : k < xs.length) (hg : fvG xs z s = true) (h0 : ∀ x ∈ xs.take k, fvP xs z s x = false) (h1 : fvP xs z s xs[k] = true) : fvV xs z s = xs[k].day ∧ fvB xs z s = true := by
  have hf : xs.find? (fvP xs z s) = some xs[k] := by
    rw [List.find?_eq_some_iff_getElem]
    refine ⟨h1, k, hk, rfl, fun j hj => ?_⟩
    have := h0 xs[j] (List.mem_take_iff_getElem.2 ⟨j, by omega, rfl⟩)
    simp [this]
  refine ⟨?_, ?_⟩
  · unfold fvV; rw [if_pos hg, hf]
  · unfold fvB; rw [hg, List.any_eq_true.2 ⟨xs[k], List.getElem_mem hk, h1⟩]; rfl
theorem fv_miss {xs : List Opinion} {z s : Int} (h0 : ∀ x ∈ xs, fvP xs z s x = false) : fvV xs z s = 0 ∧ fvB xs z s = false := by
  have hf : xs.find? (fvP xs z s) = none := List.find?_eq_none.2 (fun x hx => by rw [h0 x hx]; exact Bool.false_ne_true)
  have ha : xs.any (fvP xs z s) = false := List.any_eq_false.2 (fun x hx => by rw [h0 x hx]; exact Bool.false_ne_true)
  refine ⟨?_, ?_⟩
  · unfold fvV; rw [hf]; split <;> rfl
  · unfold fvB; rw [ha, Bool.and_false]
def overO (xs : List Opinion) (i : Int) : Int := match xs[i.toNat]? with | none => -1 | some x => x.over
theorem overO_nat {xs : List Opinion} {i : Nat} (h : i < xs.length) : overO xs (i : Int) = xs[i].over := by simp [overO, h]
def histF (xs : List Opinion) : Nat → Int → List Int
  | 0, _ => []
  | f + 1, i => if i < 0 then [] else i :: histF xs f (overO xs i)
theorem histF_neg (xs : List Opinion) (f : Nat) {i : Int} (h : i < 0) : histF xs f i = [] := by cases f <;> simp [histF, h]
theorem histF_len (xs : List Opinion) : ∀ (f : Nat) (i : Int), (histF xs f i).length ≤ f
  | 0, _ => by simp [histF]
  | f + 1, i => by
    unfold histF; split
    · simp
    · have := histF_len xs f (overO xs i); simp; omega
def hiB (xs : List Opinion) (z : Int) : Bool := goodO xs && inR z 0 ((xs.length : Int) - 1)
def hiV (xs : List Opinion) (z : Int) : List Int := if hiB xs z = true then histF xs (xs.length + 1) z else []
theorem hiV_len {xs : List Opinion} {z : Int} (h : xs.length ≤ 1048576) : (hiV xs z).length ≤ 2097152 := by
  unfold hiV; split
  · have := histF_len xs (xs.length + 1) z; omega
  · simp
theorem goodO_low {xs : List Opinion} (h : goodO xs = true) {k : Nat} (hk : k < xs.length) : -1 ≤ xs[k].over ∧ xs[k].over < (k : Int) := by
  have := goodO_at h hk
  rw [okO_val hk] at this
  simp only [Bool.and_eq_true, decide_eq_true_eq] at this
  exact ⟨this.1.1.1.2, this.1.1.2⟩
theorem implStanding_c (xs : List Opinion) (A : Option Addr) (c : Nat) (z d : Int) (w : World) (hr : Rd encOpinion 5 w.heap.size w A xs) (hn : xs.length ≤ 1048576) (hw : ∀ x ∈ xs, x.expert.size ≤ 9223372036854775807) (hz : -9223372036854775808 ≤ z ∧ z ≤ 9223372036854775807) (hd : -9223372036854775808 ≤ d ∧ d ≤ 9223372036854775807) :
    Calls Try.prog 10 #[.slice A xs.length c, .int .i64 z, .int .i64 d] w (RetL encI 1 (stV xs z d) (stB xs z d) w) := by
  have HW := Lib.hid hw
  clear hw
  by_cases hF : goodO xs = false
  · go_enter Try.func10, Try.ntmps10
    have hbg := Below.refl w.heap.size w
    go_wp2_with fail
    refine (areOpinions_c xs _ _ _ (hr.go hbg) hn HW.out).mono ?_
    rintro e wg0 ⟨rfl, hb0⟩
    have hbg := below_via hbg hb0
    go_wp2_with fail
    go_returns
    exact ⟨_, _, ret_list (by simp [stV, stB, hF]) (by simp [stB, hF]), hbg, Own.none_ (by simp [stV, stB, hF]) (Nat.le_refl _)⟩
  have G0 : goodO xs = true := by simpa using hF
  clear hF
  by_cases hF : inR z 1 999 = false
  · go_enter Try.func10, Try.ntmps10
    have hbg := Below.refl w.heap.size w
    go_wp2_with fail
    refine (areOpinions_c xs _ _ _ (hr.go hbg) hn HW.out).mono ?_
    rintro e wg0 ⟨rfl, hb0⟩
    have hbg := below_via hbg hb0
    go_wp2_with fail
    refine (isItem_c _ _).mono ?_
    rintro e wp1 ⟨rfl, rfl⟩
    go_wp2_with fail
    go_returns
    exact ⟨_, _, ret_list (by simp [stV, stB, hF]) (by simp [stB, hF]), hbg, Own.none_ (by simp [stV, stB, hF]) (Nat.le_refl _)⟩
  have G1 : inR z 1 999 = true := by simpa using hF
  clear hF
  by_cases hF : inR d 0 4000 = false
  · go_enter Try.func10, Try.ntmps10
    have hbg := Below.refl w.heap.size w
    go_wp2_with fail
    refine (areOpinions_c xs _ _ _ (hr.go hbg) hn HW.out).mono ?_
    rintro e wg0 ⟨rfl, hb0⟩
    have hbg := below_via hbg hb0
    go_wp2_with fail
    refine (isItem_c _ _).mono ?_
    rintro e wp1 ⟨rfl, rfl⟩
    go_wp2_with fail
    refine (isDay_c _ _).mono ?_
    rintro e wp2 ⟨rfl, rfl⟩
    go_wp2_with fail
    go_returns
    exact ⟨_, _, ret_list (by simp [stV, stB, hF]) (by simp [stB, hF]), hbg, Own.none_ (by simp [stV, stB, hF]) (Nat.le_refl _)⟩
  have G2 : inR d 0 4000 = true := by simpa using hF
  clear hF
  go_enter Try.func10, Try.ntmps10
  have hbg := Below.refl w.heap.size w
  go_wp2_with fail
  refine (areOpinions_c xs _ _ _ (hr.go hbg) hn HW.out).mono ?_
  rintro e wg0 ⟨rfl, hb0⟩
  have hbg := below_via hbg hb0
  go_wp2_with fail
  refine (isItem_c _ _).mono ?_
  rintro e wp1 ⟨rfl, rfl⟩
  go_wp2_with fail
  refine (isDay_c _ _).mono ?_
  rintro e wp2 ⟨rfl, rfl⟩
  have HV := Lib.hid (show stV xs z d = standL xs z d by simp [stV, stB, G0, G1, G2])
  have HB := Lib.hid (show stB xs z d = true by simp [stB, G0, G1, G2])
  go_wp2_with fail
  refine (standing_c xs _ _ _ _ _ (hr.go hbg) hn G0).mono ?_
  rintro e w1 ⟨B, c', rfl, hb1, hO⟩
  go_wp2_with fail
  go_returns
  exact ⟨B, c', ret_list (by rw [HV.out]) HB.out.symm, below_via hbg hb1, (hO.wide hbg.size (Nat.le_refl _) (Nat.le_refl _)).cast HV.out.symm⟩
set_option maxRecDepth 100000 in
set_option maxHeartbeats 4000000 in
theorem specStanding_c (xs : List Opinion) (A : Option Addr) (c : Nat) (z d : Int) (w : World) (hr : Rd encOpinion 5 w.heap.size w A xs) (hn : xs.length ≤ 1048576) (hw : ∀ x ∈ xs, x.expert.size ≤ 9223372036854775807) (hz : -9223372036854775808 ≤ z ∧ z ≤ 9223372036854775807) (hd : -9223372036854775808 ≤ d ∧ d ≤ 9223372036854775807) :
    Calls Try.prog 17 #[.slice A xs.length c, .int .i64 z, .int .i64 d] w (RetL encI 1 (stV xs z d) (stB xs z d) w) := by
  have HW := Lib.hid hw
  clear hw
  by_cases hF : goodO xs = false
  · go_enter Try.func17, Try.ntmps17
    have hbg := (show Below w.heap.size w (w.alloc (.cells #[] 3)) by go_grown)
    have hbx := Below.refl (w.alloc (.cells #[] 3)).heap.size (w.alloc (.cells #[] 3))
    go_wp2_with fail
    refine (l17Good_c xs _ _ _ (hr.go hbg) hn HW.out).mono ?_
    rintro e wg0 ⟨rfl, hb0⟩
    have hbg := below_via hbg hb0
    have hbx := below_via hbx hb0
    go_wp2_with fail
    go_returns
    exact ⟨_, _, ret_list (by simp [stV, stB, hF]) (by simp [stB, hF]), hbg, Own.none_ (by simp [stV, stB, hF]) (Nat.le_refl _)⟩
  have G0 : goodO xs = true := by simpa using hF
  clear hF
  by_cases hF : inR z 1 999 = false
  · go_enter Try.func17, Try.ntmps17
    have hbg := (show Below w.heap.size w (w.alloc (.cells #[] 3)) by go_grown)
    have hbx := Below.refl (w.alloc (.cells #[] 3)).heap.size (w.alloc (.cells #[] 3))
    go_wp2_with fail
    refine (l17Good_c xs _ _ _ (hr.go hbg) hn HW.out).mono ?_
    rintro e wg0 ⟨rfl, hb0⟩
    have hbg := below_via hbg hb0
    have hbx := below_via hbx hb0
    go_wp2_with fail
    refine (l17Item_c _ _).mono ?_
    rintro e wp1 ⟨rfl, rfl⟩
    go_wp2_with fail
    go_returns
    exact ⟨_, _, ret_list (by simp [stV, stB, hF]) (by simp [stB, hF]), hbg, Own.none_ (by simp [stV, stB, hF]) (Nat.le_refl _)⟩
  have G1 : inR z 1 999 = true := by simpa using hF
  clear hF
  by_cases hF : inR d 0 4000 = false
  · go_enter Try.func17, Try.ntmps17
    have hbg := (show Below w.heap.size w (w.alloc (.cells #[] 3)) by go_grown)
    have hbx := Below.refl (w.alloc (.cells #[] 3)).heap.size (w.alloc (.cells #[] 3))
    go_wp2_with fail
    refine (l17Good_c xs _ _ _ (hr.go hbg) hn HW.out).mono ?_
    rintro e wg0 ⟨rfl, hb0⟩
    have hbg := below_via hbg hb0
    have hbx := below_via hbx hb0
    go_wp2_with fail
    refine (l17Item_c _ _).mono ?_
    rintro e wp1 ⟨rfl, rfl⟩
    go_wp2_with fail
    refine (l2Day_c _ _).mono ?_
    rintro e wp2 ⟨rfl, rfl⟩
    go_wp2_with fail
    go_returns
    exact ⟨_, _, ret_list (by simp [stV, stB, hF]) (by simp [stB, hF]), hbg, Own.none_ (by simp [stV, stB, hF]) (Nat.le_refl _)⟩
  have G2 : inR d 0 4000 = true := by simpa using hF
  clear hF
  go_enter Try.func17, Try.ntmps17
  have hbg := (show Below w.heap.size w (w.alloc (.cells #[] 3)) by go_grown)
  have hbx := Below.refl (w.alloc (.cells #[] 3)).heap.size (w.alloc (.cells #[] 3))
  go_wp2_with fail
  refine (l17Good_c xs _ _ _ (hr.go hbg) hn HW.out).mono ?_
  rintro e wg0 ⟨rfl, hb0⟩
  have hbg := below_via hbg hb0
  have hbx := below_via hbx hb0
  go_wp2_with fail
  refine (l17Item_c _ _).mono ?_
  rintro e wp1 ⟨rfl, rfl⟩
  go_wp2_with fail
  refine (l2Day_c _ _).mono ?_
  rintro e wp2 ⟨rfl, rfl⟩
  have HG := Lib.hid G0
  have HV := Lib.hid (show stV xs z d = ((List.range xs.length).filter (standP xs z d)).map nat by simp [stV, stB, standL, G0, G1, G2])
  have HB := Lib.hid (show stB xs z d = true by simp [stB, G0, G1, G2])
  go_wp2_with fail
  clear G0 G1 G2
  go_loopw [8, 9] (fun v i wr => ∃ k : Nat, k ≤ xs.length ∧ i = .int .i64 k ∧ Out (Value.int .i64) 3 w.heap.size v (((List.range k).filter (standP xs z d)).map nat) wr ∧ Below w.heap.size w wr) (fun _ i _ => xs.length - (intOf i).toNat)
  case atStart => exact ⟨0, Nat.zero_le _, rfl, (Out.empty w (Nat.le_refl _)).below hbx, hbg⟩
  case round =>
    obtain ⟨k, hk, rfl, ho, hb⟩ := hrel
    clear hbg hbx
    have hbz := hb.size
    have hl := range_len (p := standP xs z d) (f := nat) (k := k)
    by_cases hlt : k < xs.length
    · obtain ⟨b, off, rfl, hbs, d0, d1, d2, d3, d4⟩ := (hr.below hb).atOpinion hlt
      have HP := Lib.hid (standP_val (z := z) (d := d) hlt)
      by_cases h0 : xs[k].item = z
      · have h0' : (xs[k].item == z) = true := by simpa using h0
        cases h1 : stO xs d k with
        | true =>
          have HK := Lib.hid (range_yes (p := standP xs z d) (f := nat) (k := k) (by rw [HP.out, decide_eq_true h0, h1]; rfl))
          clear h0
          go_wp2_with (first | (go_at_call 51; refine (l17Stands_c xs _ _ k _ _ ((hr.below hb).more hb.size) hn HG.out hlt).mono ?_; rintro e w' ⟨rfl, rfl⟩) | (at_builtin; refine wpList_push rfl _ _ _ rfl 3 (.int .i64 0) 8 Try.underlying30 infoI rfl (k : Int) rfl ho _ rfl (by simp) rfl (by omega) (by omega) (by omega) ?_; intro v1 w1 hown1 hbel1))
          go_roundw
          case rel => exact ⟨k + 1, by omega, by go_num, by rw [HK.out]; exact hown1, hb.trans hbel1⟩
          case measure => simp [intOf]; omega
        | false =>
          have HK := Lib.hid (range_no (p := standP xs z d) (f := nat) (k := k) (by rw [HP.out]; rw [h1, Bool.and_false]))
          clear h0
          go_wp2_with (go_at_call 51; refine (l17Stands_c xs _ _ k _ _ ((hr.below hb).more hb.size) hn HG.out hlt).mono ?_; rintro e w' ⟨rfl, rfl⟩)
          go_roundw
          case rel => exact ⟨k + 1, by omega, by go_num, by rw [HK.out]; exact ho, hb⟩
          case measure => simp [intOf]; omega
      · have h0' : (xs[k].item == z) = false := by simpa using h0
        have HK := Lib.hid (range_no (p := standP xs z d) (f := nat) (k := k) (by rw [HP.out]; rw [decide_eq_false h0]; rfl))
        clear h0
        go_wp2_with fail
        go_roundw
        case rel => exact ⟨k + 1, by omega, by go_num, by rw [HK.out]; exact ho, hb⟩
        case measure => simp [intOf]; omega
    · have hke : k = xs.length := by omega
      subst hke
      clear hl
      obtain ⟨L, hL⟩ : ∃ L, ((List.range xs.length).filter (standP xs z d)).map nat = L := ⟨_, rfl⟩
      rw [hL] at ho
      have HV := Lib.hid (HV.out.trans hL)
      clear hL
      obtain ⟨B, c', rfl, hO⟩ := ho.own
      go_wp2_with fail
      go_returns
      exact ⟨B, c', ret_list (by rw [HV.out]) HB.out.symm, hb, hO.cast HV.out.symm⟩
set_option maxRecDepth 100000 in
set_option maxHeartbeats 4000000 in
theorem implHistoryOf_c (xs : List Opinion) (A : Option Addr) (c : Nat) (z : Int) (w : World) (hr : Rd encOpinion 5 w.heap.size w A xs) (hn : xs.length ≤ 1048576) (hw : ∀ x ∈ xs, x.expert.size ≤ 9223372036854775807) (hz : -9223372036854775808 ≤ z ∧ z ≤ 9223372036854775807) :
    Calls Try.prog 12 #[.slice A xs.length c, .int .i64 z] w (RetL encI 1 (hiV xs z) (hiB xs z) w) := by
  have HW := Lib.hid hw
  clear hw
  by_cases hF : goodO xs = false
  · go_enter Try.func12, Try.ntmps12
    have hbg := Below.refl w.heap.size w
    go_wp2_with fail
    refine (areOpinions_c xs _ _ _ (hr.go hbg) hn HW.out).mono ?_
    rintro e wg0 ⟨rfl, hb0⟩
    have hbg := below_via hbg hb0
    go_wp2_with fail
    go_returns
    exact ⟨_, _, ret_list (by simp [hiV, hiB, hF]) (by simp [hiB, hF]), hbg, Own.none_ (by simp [hiV, hiB, hF]) (Nat.le_refl _)⟩
  have G0 : goodO xs = true := by simpa using hF
  clear hF
  by_cases hF : inR z 0 ((xs.length : Int) - 1) = false
  · go_enter Try.func12, Try.ntmps12
    have hbg := Below.refl w.heap.size w
    go_wp2_with fail
    refine (areOpinions_c xs _ _ _ (hr.go hbg) hn HW.out).mono ?_
    rintro e wg0 ⟨rfl, hb0⟩
    have hbg := below_via hbg hb0
    go_wp2_with fail
    refine (inRange_c _ _ _ _).mono ?_
    rintro e wp1 ⟨rfl, rfl⟩
    go_wp2_with fail
    go_returns
    exact ⟨_, _, ret_list (by simp [hiV, hiB, hF]) (by simp [hiB, hF]), hbg, Own.none_ (by simp [hiV, hiB, hF]) (Nat.le_refl _)⟩
  have G1 : inR z 0 ((xs.length : Int) - 1) = true := by simpa using hF
  clear hF
  go_enter Try.func12, Try.ntmps12
  have hbg := Below.refl w.heap.size w
  go_wp2_with fail
  refine (areOpinions_c xs _ _ _ (hr.go hbg) hn HW.out).mono ?_
  rintro e wg0 ⟨rfl, hb0⟩
  have hbg := below_via hbg hb0
  go_wp2_with fail
  refine (inRange_c _ _ _ _).mono ?_
  rintro e wp1 ⟨rfl, rfl⟩
  have HG := Lib.hid G0
  have HV := Lib.hid (show hiV xs z = histF xs (xs.length + 1) z by simp [hiV, hiB, G0, G1])
  have HB := Lib.hid (show hiB xs z = true by simp [hiB, G0, G1])
  have hzr := inR_iff.1 G1
  go_wp2_with fail
  clear G0 G1 hz
  go_loopw [1, 6] (fun i v wr => ∃ (n : Int) (P : List Int) (f : Nat), i = .int .i64 n ∧ -1 ≤ n ∧ n < xs.length ∧ n < f ∧ P.length + f = xs.length + 1 ∧ P ++ histF xs f n = histF xs (xs.length + 1) z ∧ Out (Value.int .i64) 3 w.heap.size v P wr ∧ Below w.heap.size w wr) (fun i _ _ => (intOf i + 1).toNat)
  case atStart => exact ⟨z, [], xs.length + 1, rfl, by omega, by omega, by omega, by simp, by simp, Out.nil _, hbg⟩
  case round =>
    obtain ⟨n, P, f, rfl, hn1, hn2, hnf, hpf, hph, ho, hb⟩ := hrel
    have HH := Lib.hid hph
    clear hph hbg
    have hbz := hb.size
    by_cases hlt : 0 ≤ n
    · obtain ⟨k, rfl⟩ : ∃ k : Nat, n = (k : Int) := ⟨n.toNat, by omega⟩
      have hkl : k < xs.length := by omega
      obtain ⟨b, off, rfl, hbs, d0, d1, d2, d3, d4⟩ := (hr.below hb).atOpinion hkl
      have hbw : b < wr.heap.size := Nat.lt_of_lt_of_le hbs hb.size
      obtain ⟨hv1, hv2⟩ := goodO_low HG.out hkl
      obtain ⟨f', rfl⟩ : ∃ f', f = f' + 1 := ⟨f - 1, by omega⟩
      have HK := Lib.hid (show (P ++ [(k : Int)]) ++ histF xs f' xs[k].over = histF xs (xs.length + 1) z by
        rw [← HH.out, ← overO_nat hkl, List.append_assoc]
        show _ = P ++ (if (k : Int) < 0 then [] else (k : Int) :: histF xs f' (overO xs k))
        rw [if_neg (by omega)]; rfl)
      have hlk : (k : Int) < (xs.length : Int) := by omega
      go_wp2_with (at_builtin; refine wpList_push rfl _ _ _ rfl 3 (.int .i64 0) 8 Try.underlying30 infoI rfl (k : Int) rfl ho _ rfl (by simp) rfl (by omega) (by omega) (by omega) ?_; intro v1 w1 hown1 hbel1; obtain ⟨g0, g1, g2, g3, g4⟩ : w1.cell? ⟨b, off + k * 5, none⟩ = some (.int .i64 xs[k].item) ∧ w1.cell? ⟨b, off + k * 5 + 1, none⟩ = some (.string xs[k].expert) ∧ w1.cell? ⟨b, off + k * 5 + 2, none⟩ = some (.int .i64 xs[k].day) ∧ w1.cell? ⟨b, off + k * 5 + 3, none⟩ = some (.int .i64 xs[k].says) ∧ w1.cell? ⟨b, off + k * 5 + 4, none⟩ = some (.int .i64 xs[k].over) := ⟨(hbel1.cell (p := ⟨b, _, none⟩) hbs).trans d0, (hbel1.cell (p := ⟨b, _, none⟩) hbs).trans d1, (hbel1.cell (p := ⟨b, _, none⟩) hbs).trans d2, (hbel1.cell (p := ⟨b, _, none⟩) hbs).trans d3, (hbel1.cell (p := ⟨b, _, none⟩) hbs).trans d4⟩)
      go_roundw
      case rel => exact ⟨xs[k].over, P ++ [(k : Int)], f', rfl, hv1, by omega, by omega, by simp; omega, HK.out, hown1, hb.trans hbel1⟩
      case measure => simp [intOf]; omega
    · have HP := Lib.hid (show hiV xs z = P by rw [HV.out, ← HH.out, histF_neg xs f (by omega), List.append_nil])
      obtain ⟨B, c', rfl, hO⟩ := ho.own
      go_wp2_with fail
      go_returns
      exact ⟨B, c', ret_list (by rw [HP.out]) HB.out.symm, hb, hO.cast HP.out.symm⟩
set_option maxRecDepth 100000 in
set_option maxHeartbeats 4000000 in
theorem specHistoryOf_c (xs : List Opinion) (A : Option Addr) (c : Nat) (z : Int) (w : World) (hr : Rd encOpinion 5 w.heap.size w A xs) (hn : xs.length ≤ 1048576) (hw : ∀ x ∈ xs, x.expert.size ≤ 9223372036854775807) (hz : -9223372036854775808 ≤ z ∧ z ≤ 9223372036854775807) :
    Calls Try.prog 14 #[.slice A xs.length c, .int .i64 z] w (RetL encI 1 (hiV xs z) (hiB xs z) w) := by
  have HW := Lib.hid hw
  clear hw
  by_cases hF : goodO xs = false
  · go_enter Try.func14, Try.ntmps14
    have hbg := (show Below w.heap.size w (w.alloc (.cells #[] 3)) by go_grown)
    have hbx := Below.refl (w.alloc (.cells #[] 3)).heap.size (w.alloc (.cells #[] 3))
    go_wp2_with fail
    refine (l17Good_c xs _ _ _ (hr.go hbg) hn HW.out).mono ?_
    rintro e wg0 ⟨rfl, hb0⟩
    have hbg := below_via hbg hb0
    have hbx := below_via hbx hb0
    go_wp2_with fail
    go_returns
    exact ⟨_, _, ret_list (by simp [hiV, hiB, hF]) (by simp [hiB, hF]), hbg, Own.none_ (by simp [hiV, hiB, hF]) (Nat.le_refl _)⟩
  have G0 : goodO xs = true := by simpa using hF
  clear hF
  by_cases hF : inR z 0 ((xs.length : Int) - 1) = false
  · go_enter Try.func14, Try.ntmps14
    have hbg := (show Below w.heap.size w (w.alloc (.cells #[] 3)) by go_grown)
    have hbx := Below.refl (w.alloc (.cells #[] 3)).heap.size (w.alloc (.cells #[] 3))
    go_wp2_with fail
    refine (l17Good_c xs _ _ _ (hr.go hbg) hn HW.out).mono ?_
    rintro e wg0 ⟨rfl, hb0⟩
    have hbg := below_via hbg hb0
    have hbx := below_via hbx hb0
    go_wp2_with fail
    refine (l1In_c _ _ _ _).mono ?_
    rintro e wp1 ⟨rfl, rfl⟩
    go_wp2_with fail
    go_returns
    exact ⟨_, _, ret_list (by simp [hiV, hiB, hF]) (by simp [hiB, hF]), hbg, Own.none_ (by simp [hiV, hiB, hF]) (Nat.le_refl _)⟩
  have G1 : inR z 0 ((xs.length : Int) - 1) = true := by simpa using hF
  clear hF
  go_enter Try.func14, Try.ntmps14
  have hbg := (show Below w.heap.size w (w.alloc (.cells #[] 3)) by go_grown)
  have hbx := Below.refl (w.alloc (.cells #[] 3)).heap.size (w.alloc (.cells #[] 3))
  go_wp2_with fail
  refine (l17Good_c xs _ _ _ (hr.go hbg) hn HW.out).mono ?_
  rintro e wg0 ⟨rfl, hb0⟩
  have hbg := below_via hbg hb0
  have hbx := below_via hbx hb0
  go_wp2_with fail
  refine (l1In_c _ _ _ _).mono ?_
  rintro e wp1 ⟨rfl, rfl⟩
  have HG := Lib.hid G0
  have HV := Lib.hid (show hiV xs z = histF xs (xs.length + 1) z by simp [hiV, hiB, G0, G1])
  have HB := Lib.hid (show hiB xs z = true by simp [hiB, G0, G1])
  have hzr := inR_iff.1 G1
  go_wp2_with fail
  clear G0 G1 hz
  go_loopw [6, 7] (fun v i wr => ∃ (n : Int) (P : List Int) (f : Nat), i = .int .i64 n ∧ -1 ≤ n ∧ n < xs.length ∧ n < f ∧ P.length + f = xs.length + 1 ∧ P ++ histF xs f n = histF xs (xs.length + 1) z ∧ Out (Value.int .i64) 3 w.heap.size v P wr ∧ Below w.heap.size w wr) (fun _ i _ => (intOf i + 1).toNat)
  case atStart => exact ⟨z, [], xs.length + 1, rfl, by omega, by omega, by omega, by simp, by simp, (Out.empty w (Nat.le_refl _)).below hbx, hbg⟩
  case round =>
    obtain ⟨n, P, f, rfl, hn1, hn2, hnf, hpf, hph, ho, hb⟩ := hrel
    have HH := Lib.hid hph
    clear hph hbg hbx
    have hbz := hb.size
    by_cases hlt : 0 ≤ n
    · obtain ⟨k, rfl⟩ : ∃ k : Nat, n = (k : Int) := ⟨n.toNat, by omega⟩
      have hkl : k < xs.length := by omega
      obtain ⟨b, off, rfl, hbs, d0, d1, d2, d3, d4⟩ := (hr.below hb).atOpinion hkl
      have hbw : b < wr.heap.size := Nat.lt_of_lt_of_le hbs hb.size
      obtain ⟨hv1, hv2⟩ := goodO_low HG.out hkl
      obtain ⟨f', rfl⟩ : ∃ f', f = f' + 1 := ⟨f - 1, by omega⟩
      have HK := Lib.hid (show (P ++ [(k : Int)]) ++ histF xs f' xs[k].over = histF xs (xs.length + 1) z by
        rw [← HH.out, ← overO_nat hkl, List.append_assoc]
        show _ = P ++ (if (k : Int) < 0 then [] else (k : Int) :: histF xs f' (overO xs k))
        rw [if_neg (by omega)]; rfl)
      have hlk : (k : Int) < (xs.length : Int) := by omega
      go_wp2_with (at_builtin; refine wpList_push rfl _ _ _ rfl 3 (.int .i64 0) 8 Try.underlying30 infoI rfl (k : Int) rfl ho _ rfl (by simp) rfl (by omega) (by omega) (by omega) ?_; intro v1 w1 hown1 hbel1; obtain ⟨g0, g1, g2, g3, g4⟩ : w1.cell? ⟨b, off + k * 5, none⟩ = some (.int .i64 xs[k].item) ∧ w1.cell? ⟨b, off + k * 5 + 1, none⟩ = some (.string xs[k].expert) ∧ w1.cell? ⟨b, off + k * 5 + 2, none⟩ = some (.int .i64 xs[k].day) ∧ w1.cell? ⟨b, off + k * 5 + 3, none⟩ = some (.int .i64 xs[k].says) ∧ w1.cell? ⟨b, off + k * 5 + 4, none⟩ = some (.int .i64 xs[k].over) := ⟨(hbel1.cell (p := ⟨b, _, none⟩) hbs).trans d0, (hbel1.cell (p := ⟨b, _, none⟩) hbs).trans d1, (hbel1.cell (p := ⟨b, _, none⟩) hbs).trans d2, (hbel1.cell (p := ⟨b, _, none⟩) hbs).trans d3, (hbel1.cell (p := ⟨b, _, none⟩) hbs).trans d4⟩)
      go_roundw
      case rel => exact ⟨xs[k].over, P ++ [(k : Int)], f', rfl, hv1, by omega, by omega, by simp; omega, HK.out, hown1, hb.trans hbel1⟩
      case measure => simp [intOf]; omega
    · have HP := Lib.hid (show hiV xs z = P by rw [HV.out, ← HH.out, histF_neg xs f (by omega), List.append_nil])
      obtain ⟨B, c', rfl, hO⟩ := ho.own
      go_wp2_with fail
      go_returns
      exact ⟨B, c', ret_list (by rw [HP.out]) HB.out.symm, hb, hO.cast HP.out.symm⟩
end Go.Proofs.Ytfkdefmdnkfpfaa
