/- Contracts of the functions that ask whether numbers rise, are codes, are the same: the program's, Go's and the reference's. No condition but the sizes. -/
import Derived.Test.YtgjehnjpbekoeaaDoorCvSS
import Derived.Test.YtgjehnjpbekoeaaDoorFlPlain
import Derived.Test.YtgjehnjpbekoeaaDoorFlCodes
import Derived.Deep.DeepCutAuto
namespace Go.Proofs.YtgjehnjpbekoeaaDoor
set_option linter.unusedVariables false
set_option linter.unusedSimpArgs false
open Go.RowKit
attribute [local irreducible] wpQuiet
theorem addr_eq {b off b' off' : Nat} (h : (some ⟨b, off, none⟩ : Option Addr) = some ⟨b', off', none⟩) : b = b' ∧ off = off' := by injection h with h; injection h with h1 h2; exact ⟨h1, h2⟩
theorem take_all {α : Type} {p : α → Bool} {xs : List α} {k : Nat} (hk : k < xs.length) (h0 : (xs.take k).all p = true) (h1 : p xs[k] = true) : (xs.take (k + 1)).all p = true := by
  rw [take_succ_get xs k hk, List.all_append, h0]; simp [h1]
theorem all_no {α : Type} {p : α → Bool} {xs : List α} {k : Nat} (hk : k < xs.length) (h1 : p xs[k] = false) : xs.all p = false :=
  List.all_eq_false.2 ⟨xs[k], List.getElem_mem hk, by simp [h1]⟩
def ascO (l : List Int) (i : Nat) : Bool := decide (i = 0) || match l[i - 1]?, l[i]? with | some a, some b => decide (a < b) | _, _ => false
def ascL (l : List Int) : Bool := (List.range l.length).all (ascO l)
theorem ascO_0 (l : List Int) : ascO l 0 = true := by simp [ascO]
theorem ascO_s {l : List Int} {j : Nat} (h : j + 1 < l.length) : ascO l (j + 1) = decide (l[j] < l[j + 1]) := by
  have : j < l.length := by omega
  simp [ascO, h, this]
theorem ascL_no {l : List Int} {k : Nat} (h : k < l.length) (hc : ascO l k = false) : ascL l = false := List.all_eq_false.2 ⟨k, List.mem_range.2 h, by simp [hc]⟩
def risL (l : List Int) (lo hi : Int) : Bool := ascL l && l.all fun z => inR z lo hi
set_option maxRecDepth 100000 in
set_option maxHeartbeats 1000000 in
theorem ascending_c (xs : List Int) (A : Option Addr) (c : Nat) (w : World) (hr : Rd encI 1 w.heap.size w A xs) (hn : xs.length ≤ 2097152) :
    Calls Tryd.prog 46 #[.slice A xs.length c] w (Ret (.bool (ascL xs)) w) := by
  go_enter Tryd.func46, Tryd.ntmps46
  go_wp2_with fail
  go_loopw [3] (fun i wr => ∃ k : Nat, 1 ≤ k ∧ i = .int .i64 k ∧ (k ≤ xs.length ∨ k = 1) ∧ (List.range k).all (ascO xs) = true ∧ Below w.heap.size w wr) (fun i _ => xs.length - (intOf i).toNat)
  case atStart => exact ⟨1, by omega, rfl, .inr rfl, by simp [ascO_0], Below.refl _ _⟩
  case round =>
    obtain ⟨k, hk1, rfl, hk, hall, hb⟩ := hrel
    have HA := Lib.hid hall
    clear hall
    by_cases hlt : k < xs.length
    · obtain ⟨j, rfl⟩ : ∃ j, k = j + 1 := ⟨k - 1, by omega⟩
      have hj : j < xs.length := by omega
      obtain ⟨b, off, rfl, hbs, d0⟩ := (hr.below hb).int hlt
      obtain ⟨b', off', hA, hbs', g0⟩ := (hr.below hb).int hj
      obtain ⟨rfl, rfl⟩ := addr_eq hA
      have hsub : ((j + 1 : Nat) : Int) - 1 = (j : Int) := by omega
      have hj0 : (0 : Int) ≤ j := by omega
      have hj1 : (j : Int) ≤ xs.length := by omega
      have hj2 : (j : Int) < xs.length := by omega
      by_cases hd : xs[j] < xs[j + 1]
      · have hd' : decide (xs[j + 1] ≤ xs[j]) = false := decide_eq_false (by omega)
        have HN := Lib.hid (range_next HA.out (by rw [ascO_s hlt]; exact decide_eq_true hd))
        clear hd
        go_wp2_with fail
        go_quiet (fail)
        go_wp2_with fail
        go_roundw
        case rel => exact ⟨j + 1 + 1, by omega, by go_num, .inl (by omega), HN.out, below_drewN hb _⟩
        case measure => simp [intOf]; omega
      · have hd' : decide (xs[j + 1] ≤ xs[j]) = true := decide_eq_true (by omega)
        have HV := Lib.hid (ascL_no hlt (by rw [ascO_s hlt]; exact decide_eq_false hd))
        clear hd
        go_wp2_with fail
        go_quiet (fail)
        go_wp2_with fail
        go_returns
        exact ⟨ret_bool HV.out.symm, below_drewN hb _⟩
    · have HV := Lib.hid (show ascL xs = true from List.all_eq_true.2 fun i hi => by
        have hi := List.mem_range.1 hi
        have h2 := HA.out
        exact List.all_eq_true.1 h2 i (List.mem_range.2 (by omega)))
      go_wp2_with fail
      go_returns
      exact ⟨ret_bool HV.out.symm, hb⟩
theorem risL_asc {l : List Int} {k : Nat} {lo hi : Int} (h : k < l.length) (hc : ascO l k = false) : risL l lo hi = false := by unfold risL; rw [ascL_no h hc, Bool.false_and]
theorem risL_rng {l : List Int} {k : Nat} {lo hi : Int} (h : k < l.length) (hc : inR l[k] lo hi = false) : risL l lo hi = false := by unfold risL; rw [all_no (p := fun z => inR z lo hi) h hc, Bool.and_false]
set_option maxRecDepth 100000 in
set_option maxHeartbeats 2000000 in
theorem l1Rising_c (xs : List Int) (A : Option Addr) (c : Nat) (lo hi : Int) (w : World) (hr : Rd encI 1 w.heap.size w A xs) (hn : xs.length ≤ 2097152) :
    Calls Tryd.prog 65 #[.slice A xs.length c, .int .i64 lo, .int .i64 hi] w (Ret (.bool (risL xs lo hi)) w) := by
  go_enter Tryd.func65, Tryd.ntmps65
  go_wp2_with fail
  go_loopw [7] (fun i wr => ∃ k : Nat, k ≤ xs.length ∧ i = .int .i64 k ∧ (List.range k).all (ascO xs) = true ∧ (xs.take k).all (fun z => inR z lo hi) = true ∧ Below w.heap.size w wr) (fun i _ => xs.length - (intOf i).toNat)
  case atStart => exact ⟨0, Nat.zero_le _, rfl, rfl, rfl, Below.refl _ _⟩
  case round =>
    obtain ⟨k, hk, rfl, hall, hrng, hb⟩ := hrel
    have HA := Lib.hid hall
    have HR := Lib.hid hrng
    clear hall hrng
    by_cases hlt : k < xs.length
    · obtain ⟨b, off, rfl, hbs, d0⟩ := (hr.below hb).int hlt
      have hbw : b < wr.heap.size := Nat.lt_of_lt_of_le hbs hb.size
      have hov := over_cell wr
      have hk0' : (0 : Int) ≤ k := by omega
      have hk1' : (k : Int) ≤ xs.length := by omega
      have hk2' : (k : Int) < xs.length := by omega
      have H1 : Hid (∀ x : World, Calls Tryd.prog 61 #[.int .i64 xs[k], .int .i64 lo, .int .i64 hi] (over wr x) (Pure (.bool (inR xs[k] lo hi)) (over wr x))) := Lib.hid (fun x => l1In_c _ _ _ _)
      cases hz : inR xs[k] lo hi with
      | false =>
        have HV := Lib.hid (risL_rng hlt hz)
        rw [hz] at H1
        clear hz
        go_wp2_with fail
        refine wp_region_over (by kernel_rfl) (by kernel_rfl) ?_
        repeat (go_big_quiet_step (((go_at_call 61; exact Calls.over_pure (H1.out _)))))
        refine wpQuiet_nil ?_
        intro _ hwx1
        obtain ⟨x1, hwx1⟩ := hwx1
        subst hwx1
        go_wp2_with fail
        go_returns
        exact ⟨ret_bool HV.out.symm, below_via hb (over_below wr x1)⟩
      | true =>
        have HRN := Lib.hid (take_all (p := fun z => inR z lo hi) hlt HR.out hz)
        rw [hz] at H1
        clear hz
        by_cases hk0 : k = 0
        · have hkz : decide (0 < (k : Int)) = false := decide_eq_false (by omega)
          have hkz1 : decide (0 < k) = false := decide_eq_false (by omega)
          have HN := Lib.hid (range_next HA.out (show ascO xs k = true by subst hk0; exact ascO_0 _))
          clear hk0
          go_wp2_with fail
          refine wp_region_over (by kernel_rfl) (by kernel_rfl) ?_
          repeat (go_big_quiet_step (((go_at_call 61; exact Calls.over_pure (H1.out _)))))
          refine wpQuiet_nil ?_
          intro _ hwx1
          obtain ⟨x1, hwx1⟩ := hwx1
          subst hwx1
          go_wp2_with fail
          go_roundw
          case rel => exact ⟨k + 1, by omega, by go_num, HN.out, HRN.out, below_via hb (over_below wr x1)⟩
          case measure => simp [intOf]; omega
        · obtain ⟨j, hj⟩ : ∃ j, k = j + 1 := ⟨k - 1, by omega⟩
          have hjl : j < xs.length := by omega
          obtain ⟨b', off', hA, _, g0⟩ := (hr.below hb).int hjl
          obtain ⟨rfl, rfl⟩ := addr_eq hA
          have hkz : decide (0 < (k : Int)) = true := decide_eq_true (by omega)
          have hkz1 : decide (0 < k) = true := decide_eq_true (by omega)
          have hkz2 : 0 < k := by omega
          have hsub : IntKind.i64.wrap ((k : Int) - 1) = (j : Int) := by
            rw [IntWalk.i64_in _ (by omega)]; omega
          have hj0 : (0 : Int) ≤ j := by omega
          have hj1 : (j : Int) ≤ xs.length := by omega
          have hj2 : (j : Int) < xs.length := by omega
          have HP := Lib.hid (show ascO xs k = decide (xs[j] < xs[k]) by subst hj; exact ascO_s hlt)
          clear hk0 hj hA
          by_cases hd : xs[j] < xs[k]
          · have hd' : decide (xs[k] ≤ xs[j]) = false := decide_eq_false (by omega)
            have HN := Lib.hid (range_next HA.out (show ascO xs k = true by rw [HP.out]; exact decide_eq_true hd))
            clear hd
            go_wp2_with fail
            refine wp_region_over (by kernel_rfl) (by kernel_rfl) ?_
            repeat (go_big_quiet_step (((go_at_call 61; exact Calls.over_pure (H1.out _)))))
            refine wpQuiet_nil ?_
            intro _ hwx1
            obtain ⟨x1, hwx1⟩ := hwx1
            subst hwx1
            go_wp2_with fail
            go_roundw
            case rel => exact ⟨k + 1, by omega, by go_num, HN.out, HRN.out, below_via hb (over_below wr x1)⟩
            case measure => simp [intOf]; omega
          · have hd' : decide (xs[k] ≤ xs[j]) = true := decide_eq_true (by omega)
            have HV := Lib.hid (risL_asc (lo := lo) (hi := hi) hlt (show ascO xs k = false by rw [HP.out]; exact decide_eq_false hd))
            clear hd
            go_wp2_with fail
            refine wp_region_over (by kernel_rfl) (by kernel_rfl) ?_
            repeat (go_big_quiet_step (((go_at_call 61; exact Calls.over_pure (H1.out _)))))
            refine wpQuiet_nil ?_
            intro _ hwx1
            obtain ⟨x1, hwx1⟩ := hwx1
            subst hwx1
            go_wp2_with fail
            go_returns
            exact ⟨ret_bool HV.out.symm, below_via hb (over_below wr x1)⟩
    · have hke : k = xs.length := by omega
      have HV := Lib.hid (show risL xs lo hi = true by
        unfold risL ascL
        have h1 := HA.out
        have h2 := HR.out
        rw [hke] at h1 h2
        rw [List.take_length] at h2
        rw [h1, h2]; rfl)
      go_wp2_with fail
      go_returns
      exact ⟨ret_bool HV.out.symm, hb⟩
set_option maxHeartbeats 400000 in
theorem indexN_c (xs : List Int) (A : Option Addr) (c : Nat) (w : World) (g : FuncId) (p : Int → Bool) (hr : Rd encI 1 w.heap.size w A xs) (hn : xs.length ≤ 1048576) (hg : ∀ args W, (callFunc g args).run Tryd.prog W = .ok (.enter g args) W)
    (hp : ∀ (x : Int) (W : World), Calls Tryd.prog g #[.int .i64 x] W (Ret (.bool (p x)) W)) :
    Calls Tryd.prog 72 #[.slice A xs.length c, .func (.func g) #[] #[]] w (Ret (.int .i64 (idxI p xs)) w) := by
  have HP := Lib.hid hp
  clear hp
  go_enter Tryd.func72, Tryd.ntmps72
  go_wp2_with fail
  go_loopw [8] (fun i wr => ∃ k : Nat, k ≤ xs.length ∧ i = .int .i64 k ∧ (∀ x ∈ xs.take k, p x = false) ∧ Below w.heap.size w wr) (fun i _ => xs.length - (intOf i).toNat)
  case atStart => exact ⟨0, Nat.zero_le _, rfl, by simp, Below.refl _ _⟩
  case round =>
    obtain ⟨k, hk, rfl, hall, hb⟩ := hrel
    have HA := Lib.hid hall
    clear hall
    by_cases hlt : k < xs.length
    · obtain ⟨b, off, rfl, hbs, d0⟩ := (hr.below hb).int hlt
      go_wp2_with fail
      refine (HP.out xs[k] _).mono ?_
      rintro e w1 ⟨rfl, hb1⟩
      have hbl := hb.trans (hb1.mono hb.size)
      by_cases hok : p xs[k] = true
      · go_wp2_with fail
        go_returns
        exact ⟨ret_int (idxI_hit p xs k hlt HA.out hok).symm, hbl⟩
      · have hok' : p xs[k] = false := by simpa using hok
        go_wp2_with fail
        go_roundw
        case rel => exact ⟨k + 1, by omega, by go_num, by rw [take_succ_get xs k hlt]; intro x hx; rcases List.mem_append.1 hx with h | h; exact HA.out x h; simp at h; subst h; exact hok', hbl⟩
        case measure => simp [intOf]; omega
    · have hke : xs.length ≤ k := by omega
      go_wp2_with fail
      go_returns
      exact ⟨ret_int (idxI_miss p xs (by have := HA.out; rwa [List.take_of_length_le hke] at this)).symm, hb⟩
theorem containsN_c (xs : List Int) (A : Option Addr) (c : Nat) (w : World) (g : FuncId) (p : Int → Bool) (hr : Rd encI 1 w.heap.size w A xs) (hn : xs.length ≤ 1048576) (hg : ∀ args W, (callFunc g args).run Tryd.prog W = .ok (.enter g args) W)
    (hp : ∀ (x : Int) (W : World), Calls Tryd.prog g #[.int .i64 x] W (Ret (.bool (p x)) W)) :
    Calls Tryd.prog 63 #[.slice A xs.length c, .func (.func g) #[] #[]] w (Ret (.bool (xs.any p)) w) := by
  have HP := Lib.hid hp
  clear hp
  go_enter Tryd.func63, Tryd.ntmps63
  go_wp2_with fail
  refine (indexN_c xs _ _ _ _ p hr hn hg HP.out).mono ?_
  rintro e w1 ⟨rfl, hb1⟩
  go_wp2_with fail
  go_returns
  exact ⟨ret_bool (idxI_any p xs), hb1⟩
theorem areCodes1_c (z : Int) (w : World) : Calls Tryd.prog 64 #[.int .i64 z] w (Ret (.bool (!inR z 1 99)) w) := by
  go_enter Tryd.func64, Tryd.ntmps64
  go_wp2_with (go_at_call 60; refine (inRange_c _ _ _ _).mono ?_; rintro e w' ⟨rfl, rfl⟩)
  go_returns
  exact ⟨rfl, Below.refl _ _⟩
def shoB (l : List Int) : Bool := decide (l.length ≤ 6) && risL l 1 99
theorem areCodes_c (xs : List Int) (A : Option Addr) (c : Nat) (w : World) (hr : Rd encI 1 w.heap.size w A xs) (hn : xs.length ≤ 1048576) :
    Calls Tryd.prog 47 #[.slice A xs.length c] w (Ret (.bool (shoB xs)) w) := by
  by_cases h6 : xs.length ≤ 6
  · have h6' : (xs.length : Int) ≤ 6 := by omega
    go_enter Tryd.func47, Tryd.ntmps47
    go_wp2_with fail
    refine (ascending_c xs _ _ _ hr (by omega)).mono ?_
    rintro e w1 ⟨rfl, hb1⟩
    cases ha : ascL xs
    · go_wp2_with fail
      go_returns
      exact ⟨ret_bool (by simp [shoB, h6, risL, ha]), hb1⟩
    · go_wp2_with fail
      refine (containsN_c xs _ _ _ _ (fun z => !inR z 1 99) (hr.go hb1) hn (enters Tryd.func64 (by kernel_rfl) rfl) areCodes1_c).mono ?_
      rintro e w2 ⟨rfl, hb2⟩
      go_wp2_with fail
      go_returns
      exact ⟨ret_bool (by simp [shoB, h6, risL, ha, List.all_eq_not_any_not]), below_step hb1 hb2⟩
  · have h6' : ¬ (xs.length : Int) ≤ 6 := by omega
    go_enter Tryd.func47, Tryd.ntmps47
    go_wp2_with fail
    go_returns
    exact ⟨ret_bool (by simp [shoB, h6]), Below.refl _ _⟩
theorem l15Shown_c (xs : List Int) (A : Option Addr) (c : Nat) (w : World) (hr : Rd encI 1 w.heap.size w A xs) (hn : xs.length ≤ 1048576) :
    Calls Tryd.prog 66 #[.slice A xs.length c] w (Ret (.bool (shoB xs)) w) := by
  by_cases h6 : xs.length ≤ 6
  · have h6' : (xs.length : Int) ≤ 6 := by omega
    go_enter Tryd.func66, Tryd.ntmps66
    go_wp2_with fail
    refine (l1Rising_c xs _ _ _ _ _ hr (by omega)).mono ?_
    rintro e w1 ⟨rfl, hb1⟩
    go_wp2_with fail
    go_returns
    exact ⟨ret_bool (by simp [shoB, h6]), hb1⟩
  · have h6' : ¬ (xs.length : Int) ≤ 6 := by omega
    go_enter Tryd.func66, Tryd.ntmps66
    go_wp2_with fail
    go_returns
    exact ⟨ret_bool (by simp [shoB, h6]), Below.refl _ _⟩
set_option maxRecDepth 100000 in
set_option maxHeartbeats 1000000 in
theorem equalN_c (xs ys : List Int) (A A' : Option Addr) (c c' : Nat) (w : World) (hr : Rd encI 1 w.heap.size w A xs) (hr' : Rd encI 1 w.heap.size w A' ys) (hn : xs.length ≤ 2097152) (hn' : ys.length ≤ 9223372036854775807) :
    Calls Tryd.prog 31 #[.slice A xs.length c, .slice A' ys.length c'] w (Ret (.bool (decide (xs = ys))) w) := by
  by_cases hl : xs.length = ys.length
  · have hl' : ((xs.length : Int) != (ys.length : Int)) = false := by rw [hl]; simp
    have HL := Lib.hid hl
    clear hl
    go_enter Tryd.func31, Tryd.ntmps31
    go_wp2_with fail
    go_loopw [13] (fun i wr => ∃ k : Nat, k ≤ xs.length ∧ i = .int .i64 k ∧ (∀ (j : Nat) (h : j < k) (h1 : j < xs.length) (h2 : j < ys.length), xs[j] = ys[j]) ∧ Below w.heap.size w wr) (fun i _ => xs.length - (intOf i).toNat)
    case atStart => exact ⟨0, Nat.zero_le _, rfl, fun j h => absurd h (by omega), Below.refl _ _⟩
    case round =>
      obtain ⟨k, hk, rfl, hall, hb⟩ := hrel
      have HA := Lib.hid hall
      clear hall
      by_cases hlt : k < xs.length
      · have hlt2 : k < ys.length := by have := HL.out; omega
        obtain ⟨b, off, rfl, hbs, d0⟩ := (hr.below hb).int hlt
        obtain ⟨b', off', rfl, hbs', g0⟩ := (hr'.below hb).int hlt2
        by_cases he : xs[k] = ys[k]
        · have he' : (xs[k] != ys[k]) = false := by rw [he]; simp
          have HN := Lib.hid (show ∀ (j : Nat) (h : j < k + 1) (h1 : j < xs.length) (h2 : j < ys.length), xs[j] = ys[j] from fun j h h1 h2 => by
            rcases Nat.lt_or_ge j k with h3 | h3
            · exact HA.out j h3 h1 h2
            · have : j = k := by omega
              subst this; exact he)
          clear he
          go_wp2_with fail
          go_quiet (fail)
          go_wp2_with fail
          go_roundw
          case rel => exact ⟨k + 1, by omega, by go_num, HN.out, below_drewN hb _⟩
          case measure => simp [intOf]; omega
        · have he' : (xs[k] != ys[k]) = true := by simpa using he
          have HV := Lib.hid (show decide (xs = ys) = false from decide_eq_false (fun e => he (by subst e; rfl)))
          clear he
          go_wp2_with fail
          go_quiet (fail)
          go_wp2_with fail
          go_returns
          exact ⟨ret_bool HV.out.symm, below_drewN hb _⟩
      · have HV := Lib.hid (show decide (xs = ys) = true from decide_eq_true (List.ext_getElem HL.out fun j h1 h2 => HA.out j (by omega) h1 h2))
        go_wp2_with fail
        go_returns
        exact ⟨ret_bool HV.out.symm, hb⟩
  · have hl' : ((xs.length : Int) != (ys.length : Int)) = true := by simp; omega
    have HV := Lib.hid (show decide (xs = ys) = false from decide_eq_false (fun e => hl (by rw [e])))
    clear hl
    go_enter Tryd.func31, Tryd.ntmps31
    go_wp2_with fail
    go_returns
    exact ⟨ret_bool HV.out.symm, Below.refl _ _⟩
set_option maxRecDepth 100000 in
set_option maxHeartbeats 1000000 in
theorem l15Same_c (xs ys : List Int) (A A' : Option Addr) (c c' : Nat) (w : World) (hr : Rd encI 1 w.heap.size w A xs) (hr' : Rd encI 1 w.heap.size w A' ys) (hn : xs.length ≤ 2097152) (hn' : ys.length ≤ 9223372036854775807) :
    Calls Tryd.prog 38 #[.slice A xs.length c, .slice A' ys.length c'] w (Ret (.bool (decide (xs = ys))) w) := by
  by_cases hl : xs.length = ys.length
  · have hl' : ((xs.length : Int) != (ys.length : Int)) = false := by rw [hl]; simp
    have HL := Lib.hid hl
    clear hl
    go_enter Tryd.func38, Tryd.ntmps38
    go_wp2_with fail
    go_loopw [5] (fun i wr => ∃ k : Nat, k ≤ xs.length ∧ i = .int .i64 k ∧ (∀ (j : Nat) (h : j < k) (h1 : j < xs.length) (h2 : j < ys.length), xs[j] = ys[j]) ∧ Below w.heap.size w wr) (fun i _ => xs.length - (intOf i).toNat)
    case atStart => exact ⟨0, Nat.zero_le _, rfl, fun j h => absurd h (by omega), Below.refl _ _⟩
    case round =>
      obtain ⟨k, hk, rfl, hall, hb⟩ := hrel
      have HA := Lib.hid hall
      clear hall
      by_cases hlt : k < xs.length
      · have hlt2 : k < ys.length := by have := HL.out; omega
        obtain ⟨b, off, rfl, hbs, d0⟩ := (hr.below hb).int hlt
        obtain ⟨b', off', rfl, hbs', g0⟩ := (hr'.below hb).int hlt2
        by_cases he : xs[k] = ys[k]
        · have he' : (xs[k] != ys[k]) = false := by rw [he]; simp
          have HN := Lib.hid (show ∀ (j : Nat) (h : j < k + 1) (h1 : j < xs.length) (h2 : j < ys.length), xs[j] = ys[j] from fun j h h1 h2 => by
            rcases Nat.lt_or_ge j k with h3 | h3
            · exact HA.out j h3 h1 h2
            · have : j = k := by omega
              subst this; exact he)
          clear he
          go_wp2_with fail
          go_quiet (fail)
          go_wp2_with fail
          go_roundw
          case rel => exact ⟨k + 1, by omega, by go_num, HN.out, below_drewN hb _⟩
          case measure => simp [intOf]; omega
        · have he' : (xs[k] != ys[k]) = true := by simpa using he
          have HV := Lib.hid (show decide (xs = ys) = false from decide_eq_false (fun e => he (by subst e; rfl)))
          clear he
          go_wp2_with fail
          go_quiet (fail)
          go_wp2_with fail
          go_returns
          exact ⟨ret_bool HV.out.symm, below_drewN hb _⟩
      · have HV := Lib.hid (show decide (xs = ys) = true from decide_eq_true (List.ext_getElem HL.out fun j h1 h2 => HA.out j (by omega) h1 h2))
        go_wp2_with fail
        go_returns
        exact ⟨ret_bool HV.out.symm, hb⟩
  · have hl' : ((xs.length : Int) != (ys.length : Int)) = true := by simp; omega
    have HV := Lib.hid (show decide (xs = ys) = false from decide_eq_false (fun e => hl (by rw [e])))
    clear hl
    go_enter Tryd.func38, Tryd.ntmps38
    go_wp2_with fail
    go_returns
    exact ⟨ret_bool HV.out.symm, Below.refl _ _⟩
end Go.Proofs.YtgjehnjpbekoeaaDoor
