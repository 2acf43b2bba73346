/- When a list are wishes: the reference's loop and the program's. No condition but the sizes. -/
import Derived.Test.YtbjgldfifbhjjaaCvWish
import Derived.Test.YtbjgldfifbhjjaaCmp
import Derived.Test.YtbjgldfifbhjjaaNum
import Derived.Test.YtbjgldfifbhjjaaOver
import Derived.IntWalk
import Derived.Deep.RegionHeld3
import Derived.Deep.DeepCutAuto
namespace Go.Proofs.Ytbjgldfifbhjjaa
set_option linter.unusedVariables false
set_option linter.unusedSimpArgs false
open Go.RowKit
attribute [local irreducible] wpQuiet
/-- A struct that the call has just laid into a new block. -/
structure New (w W : World) (vs : List Value) : Prop where
  below : Below w.heap.size w W
  lt : w.heap.size < W.heap.size
  cell : ∀ (j : Nat) (v : Value), vs[j]? = some v → W.cell? ⟨w.heap.size, j, none⟩ = some v
theorem New.of (w : World) (vs : List Value) (t : TypeId) : New w (w.alloc (.cells vs.toArray t)) vs :=
  ⟨(Below.refl _ _).alloc (Nat.le_refl _) _, by simp, fun j v hv => by rw [World.cell?_alloc_new]; simpa using hv⟩
theorem range_next {p : Nat → Bool} {k : Nat} (h : (List.range k).all p = true) (hk : p k = true) : (List.range (k + 1)).all p = true := by
  rw [List.range_succ, List.all_append, h]; simp [hk]
theorem keep4w {W1 W2 : World} {p0 p1 p2 p3 : Addr} {a0 a1 a2 a3 : Value} (hb : Below W1.heap.size W1 W2) (h : W1.cell? p0 = some a0 ∧ W1.cell? p1 = some a1 ∧ W1.cell? p2 = some a2 ∧ W1.cell? p3 = some a3) : W2.cell? p0 = some a0 ∧ W2.cell? p1 = some a1 ∧ W2.cell? p2 = some a2 ∧ W2.cell? p3 = some a3 := by
  have lt : ∀ {a : Addr} {v : Value}, W1.cell? a = some v → W2.cell? a = some v := fun {a v} h => by rw [hb.cell (cell_lt h), h]
  exact ⟨lt h.1, lt h.2.1, lt h.2.2.1, lt h.2.2.2⟩
theorem new2 (w : World) (u v : Value) (t : TypeId) : (w.alloc (.cells #[u, v] t)).drew.cell? ⟨w.heap.size, 0, none⟩ = some u ∧ (w.alloc (.cells #[u, v] t)).drew.cell? ⟨w.heap.size, 1, none⟩ = some v := by
  constructor
  · simp only [World.cell?_drew]; exact World.cell?_alloc_new _ _ _ _
  · simp only [World.cell?_drew]; exact World.cell?_alloc_new _ _ _ _
def perB (n v : Int) : Bool := decide (0 ≤ v) && decide (v < n)
theorem perB_eq (n v : Int) : perB n v = inR v 0 (n - 1) := by unfold perB inR; congr 1; simp; omega
def Wish.ok (n : Int) (x : Wish) : Bool := inR x.giver 0 (n - 1) && inR x.taker 0 (n - 1) && decide (x.giver ≠ x.taker) && inR x.gain 1 1000
def befW (a b : Wish) : Bool := decide (a.giver < b.giver ∨ (a.giver = b.giver ∧ a.taker < b.taker))
def prevW (xs : List Wish) (k : Nat) : Bool := decide (k = 0) || match xs[k - 1]?, xs[k]? with | some y, some x => befW y x | _, _ => false
def okAtW (n : Int) (xs : List Wish) (k : Nat) : Bool := match xs[k]? with | none => true | some x => x.ok n && prevW xs k
def goodW (n : Int) (xs : List Wish) : Bool := inR n 1 8 && decide (xs.length ≤ 30) && (List.range xs.length).all (okAtW n xs)
theorem okAtW_val {n : Int} {xs : List Wish} {k : Nat} (h : k < xs.length) : okAtW n xs k = (Wish.ok n xs[k] && prevW xs k) := by simp [okAtW, h]
theorem prevW_s {xs : List Wish} {j : Nat} (hj : j < xs.length) {hk : j + 1 < xs.length} : (true && prevW xs (j + 1)) = befW xs[j] xs[j + 1] := by simp [prevW, hj, hk]
theorem goodW_no {n : Int} {xs : List Wish} {k : Nat} (h : k < xs.length) (ho : okAtW n xs k = false) : goodW n xs = false := by
  have : (List.range xs.length).all (okAtW n xs) = false := List.all_eq_false.2 ⟨k, List.mem_range.2 h, by simp [ho]⟩
  simp [goodW, this]
theorem okW_of {n : Int} {xs : List Wish} {k j : Nat} (h : (List.range k).all (okAtW n xs) = true) (hj : j < k) (hl : j < xs.length) : Wish.ok n xs[j] = true := by
  have := List.all_eq_true.1 h j (List.mem_range.2 hj)
  rw [okAtW_val hl, Bool.and_eq_true] at this
  exact this.1
theorem okW_rng {n : Int} {x : Wish} (h : Wish.ok n x = true) : (0 ≤ x.giver ∧ x.giver ≤ n - 1) ∧ (0 ≤ x.taker ∧ x.taker ≤ n - 1) := by
  simp only [Wish.ok, Bool.and_eq_true, inR_iff] at h
  exact ⟨h.1.1.1, h.1.1.2⟩
theorem befW_or (a b : Wish) : befW a b = decide (orI [cmpI a.giver b.giver, cmpI a.taker b.taker] < 0) := by
  unfold befW
  rw [Bool.eq_iff_iff, decide_eq_true_eq, decide_eq_true_eq]
  simp only [orI, cmpI]
  by_cases h1 : a.giver < b.giver
  · simp [h1]
  · by_cases h2 : b.giver < a.giver
    · simp [h1, h2]; omega
    · by_cases h3 : a.taker < b.taker
      · simp [h1, h2, h3]; omega
      · by_cases h4 : b.taker < a.taker
        · simp [h1, h2, h3, h4]
        · simp [h1, h2, h3, h4]
theorem befW_key {n : Int} {a b : Wish} (h1 : 0 ≤ a.giver ∧ a.giver ≤ n - 1) (h2 : 0 ≤ a.taker ∧ a.taker ≤ n - 1) (h3 : 0 ≤ b.giver ∧ b.giver ≤ n - 1) (h4 : 0 ≤ b.taker ∧ b.taker ≤ n - 1) (hn : n ≤ 8) : befW a b = decide (10 * a.giver + a.taker < 10 * b.giver + b.taker) := by
  unfold befW
  rw [Bool.eq_iff_iff, decide_eq_true_eq, decide_eq_true_eq]
  omega
theorem l20Person_c (n v : Int) (w : World) : Calls Try.prog 107 #[.int .i64 n, .int .i64 v] w (Pure (.bool (perB n v)) w) := by
  by_cases h : 0 ≤ v
  all_goals
    go_enter Try.func107, Try.ntmps107
    go_wp2
    go_ret
    exact ⟨ret_bool (by simp [perB]; try omega), rfl⟩
set_option maxRecDepth 100000 in
set_option maxHeartbeats 8000000 in
theorem l20Good_c (n : Int) (xs : List Wish) (A : Option Addr) (c : Nat) (w : World) (hr : Rd encWish 3 w.heap.size w A xs) (hn : xs.length ≤ 1048576) (hz : -9223372036854775808 ≤ n ∧ n ≤ 9223372036854775807) :
    Calls Try.prog 89 #[.int .i64 n, .slice A xs.length c] w (Ret (.bool (goodW n xs)) w) := by
  by_cases hn8 : inR n 1 8 = false
  · have HV := Lib.hid (show goodW n xs = false by simp [goodW, hn8])
    go_enter Try.func89, Try.ntmps89
    go_wp2_with (first | (go_at_call 99; refine (l1In_c _ _ _ _).mono ?_; rintro e w' ⟨rfl, rfl⟩) | (go_at_call 107; refine (l20Person_c _ _ _).mono ?_; rintro e w' ⟨rfl, rfl⟩))
    go_returns
    exact ⟨ret_bool HV.out.symm, Below.refl _ _⟩
  have hn1 : inR n 1 8 = true := by simpa using hn8
  clear hn8
  by_cases h30 : (30 : Int) < xs.length
  · have HV := Lib.hid (show goodW n xs = false by simp [goodW]; intro _ h; omega)
    go_enter Try.func89, Try.ntmps89
    go_wp2_with (first | (go_at_call 99; refine (l1In_c _ _ _ _).mono ?_; rintro e w' ⟨rfl, rfl⟩) | (go_at_call 107; refine (l20Person_c _ _ _).mono ?_; rintro e w' ⟨rfl, rfl⟩))
    go_returns
    exact ⟨ret_bool HV.out.symm, Below.refl _ _⟩
  have hnr := inR_iff.1 hn1
  go_enter Try.func89, Try.ntmps89
  go_wp2_with (first | (go_at_call 99; refine (l1In_c _ _ _ _).mono ?_; rintro e w' ⟨rfl, rfl⟩) | (go_at_call 107; refine (l20Person_c _ _ _).mono ?_; rintro e w' ⟨rfl, rfl⟩))
  clear hz
  go_loopw [5] (fun i wr => ∃ k : Nat, k ≤ xs.length ∧ i = .int .i64 k ∧ (List.range k).all (okAtW n xs) = true ∧ Below w.heap.size w wr) (fun i _ => xs.length - (intOf i).toNat)
  case atStart => exact ⟨0, Nat.zero_le _, rfl, rfl, Below.refl _ _⟩
  case round =>
    obtain ⟨k, hk, rfl, hall, hb⟩ := hrel
    have HA := Lib.hid hall
    clear hall
    by_cases hlt : k < xs.length
    · obtain ⟨b, off, rfl, hbs, d0, d1, d2⟩ := (hr.below hb).atWish hlt
      have HN := Lib.hid (fun h => goodW_no (n := n) hlt h)
      have HO := Lib.hid (okAtW_val (n := n) hlt)
      go_upto_region 7 with fail
      clear d0 d1 d2
      have hW := New.of wr (encWish xs[k]) 99
      unfold encWish at hW
      generalize wr.alloc (.cells #[.int .i64 xs[k].giver, .int .i64 xs[k].taker, .int .i64 xs[k].gain] 99) = W at *
      obtain ⟨hWb, hWl, hWc⟩ := hW
      have e0 := hWc 0 _ rfl
      have e1 := hWc 1 _ rfl
      have e2 := hWc 2 _ rfl
      clear hWc
      have hbW := hb.trans (hWb.mono hb.size)
      obtain ⟨hp, hhp⟩ : ∃ hp, wr.heap.size = hp := ⟨_, rfl⟩
      rw [hhp] at hWl e0 e1 e2 ⊢
      clear hhp hWb hb
      obtain ⟨b', off', hA, hbs', d0, d1, d2⟩ := (hr.below hbW).atWish hlt
      injection hA with hA; injection hA with hA1 hA2
      subst hA1 hA2
      clear hbs'
      have hbw : b < W.heap.size := Nat.lt_of_lt_of_le hbs hbW.size
      have hov := over_cell W
      by_cases t1 : perB n xs[k].giver = true
      · by_cases t2 : perB n xs[k].taker = true
        · by_cases t3 : xs[k].giver = xs[k].taker
          · have t3' : (xs[k].giver == xs[k].taker) = true := by simpa using t3
            have HK := Lib.hid (show okAtW n xs k = false by rw [HO.out]; rw [show Wish.ok n xs[k] = false by unfold Wish.ok; rw [decide_eq_false (by simpa using t3)]; simp only [Bool.false_and, Bool.and_false]]; rfl)
            clear t3
            go_wp2_with (first | (go_at_call 99; refine (l1In_c _ _ _ _).mono ?_; rintro e w' ⟨rfl, rfl⟩) | (go_at_call 107; refine (l20Person_c _ _ _).mono ?_; rintro e w' ⟨rfl, rfl⟩))
            go_returns
            exact ⟨ret_bool (HN.out HK.out).symm, hbW⟩
          · have t3' : (xs[k].giver == xs[k].taker) = false := by simpa using t3
            by_cases t4 : inR xs[k].gain 1 1000 = true
            · have HOK := Lib.hid (show Wish.ok n xs[k] = true by unfold Wish.ok; rw [← perB_eq, ← perB_eq, t1, t2, t4, decide_eq_true (by simpa using t3)]; rfl)
              clear t3
              have hg := inR_iff.1 (show inR xs[k].giver 0 (n - 1) = true by rw [← perB_eq]; exact t1)
              have ht := inR_iff.1 (show inR xs[k].taker 0 (n - 1) = true by rw [← perB_eq]; exact t2)
              go_wp2_with (first | (go_at_call 99; refine (l1In_c _ _ _ _).mono ?_; rintro e w' ⟨rfl, rfl⟩) | (go_at_call 107; refine (l20Person_c _ _ _).mono ?_; rintro e w' ⟨rfl, rfl⟩))
              by_cases hk0 : k = 0
              · have hkz : decide (0 < (k : Int)) = false := decide_eq_false (by omega)
                have hkz1 : decide (0 < k) = false := decide_eq_false (by omega)
                have HK := Lib.hid (show okAtW n xs k = true by rw [HO.out, HOK.out]; subst hk0; rfl)
                clear hk0
                refine wp_region_over (by kernel_rfl) (by kernel_rfl) ?_
                repeat (go_big_quiet_step (fail))
                refine wpQuiet_nil ?_
                intro _ hwx1
                obtain ⟨x1, hwx1⟩ := hwx1
                subst hwx1
                go_wp2_with fail
                go_roundw
                case rel => exact ⟨k + 1, by omega, by go_num, range_next HA.out HK.out, below_via hbW (over_below W x1)⟩
                case measure => simp [intOf]; omega
              · obtain ⟨j, hj⟩ : ∃ j, k = j + 1 := ⟨k - 1, by omega⟩
                have hj' : j < xs.length := by omega
                have HPO := Lib.hid (okW_of (by have := HA.out; exact this) (show j < k by omega) hj')
                have hok2 := HPO.out
                obtain ⟨hg2, ht2⟩ := okW_rng hok2
                clear hok2
                obtain ⟨b', off', hA, hbs', g0, g1, g2⟩ := (hr.below hbW).atWish hj'
                injection hA with hA; injection hA with hA1 hA2
                subst hA1 hA2
                clear hbs'
                have hkz : decide (0 < (k : Int)) = true := decide_eq_true (by omega)
                have hkz1 : decide (0 < k) = true := decide_eq_true (by omega)
                have hkz2 : 0 < k := by omega
                have hsub : IntKind.i64.wrap ((k : Int) - 1) = (j : Int) := by
                  rw [IntWalk.i64_in _ (by omega)]; omega
                have hj0 : (0 : Int) ≤ j := by omega
                have hj1 : (j : Int) ≤ xs.length := by omega
                have hj2 : (j : Int) < xs.length := by omega
                have HP := Lib.hid (show okAtW n xs k = befW xs[j] xs[k] by rw [HO.out, HOK.out]; subst hj; exact prevW_s hj')
                clear hk0 hj
                have HQ := Lib.hid (befW_key hg2 ht2 hg ht (by omega))
                by_cases hq : 10 * xs[k].giver + xs[k].taker ≤ 10 * xs[j].giver + xs[j].taker
                · have hq' : decide (10 * xs[k].giver + xs[k].taker ≤ 10 * xs[j].giver + xs[j].taker) = true := decide_eq_true hq
                  have HK := Lib.hid (show okAtW n xs k = false by rw [HP.out, HQ.out]; exact decide_eq_false (by omega))
                  refine wp_region_over (by kernel_rfl) (by kernel_rfl) ?_
                  repeat (go_big_quiet_step (fail))
                  refine wpQuiet_nil ?_
                  intro _ hwx1
                  obtain ⟨x1, hwx1⟩ := hwx1
                  subst hwx1
                  go_wp2_with fail
                  go_returns
                  exact ⟨ret_bool (HN.out HK.out).symm, below_via hbW (over_below W x1)⟩
                · have hq' : decide (10 * xs[k].giver + xs[k].taker ≤ 10 * xs[j].giver + xs[j].taker) = false := decide_eq_false hq
                  have HK := Lib.hid (show okAtW n xs k = true by rw [HP.out, HQ.out]; exact decide_eq_true (by omega))
                  refine wp_region_over (by kernel_rfl) (by kernel_rfl) ?_
                  repeat (go_big_quiet_step (fail))
                  refine wpQuiet_nil ?_
                  intro _ hwx1
                  obtain ⟨x1, hwx1⟩ := hwx1
                  subst hwx1
                  go_wp2_with fail
                  go_roundw
                  case rel => exact ⟨k + 1, by omega, by go_num, range_next HA.out HK.out, below_via hbW (over_below W x1)⟩
                  case measure => simp [intOf]; omega
            · have t4' : inR xs[k].gain 1 1000 = false := by simpa only [Bool.not_eq_true] using t4
              have HK := Lib.hid (show okAtW n xs k = false by rw [HO.out]; rw [show Wish.ok n xs[k] = false by unfold Wish.ok; rw [t4']; simp only [Bool.false_and, Bool.and_false]]; rfl)
              clear t4 t3
              go_wp2_with (first | (go_at_call 99; refine (l1In_c _ _ _ _).mono ?_; rintro e w' ⟨rfl, rfl⟩) | (go_at_call 107; refine (l20Person_c _ _ _).mono ?_; rintro e w' ⟨rfl, rfl⟩))
              go_returns
              exact ⟨ret_bool (HN.out HK.out).symm, hbW⟩
        · have t2' : perB n xs[k].taker = false := by simpa only [Bool.not_eq_true] using t2
          have HK := Lib.hid (show okAtW n xs k = false by rw [HO.out]; rw [show Wish.ok n xs[k] = false by unfold Wish.ok; rw [show inR xs[k].taker 0 (n - 1) = false by rw [← perB_eq]; exact t2']; simp only [Bool.false_and, Bool.and_false]]; rfl)
          clear t2
          go_wp2_with (first | (go_at_call 99; refine (l1In_c _ _ _ _).mono ?_; rintro e w' ⟨rfl, rfl⟩) | (go_at_call 107; refine (l20Person_c _ _ _).mono ?_; rintro e w' ⟨rfl, rfl⟩))
          go_returns
          exact ⟨ret_bool (HN.out HK.out).symm, hbW⟩
      · have t1' : perB n xs[k].giver = false := by simpa only [Bool.not_eq_true] using t1
        have HK := Lib.hid (show okAtW n xs k = false by rw [HO.out]; rw [show Wish.ok n xs[k] = false by unfold Wish.ok; rw [show inR xs[k].giver 0 (n - 1) = false by rw [← perB_eq]; exact t1']; simp only [Bool.false_and, Bool.and_false]]; rfl)
        clear t1
        go_wp2_with (first | (go_at_call 99; refine (l1In_c _ _ _ _).mono ?_; rintro e w' ⟨rfl, rfl⟩) | (go_at_call 107; refine (l20Person_c _ _ _).mono ?_; rintro e w' ⟨rfl, rfl⟩))
        go_returns
        exact ⟨ret_bool (HN.out HK.out).symm, hbW⟩
    · have hke : k = xs.length := by omega
      have HV := Lib.hid (show goodW n xs = true by have h := HA.out; rw [hke] at h; unfold goodW; rw [h, hn1, decide_eq_true (show xs.length ≤ 30 by omega)]; rfl)
      clear hke
      go_wp2_with fail
      go_returns
      exact ⟨ret_bool HV.out.symm, hb⟩
set_option maxRecDepth 100000 in
set_option maxHeartbeats 8000000 in
theorem areWishes_c (n : Int) (xs : List Wish) (A : Option Addr) (c : Nat) (w : World) (hr : Rd encWish 3 w.heap.size w A xs) (hn : xs.length ≤ 1048576) (hz : -9223372036854775808 ≤ n ∧ n ≤ 9223372036854775807) :
    Calls Try.prog 91 #[.int .i64 n, .slice A xs.length c] w (Ret (.bool (goodW n xs)) w) := by
  by_cases hn8 : inR n 1 8 = false
  · have HV := Lib.hid (show goodW n xs = false by simp [goodW, hn8])
    go_enter Try.func91, Try.ntmps91
    go_wp2_with (first | (go_at_call 96; refine (inRange_c _ _ _ _).mono ?_; rintro e w' ⟨rfl, rfl⟩))
    go_returns
    exact ⟨ret_bool HV.out.symm, Below.refl _ _⟩
  have hn1 : inR n 1 8 = true := by simpa using hn8
  clear hn8
  by_cases h30 : (30 : Int) < xs.length
  · have HV := Lib.hid (show goodW n xs = false by simp [goodW]; intro _ h; omega)
    go_enter Try.func91, Try.ntmps91
    go_wp2_with (first | (go_at_call 96; refine (inRange_c _ _ _ _).mono ?_; rintro e w' ⟨rfl, rfl⟩))
    go_returns
    exact ⟨ret_bool HV.out.symm, Below.refl _ _⟩
  have hnr := inR_iff.1 hn1
  go_enter Try.func91, Try.ntmps91
  go_wp2_with (first | (go_at_call 96; refine (inRange_c _ _ _ _).mono ?_; rintro e w' ⟨rfl, rfl⟩))
  clear hz
  go_loopw [17] (fun i wr => ∃ k : Nat, k ≤ xs.length ∧ i = .int .i64 k ∧ (List.range k).all (okAtW n xs) = true ∧ Below w.heap.size w wr) (fun i _ => xs.length - (intOf i).toNat)
  case atStart => exact ⟨0, Nat.zero_le _, rfl, rfl, Below.refl _ _⟩
  case round =>
    obtain ⟨k, hk, rfl, hall, hb⟩ := hrel
    have HA := Lib.hid hall
    clear hall
    by_cases hlt : k < xs.length
    · obtain ⟨b, off, rfl, hbs, d0, d1, d2⟩ := (hr.below hb).atWish hlt
      have HN := Lib.hid (fun h => goodW_no (n := n) hlt h)
      have HO := Lib.hid (okAtW_val (n := n) hlt)
      go_upto_region 6 with fail
      clear d0 d1 d2
      have hW := New.of wr (encWish xs[k]) 99
      unfold encWish at hW
      generalize wr.alloc (.cells #[.int .i64 xs[k].giver, .int .i64 xs[k].taker, .int .i64 xs[k].gain] 99) = W at *
      obtain ⟨hWb, hWl, hWc⟩ := hW
      have e0 := hWc 0 _ rfl
      have e1 := hWc 1 _ rfl
      have e2 := hWc 2 _ rfl
      clear hWc
      have hbW := hb.trans (hWb.mono hb.size)
      obtain ⟨hp, hhp⟩ : ∃ hp, wr.heap.size = hp := ⟨_, rfl⟩
      rw [hhp] at hWl e0 e1 e2 ⊢
      clear hhp hWb hb
      obtain ⟨b', off', hA, hbs', d0, d1, d2⟩ := (hr.below hbW).atWish hlt
      injection hA with hA; injection hA with hA1 hA2
      subst hA1 hA2
      clear hbs'
      have hbw : b < W.heap.size := Nat.lt_of_lt_of_le hbs hbW.size
      have hov := over_cell W
      by_cases t1 : inR xs[k].giver 0 (n - 1) = true
      · by_cases t2 : inR xs[k].taker 0 (n - 1) = true
        · by_cases t3 : xs[k].giver = xs[k].taker
          · have t3' : (xs[k].giver == xs[k].taker) = true := by simpa using t3
            have HK := Lib.hid (show okAtW n xs k = false by rw [HO.out]; rw [show Wish.ok n xs[k] = false by unfold Wish.ok; rw [decide_eq_false (by simpa using t3)]; simp only [Bool.false_and, Bool.and_false]]; rfl)
            clear t3
            go_wp2_with (first | (go_at_call 96; refine (inRange_c _ _ _ _).mono ?_; rintro e w' ⟨rfl, rfl⟩))
            go_returns
            exact ⟨ret_bool (HN.out HK.out).symm, hbW⟩
          · have t3' : (xs[k].giver == xs[k].taker) = false := by simpa using t3
            by_cases t4 : inR xs[k].gain 1 1000 = true
            · have HOK := Lib.hid (show Wish.ok n xs[k] = true by unfold Wish.ok; rw [t1, t2, t4, decide_eq_true (by simpa using t3)]; rfl)
              clear t3
              have hg := inR_iff.1 (show inR xs[k].giver 0 (n - 1) = true by exact t1)
              have ht := inR_iff.1 (show inR xs[k].taker 0 (n - 1) = true by exact t2)
              go_wp2_with (first | (go_at_call 96; refine (inRange_c _ _ _ _).mono ?_; rintro e w' ⟨rfl, rfl⟩))
              by_cases hk0 : k = 0
              · have hkz : decide (0 < (k : Int)) = false := decide_eq_false (by omega)
                have hkz1 : decide (0 < k) = false := decide_eq_false (by omega)
                have HK := Lib.hid (show okAtW n xs k = true by rw [HO.out, HOK.out]; subst hk0; rfl)
                clear hk0
                refine wp_region_over (by kernel_rfl) (by kernel_rfl) ?_
                repeat (go_big_quiet_step (fail))
                refine wpQuiet_nil ?_
                intro _ hwx1
                obtain ⟨x1, hwx1⟩ := hwx1
                subst hwx1
                go_wp2_with fail
                go_roundw
                case rel => exact ⟨k + 1, by omega, by go_num, range_next HA.out HK.out, below_via hbW (over_below W x1)⟩
                case measure => simp [intOf]; omega
              · obtain ⟨j, hj⟩ : ∃ j, k = j + 1 := ⟨k - 1, by omega⟩
                have hj' : j < xs.length := by omega
                have HPO := Lib.hid (okW_of (by have := HA.out; exact this) (show j < k by omega) hj')
                have hok2 := HPO.out
                obtain ⟨hg2, ht2⟩ := okW_rng hok2
                clear hok2
                obtain ⟨b', off', hA, hbs', g0, g1, g2⟩ := (hr.below hbW).atWish hj'
                injection hA with hA; injection hA with hA1 hA2
                subst hA1 hA2
                clear hbs'
                have hkz : decide (0 < (k : Int)) = true := decide_eq_true (by omega)
                have hkz1 : decide (0 < k) = true := decide_eq_true (by omega)
                have hkz2 : 0 < k := by omega
                have hsub : IntKind.i64.wrap ((k : Int) - 1) = (j : Int) := by
                  rw [IntWalk.i64_in _ (by omega)]; omega
                have hj0 : (0 : Int) ≤ j := by omega
                have hj1 : (j : Int) ≤ xs.length := by omega
                have hj2 : (j : Int) < xs.length := by omega
                have HP := Lib.hid (show okAtW n xs k = befW xs[j] xs[k] by rw [HO.out, HOK.out]; subst hj; exact prevW_s hj')
                clear hk0 hj
                have hS0 : W.drew.cell? ⟨b, off + j * 3, none⟩ = some (.int .i64 xs[j].giver) ∧ W.drew.cell? ⟨b, off + j * 3 + 1, none⟩ = some (.int .i64 xs[j].taker) ∧ W.drew.cell? ⟨hp, 0, none⟩ = some (.int .i64 xs[k].giver) ∧ W.drew.cell? ⟨hp, 1, none⟩ = some (.int .i64 xs[k].taker) := ⟨g0, g1, e0, e1⟩
                have HS := Lib.hid hS0
                clear hS0
                have HQ := Lib.hid (befW_or xs[j] xs[k])
                by_cases hq : 0 ≤ orI [cmpI xs[j].giver xs[k].giver, cmpI xs[j].taker xs[k].taker]
                · have HK := Lib.hid (show okAtW n xs k = false by rw [HP.out, HQ.out]; exact decide_eq_false (by omega))
                  go_region_held3 (fun V => V.cell? ⟨b, off + j * 3, none⟩ = some (.int .i64 xs[j].giver) ∧ V.cell? ⟨b, off + j * 3 + 1, none⟩ = some (.int .i64 xs[j].taker) ∧ V.cell? ⟨hp, 0, none⟩ = some (.int .i64 xs[k].giver) ∧ V.cell? ⟨hp, 1, none⟩ = some (.int .i64 xs[k].taker)) (first | exact HS.out | exact ⟨g0, g1, e0, e1⟩ | assumption | exact keep4w (W1 := W) ((Below.refl _ _).alloc (Nat.le_refl _) _) ⟨g0, g1, e0, e1⟩ | exact keep4w (W1 := W) ((Below.refl _ _).alloc (Nat.le_refl _) _).drew ⟨g0, g1, e0, e1⟩) (first | (go_at_call 101; refine (compare_c _ _ _).mono ?_; rintro e w2 ⟨rfl, rfl⟩) | (go_at_call 100; refine (or2_c _ _ _ _ _ (new2 _ _ _ _).1 (new2 _ _ _ _).2).mono ?_; rintro e w2 ⟨rfl, rfl⟩))
                  all_goals
                    go_wp2_with fail
                    go_returns
                    exact ⟨ret_bool (HN.out HK.out).symm, (by first | exact hbW.trans (Below.alloc (Below.refl _ _) hbW.size _) | exact (hbW.trans (Below.alloc (Below.refl _ _) hbW.size _)).drew)⟩
                · have HK := Lib.hid (show okAtW n xs k = true by rw [HP.out, HQ.out]; exact decide_eq_true (by omega))
                  go_region_held3 (fun V => V.cell? ⟨b, off + j * 3, none⟩ = some (.int .i64 xs[j].giver) ∧ V.cell? ⟨b, off + j * 3 + 1, none⟩ = some (.int .i64 xs[j].taker) ∧ V.cell? ⟨hp, 0, none⟩ = some (.int .i64 xs[k].giver) ∧ V.cell? ⟨hp, 1, none⟩ = some (.int .i64 xs[k].taker)) (first | exact HS.out | exact ⟨g0, g1, e0, e1⟩ | assumption | exact keep4w (W1 := W) ((Below.refl _ _).alloc (Nat.le_refl _) _) ⟨g0, g1, e0, e1⟩ | exact keep4w (W1 := W) ((Below.refl _ _).alloc (Nat.le_refl _) _).drew ⟨g0, g1, e0, e1⟩) (first | (go_at_call 101; refine (compare_c _ _ _).mono ?_; rintro e w2 ⟨rfl, rfl⟩) | (go_at_call 100; refine (or2_c _ _ _ _ _ (new2 _ _ _ _).1 (new2 _ _ _ _).2).mono ?_; rintro e w2 ⟨rfl, rfl⟩))
                  all_goals
                    go_wp2_with fail
                    go_roundw
                    case rel => exact ⟨k + 1, by omega, by go_num, range_next HA.out HK.out, (by first | exact hbW.trans (Below.alloc (Below.refl _ _) hbW.size _) | exact (hbW.trans (Below.alloc (Below.refl _ _) hbW.size _)).drew)⟩
                    case measure => simp [intOf]; omega
            · have t4' : inR xs[k].gain 1 1000 = false := by simpa only [Bool.not_eq_true] using t4
              have HK := Lib.hid (show okAtW n xs k = false by rw [HO.out]; rw [show Wish.ok n xs[k] = false by unfold Wish.ok; rw [t4']; simp only [Bool.false_and, Bool.and_false]]; rfl)
              clear t4 t3
              go_wp2_with (first | (go_at_call 96; refine (inRange_c _ _ _ _).mono ?_; rintro e w' ⟨rfl, rfl⟩))
              go_returns
              exact ⟨ret_bool (HN.out HK.out).symm, hbW⟩
        · have t2' : inR xs[k].taker 0 (n - 1) = false := by simpa only [Bool.not_eq_true] using t2
          have HK := Lib.hid (show okAtW n xs k = false by rw [HO.out]; rw [show Wish.ok n xs[k] = false by unfold Wish.ok; rw [show inR xs[k].taker 0 (n - 1) = false by exact t2']; simp only [Bool.false_and, Bool.and_false]]; rfl)
          clear t2
          go_wp2_with (first | (go_at_call 96; refine (inRange_c _ _ _ _).mono ?_; rintro e w' ⟨rfl, rfl⟩))
          go_returns
          exact ⟨ret_bool (HN.out HK.out).symm, hbW⟩
      · have t1' : inR xs[k].giver 0 (n - 1) = false := by simpa only [Bool.not_eq_true] using t1
        have HK := Lib.hid (show okAtW n xs k = false by rw [HO.out]; rw [show Wish.ok n xs[k] = false by unfold Wish.ok; rw [show inR xs[k].giver 0 (n - 1) = false by exact t1']; simp only [Bool.false_and, Bool.and_false]]; rfl)
        clear t1
        go_wp2_with (first | (go_at_call 96; refine (inRange_c _ _ _ _).mono ?_; rintro e w' ⟨rfl, rfl⟩))
        go_returns
        exact ⟨ret_bool (HN.out HK.out).symm, hbW⟩
    · have hke : k = xs.length := by omega
      have HV := Lib.hid (show goodW n xs = true by have h := HA.out; rw [hke] at h; unfold goodW; rw [h, hn1, decide_eq_true (show xs.length ≤ 30 by omega)]; rfl)
      clear hke
      go_wp2_with fail
      go_returns
      exact ⟨ret_bool HV.out.symm, hb⟩
end Go.Proofs.Ytbjgldfifbhjjaa
