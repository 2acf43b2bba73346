/- Circles: the reference's functions and the program's. No condition but the sizes. -/
import Derived.Test.YtbjgldfifbhjjaaWiGood
import Derived.Test.YtbjgldfifbhjjaaScal
namespace Go.Proofs.Ytbjgldfifbhjjaa
set_option linter.unusedVariables false
set_option linter.unusedSimpArgs false
open Go.RowKit
attribute [local irreducible] wpQuiet
def gainP (a b : Int) (x : Wish) : Bool := decide (x.giver = a) && decide (x.taker = b)
def gainW (xs : List Wish) (a b : Int) : Int := match xs.find? (gainP a b) with | some x => x.gain | none => 0
theorem find_hit {α : Type} (p : α → Bool) (xs : List α) (k : Nat) (hk : k < xs.length) (h0 : ∀ x ∈ xs.take k, p x = false) (h1 : p xs[k] = true) : xs.find? p = some xs[k] := by
  rw [List.find?_eq_some_iff_getElem]
  refine ⟨h1, k, hk, rfl, fun j hj => ?_⟩
  have := h0 xs[j] (List.mem_take_iff_getElem.2 ⟨j, by omega, rfl⟩)
  simp [this]
theorem take_no {α : Type} {p : α → Bool} {xs : List α} {k : Nat} (hk : k < xs.length) (h0 : ∀ x ∈ xs.take k, p x = false) (h1 : p xs[k] = false) : ∀ x ∈ xs.take (k + 1), p x = false := by
  rw [take_succ_get xs k hk]
  intro x hx
  rcases List.mem_append.1 hx with h | h
  · exact h0 x h
  · simp at h; subst h; exact h1
theorem gainW_rng {n : Int} {xs : List Wish} (hg : goodW n xs = true) (a b : Int) : gainW xs a b = 0 ∨ (1 ≤ gainW xs a b ∧ gainW xs a b ≤ 1000) := by
  unfold gainW
  cases h : xs.find? (gainP a b) with
  | none => exact .inl rfl
  | some x =>
    right
    have hm := List.mem_of_find?_eq_some h
    obtain ⟨i, hi, rfl⟩ := List.getElem_of_mem hm
    simp only [goodW, Bool.and_eq_true] at hg
    have := List.all_eq_true.1 hg.2 i (List.mem_range.2 hi)
    rw [okAtW_val hi, Bool.and_eq_true] at this
    have h2 := this.1
    simp only [Wish.ok, Bool.and_eq_true, inR_iff] at h2
    exact h2.2
set_option maxRecDepth 100000 in
set_option maxHeartbeats 1000000 in
theorem gainBetween_c (xs : List Wish) (A : Option Addr) (c : Nat) (p q : Int) (w : World) (hr : Rd encWish 3 w.heap.size w A xs) (hn : xs.length ≤ 1048576) :
    Calls Try.prog 111 #[.slice A xs.length c, .int .i64 p, .int .i64 q] w (Ret (.int .i64 (gainW xs p q)) w) := by
  go_enter Try.func111, Try.ntmps111
  go_wp2_with fail
  go_loopw [11] (fun i wr => ∃ k : Nat, k ≤ xs.length ∧ i = .int .i64 k ∧ (∀ x ∈ xs.take k, gainP p q x = false) ∧ Below w.heap.size w wr) (fun i _ => xs.length - (intOf i).toNat)
  case atStart => exact ⟨0, Nat.zero_le _, rfl, by simp, Below.refl _ _⟩
  case round =>
    obtain ⟨k, hk, rfl, hall, hb⟩ := hrel
    have HA := Lib.hid hall
    clear hall
    by_cases hlt : k < xs.length
    · obtain ⟨b, off, rfl, hbs, d0, d1, d2⟩ := (hr.below hb).atWish hlt
      by_cases ho : xs[k].giver = p
      · have h3 : (xs[k].giver == p) = true := by simpa using ho
        by_cases hz : xs[k].taker = q
        · have HV := Lib.hid (show gainW xs p q = xs[k].gain by unfold gainW; rw [find_hit _ xs k hlt HA.out (by simp [gainP, ho, hz])])
          have hz' : (xs[k].taker == q) = true := by simpa using hz
          clear ho hz
          go_wp2_with fail
          go_returns
          exact ⟨ret_int HV.out.symm, hb.trans ((Below.refl _ _).alloc hb.size _)⟩
        · have HV := Lib.hid (take_no hlt HA.out (show gainP p q xs[k] = false by simp [gainP, hz]))
          have hz' : (xs[k].taker == q) = false := by simpa using hz
          clear ho hz
          go_wp2_with fail
          go_roundw
          case rel => exact ⟨k + 1, by omega, by go_num, HV.out, hb.trans ((Below.refl _ _).alloc hb.size _)⟩
          case measure => simp [intOf]; omega
      · have h3 : (xs[k].giver == p) = false := by simpa using ho
        have HV := Lib.hid (take_no hlt HA.out (show gainP p q xs[k] = false by simp [gainP, ho]))
        clear ho
        go_wp2_with fail
        go_roundw
        case rel => exact ⟨k + 1, by omega, by go_num, HV.out, hb.trans ((Below.refl _ _).alloc hb.size _)⟩
        case measure => simp [intOf]; omega
    · have hke : xs.length ≤ k := by omega
      have HV := Lib.hid (show gainW xs p q = 0 by
        unfold gainW
        have := HA.out
        rw [List.take_of_length_le hke] at this
        rw [List.find?_eq_none.2 (fun x hx => by rw [this x hx]; exact Bool.false_ne_true)])
      go_wp2_with fail
      go_returns
      exact ⟨ret_int HV.out.symm, hb⟩
set_option maxRecDepth 100000 in
set_option maxHeartbeats 1000000 in
theorem l20Gain_c (xs : List Wish) (A : Option Addr) (c : Nat) (p q : Int) (w : World) (hr : Rd encWish 3 w.heap.size w A xs) (hn : xs.length ≤ 1048576) :
    Calls Try.prog 109 #[.slice A xs.length c, .int .i64 p, .int .i64 q] w (Ret (.int .i64 (gainW xs p q)) w) := by
  go_enter Try.func109, Try.ntmps109
  go_wp2_with fail
  go_loopw [7] (fun i wr => ∃ k : Nat, k ≤ xs.length ∧ i = .int .i64 k ∧ (∀ x ∈ xs.take k, gainP p q x = false) ∧ Below w.heap.size w wr) (fun i _ => xs.length - (intOf i).toNat)
  case atStart => exact ⟨0, Nat.zero_le _, rfl, by simp, Below.refl _ _⟩
  case round =>
    obtain ⟨k, hk, rfl, hall, hb⟩ := hrel
    have HA := Lib.hid hall
    clear hall
    by_cases hlt : k < xs.length
    · obtain ⟨b, off, rfl, hbs, d0, d1, d2⟩ := (hr.below hb).atWish hlt
      by_cases ho : xs[k].giver = p
      · have h3 : (xs[k].giver == p) = true := by simpa using ho
        by_cases hz : xs[k].taker = q
        · have HV := Lib.hid (show gainW xs p q = xs[k].gain by unfold gainW; rw [find_hit _ xs k hlt HA.out (by simp [gainP, ho, hz])])
          have hz' : (xs[k].taker == q) = true := by simpa using hz
          clear ho hz
          go_wp2_with fail
          go_returns
          exact ⟨ret_int HV.out.symm, hb⟩
        · have HV := Lib.hid (take_no hlt HA.out (show gainP p q xs[k] = false by simp [gainP, hz]))
          have hz' : (xs[k].taker == q) = false := by simpa using hz
          clear ho hz
          go_wp2_with fail
          go_roundw
          case rel => exact ⟨k + 1, by omega, by go_num, HV.out, hb⟩
          case measure => simp [intOf]; omega
      · have h3 : (xs[k].giver == p) = false := by simpa using ho
        have HV := Lib.hid (take_no hlt HA.out (show gainP p q xs[k] = false by simp [gainP, ho]))
        clear ho
        go_wp2_with fail
        go_roundw
        case rel => exact ⟨k + 1, by omega, by go_num, HV.out, hb⟩
        case measure => simp [intOf]; omega
    · have hke : xs.length ≤ k := by omega
      have HV := Lib.hid (show gainW xs p q = 0 by
        unfold gainW
        have := HA.out
        rw [List.take_of_length_le hke] at this
        rw [List.find?_eq_none.2 (fun x hx => by rw [this x hx]; exact Bool.false_ne_true)])
      go_wp2_with fail
      go_returns
      exact ⟨ret_int HV.out.symm, hb⟩
set_option maxHeartbeats 1000000 in
theorem indexI_c (ys : List Int) (A : Option Addr) (c : Nat) (v : Int) (w : World) (hr : Rd encI 1 w.heap.size w A ys) (hn : ys.length ≤ 2097152) :
    Calls Try.prog 118 #[.slice A ys.length c, .int .i64 v] w fun e w' => e = .returned (.int .i64 (idxI (fun y => decide (y = v)) ys)) ∧ ∃ m, w' = w.drewN m := by
  go_enter Try.func118, Try.ntmps118
  go_wp2_with fail
  go_loopw [8] (fun i wr => ∃ k : Nat, k ≤ ys.length ∧ i = .int .i64 k ∧ (∀ y ∈ ys.take k, decide (y = v) = false) ∧ ∃ m, wr = w.drewN m) (fun i _ => ys.length - (intOf i).toNat)
  case atStart => exact ⟨0, Nat.zero_le _, rfl, by simp, 0, rfl⟩
  case round =>
    obtain ⟨k, hk, rfl, hall, m, rfl⟩ := hrel
    have HA := Lib.hid hall
    clear hall
    by_cases hlt : k < ys.length
    · obtain ⟨b, off, rfl, hbs, d0⟩ := hr.int hlt
      by_cases h0 : v = ys[k]
      · have h0' : (v == ys[k]) = true := by simpa using h0
        have HV := Lib.hid (idxI_hit (fun y => decide (y = v)) ys k hlt HA.out (by simpa using h0.symm))
        clear h0
        go_wp2_with fail
        all_goals first | go_quiet (fail) | skip
        all_goals go_wp2_with fail
        go_returns
        exact ⟨ret_int HV.out.symm, _, rfl⟩
      · have h0' : (v == ys[k]) = false := by simpa using h0
        have HV := Lib.hid (take_no (p := fun y => decide (y = v)) hlt HA.out (by simpa using fun e => h0 e.symm))
        clear h0
        go_wp2_with fail
        all_goals first | go_quiet (fail) | skip
        all_goals go_wp2_with fail
        go_roundw
        case rel => exact ⟨k + 1, by omega, by go_num, HV.out, _, rfl⟩
        case measure => simp [intOf]; omega
    · have HV := Lib.hid (idxI_miss (fun y => decide (y = v)) ys (by have := HA.out; rwa [List.take_of_length_le (by omega)] at this))
      go_wp2_with fail
      go_returns
      exact ⟨ret_int HV.out.symm, _, rfl⟩
theorem containsI_c (ys : List Int) (A : Option Addr) (c : Nat) (v : Int) (w : World) (hr : Rd encI 1 w.heap.size w A ys) (hn : ys.length ≤ 2097152) :
    Calls Try.prog 116 #[.slice A ys.length c, .int .i64 v] w (Ret (.bool (ys.any fun y => decide (y = v))) w) := by
  go_enter Try.func116, Try.ntmps116
  go_wp2_with fail
  refine (indexI_c ys _ _ _ _ hr hn).mono ?_
  rintro e w1 ⟨rfl, m, rfl⟩
  go_wp2_with fail
  go_returns
  exact ⟨ret_bool (idxI_any _ ys), below_drewN (Below.refl _ _) _⟩
end Go.Proofs.Ytbjgldfifbhjjaa
