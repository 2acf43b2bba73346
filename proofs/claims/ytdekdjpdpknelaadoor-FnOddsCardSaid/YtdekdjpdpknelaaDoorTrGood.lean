/- Contracts of the functions that ask whether a list are trials. No condition but the list's size. -/
import Derived.Test.YtdekdjpdpknelaaDoorCvTrial
import Derived.Test.YtdekdjpdpknelaaDoorTr
namespace Go.Proofs.YtdekdjpdpknelaaDoor
set_option linter.unusedVariables false
set_option linter.unusedSimpArgs false
open Go.RowKit
def Trial.ok (t : Trial) : Bool := isTr t.real t.fake t.price
def goodT (xs : List Trial) : Bool := xs.all Trial.ok && decide (xs.length ≤ 6)
set_option maxHeartbeats 400000 in
theorem l16Good_c (xs : List Trial) (A : Option Addr) (c : Nat) (w : World) (hr : Rd encTrial 3 w.heap.size w A xs) (hn : xs.length ≤ 1048576) :
    Calls Tryd.prog 29 #[.slice A xs.length c] w (Ret (.bool (goodT xs)) w) := by
  go_enter Tryd.func29, Tryd.ntmps29
  go_wp2_with fail
  go_loopw [3] (fun i wr => ∃ k : Nat, k ≤ xs.length ∧ i = .int .i64 k ∧ (xs.take k).all Trial.ok = true ∧ Below w.heap.size w wr) (fun i _ => xs.length - (intOf i).toNat)
  case atStart => exact ⟨0, Nat.zero_le _, rfl, rfl, Below.refl _ _⟩
  case round =>
    obtain ⟨k, hk, rfl, hall, hb⟩ := hrel
    have HA := Lib.hid hall
    clear hall
    by_cases hlt : k < xs.length
    · obtain ⟨b, off, rfl, hbs, d0, d1, d2⟩ := (hr.below hb).atTrial hlt
      go_wp2_with fail
      refine (l16One_c _ _ _ _).mono ?_
      rintro e w1 ⟨rfl, hb1⟩
      have hbl := hb.trans (hb1.mono hb.size)
      by_cases hok : isTr xs[k].real xs[k].fake xs[k].price = true
      · go_wp2_with fail
        go_roundw
        case rel => exact ⟨k + 1, by omega, by go_num, by rw [take_succ_get xs k hlt, List.all_append, HA.out]; simpa [Trial.ok] using hok, hbl⟩
        case measure => simp [intOf]; omega
      · have hok' : isTr xs[k].real xs[k].fake xs[k].price = false := by simpa using hok
        go_wp2_with fail
        go_returns
        exact ⟨ret_bool (by
          have : xs.all Trial.ok = false := List.all_eq_false.2 ⟨xs[k], List.getElem_mem hlt, by simpa [Trial.ok] using hok'⟩
          simp [goodT, this]), hbl⟩
    · have hke : xs.length ≤ k := by omega
      go_wp2_with fail
      go_returns
      exact ⟨ret_bool (by
        have h2 := HA.out
        rw [List.take_of_length_le hke] at h2
        simp [goodT, h2]; try omega), hb⟩
theorem areTrials1_c (t : Trial) (w : World) : Calls Tryd.prog 44 #[.agg #[.int .i64 t.real, .int .i64 t.fake, .int .i64 t.price]] w (Ret (.bool (!t.ok)) w) := by
  go_enter Tryd.func44, Tryd.ntmps44
  go_wp2_with fail
  refine (isTrial_c _ _ _ _).mono ?_
  rintro e w1 ⟨rfl, hb1⟩
  go_wp2_with fail
  go_returns
  exact ⟨rfl, below_via (by go_grown) hb1⟩
set_option maxHeartbeats 400000 in
theorem indexT_c (xs : List Trial) (A : Option Addr) (c : Nat) (w : World) (g : FuncId) (p : Trial → Bool) (hr : Rd encTrial 3 w.heap.size w A xs) (hn : xs.length ≤ 1048576) (hg : ∀ args W, (callFunc g args).run Tryd.prog W = .ok (.enter g args) W)
    (hp : ∀ (x : Trial) (W : World), Calls Tryd.prog g #[.agg #[.int .i64 x.real, .int .i64 x.fake, .int .i64 x.price]] W (Ret (.bool (p x)) W)) :
    Calls Tryd.prog 51 #[.slice A xs.length c, .func (.func g) #[] #[]] w (Ret (.int .i64 (idxI p xs)) w) := by
  have HP := Lib.hid hp
  clear hp
  go_enter Tryd.func51, Tryd.ntmps51
  go_wp2_with fail
  go_loopw [8] (fun i wr => ∃ k : Nat, k ≤ xs.length ∧ i = .int .i64 k ∧ (∀ x ∈ xs.take k, p x = false) ∧ Below w.heap.size w wr) (fun i _ => xs.length - (intOf i).toNat)
  case atStart => exact ⟨0, Nat.zero_le _, rfl, by simp, Below.refl _ _⟩
  case round =>
    obtain ⟨k, hk, rfl, hall, hb⟩ := hrel
    have HA := Lib.hid hall
    clear hall
    by_cases hlt : k < xs.length
    · obtain ⟨b, off, rfl, hbs, d0, d1, d2⟩ := (hr.below hb).atTrial hlt
      go_wp2_with fail
      refine (HP.out xs[k] _).mono ?_
      rintro e w1 ⟨rfl, hb1⟩
      have hbl := hb.trans (hb1.mono hb.size)
      by_cases hok : p xs[k] = true
      · go_wp2_with fail
        go_returns
        exact ⟨ret_int (idxI_hit p xs k hlt HA.out hok).symm, hbl⟩
      · have hok' : p xs[k] = false := by simpa using hok
        go_wp2_with fail
        go_roundw
        case rel => exact ⟨k + 1, by omega, by go_num, by rw [take_succ_get xs k hlt]; intro x hx; rcases List.mem_append.1 hx with h | h; exact HA.out x h; simp at h; subst h; exact hok', hbl⟩
        case measure => simp [intOf]; omega
    · have hke : xs.length ≤ k := by omega
      go_wp2_with fail
      go_returns
      exact ⟨ret_int (idxI_miss p xs (by have := HA.out; rwa [List.take_of_length_le hke] at this)).symm, hb⟩
theorem containsT_c (xs : List Trial) (A : Option Addr) (c : Nat) (w : World) (g : FuncId) (p : Trial → Bool) (hr : Rd encTrial 3 w.heap.size w A xs) (hn : xs.length ≤ 1048576) (hg : ∀ args W, (callFunc g args).run Tryd.prog W = .ok (.enter g args) W)
    (hp : ∀ (x : Trial) (W : World), Calls Tryd.prog g #[.agg #[.int .i64 x.real, .int .i64 x.fake, .int .i64 x.price]] W (Ret (.bool (p x)) W)) :
    Calls Tryd.prog 43 #[.slice A xs.length c, .func (.func g) #[] #[]] w (Ret (.bool (xs.any p)) w) := by
  have HP := Lib.hid hp
  clear hp
  go_enter Tryd.func43, Tryd.ntmps43
  go_wp2_with fail
  refine (indexT_c xs _ _ _ _ p hr hn hg HP.out).mono ?_
  rintro e w1 ⟨rfl, hb1⟩
  go_wp2_with fail
  go_returns
  exact ⟨ret_bool (idxI_any p xs), hb1⟩
set_option maxHeartbeats 400000 in
theorem areTrials_c (xs : List Trial) (A : Option Addr) (c : Nat) (w : World) (hr : Rd encTrial 3 w.heap.size w A xs) (hn : xs.length ≤ 1048576) :
    Calls Tryd.prog 26 #[.slice A xs.length c] w (Ret (.bool (goodT xs)) w) := by
  by_cases h6 : xs.length ≤ 6
  · have h6' : (xs.length : Int) ≤ 6 := by omega
    go_enter Tryd.func26, Tryd.ntmps26
    go_wp2_with fail
    refine (containsT_c xs _ _ _ _ (fun t => !t.ok) hr hn (enters Tryd.func44 (by kernel_rfl) rfl) areTrials1_c).mono ?_
    rintro e w1 ⟨rfl, hb1⟩
    go_wp2_with fail
    go_returns
    exact ⟨ret_bool (by simp [goodT, h6, List.all_eq_not_any_not]), hb1⟩
  · have h6' : ¬ (xs.length : Int) ≤ 6 := by omega
    go_enter Tryd.func26, Tryd.ntmps26
    go_wp2_with fail
    go_returns
    exact ⟨ret_bool (by simp [goodT, h6]), Below.refl _ _⟩
theorem specAreTrials_c (xs : List Trial) (A : Option Addr) (c : Nat) (w : World) (hr : Rd encTrial 3 w.heap.size w A xs) (hn : xs.length ≤ 1048576) :
    Calls Tryd.prog 9 #[.slice A xs.length c] w (Ret (.bool (goodT xs)) w) := by
  go_enter Tryd.func9, Tryd.ntmps9
  go_wp2_with fail
  refine (l16Good_c xs _ _ _ hr hn).mono ?_
  rintro e w1 ⟨rfl, hb1⟩
  go_wp2_with fail
  go_returns
  exact ⟨rfl, hb1⟩
theorem implAreTrials_c (xs : List Trial) (A : Option Addr) (c : Nat) (w : World) (hr : Rd encTrial 3 w.heap.size w A xs) (hn : xs.length ≤ 1048576) :
    Calls Tryd.prog 8 #[.slice A xs.length c] w (Ret (.bool (goodT xs)) w) := by
  go_enter Tryd.func8, Tryd.ntmps8
  go_wp2_with fail
  refine (areTrials_c xs _ _ _ hr hn).mono ?_
  rintro e w1 ⟨rfl, hb1⟩
  go_wp2_with fail
  go_returns
  exact ⟨rfl, hb1⟩
end Go.Proofs.YtdekdjpdpknelaaDoor
